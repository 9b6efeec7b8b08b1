/- Where a field is; which changes may be. -/
import Derived.Test.YtilbofkpjgcchaaDoorBatA
namespace Go.Proofs.YtilbofkpjgcchaaDoor
set_option maxRecDepth 100000
set_option maxHeartbeats 2000000
set_option linter.unusedVariables false
set_option linter.unusedSimpArgs false
open Go.RowKit

def wayRow (k : Nat) : List Value := [.string (txt (wordOf k)), .bool (hasOf k 0), .bool (hasOf k 1), .bool (hasOf k 2), .bool (hasOf k 3)]
/-- What the ways read as. -/
def Ways (w : World) : Prop := ∀ k, k < 9 → ∀ j v, (wayRow k)[j]? = some v → w.cell? ⟨0, k * 5 + j, none⟩ = some v
theorem Ways.ext {w w' : World} (h : Ways w) (hx : Ext w w') : Ways w' := fun k hk j v hj => ext_cell hx (h k hk j v hj)
theorem Ways.at_ {w : World} (h : Ways w) {k : Nat} (hk : k < 9) : w.cell? ⟨0, k * 5, none⟩ = some (.string (txt (wordOf k))) ∧ w.cell? ⟨0, k * 5 + 1, none⟩ = some (.bool (hasOf k 0)) ∧ w.cell? ⟨0, k * 5 + 1 + 1, none⟩ = some (.bool (hasOf k 1)) ∧ w.cell? ⟨0, k * 5 + 1 + 2, none⟩ = some (.bool (hasOf k 2)) ∧ w.cell? ⟨0, k * 5 + 1 + 3, none⟩ = some (.bool (hasOf k 3)) :=
  ⟨h k hk 0 _ rfl, h k hk 1 _ rfl, h k hk 2 _ rfl, h k hk 3 _ rfl, h k hk 4 _ rfl⟩

theorem field_any (b i : Nat) (w : World) (hi : i < 4) : Calls Tryd.prog 27 #[.agg #[.pointer (some ⟨b, 0, none⟩)], .int .i64 i] w fun e w' => e = .returned (.pointer (some ⟨b, i + 1, none⟩)) ∧ Ext w w' := by
  have hr := RowAt.new w 51 [.pointer (some ⟨b, 0, none⟩)]
  have hcases : i = 0 ∨ i = 1 ∨ i = 2 ∨ i = 3 := by omega
  have i0 : ∀ w, (Instr.index 77 (.agg #[.pointer (some ⟨b, 1, none⟩), .pointer (some ⟨b, 2, none⟩), .pointer (some ⟨b, 3, none⟩), .pointer (some ⟨b, 4, none⟩)]) (.int .i64 0)).run Tryd.prog w = .ok (.pointer (some ⟨b, 1, none⟩)) w := fun _ => rfl
  have i1 : ∀ w, (Instr.index 77 (.agg #[.pointer (some ⟨b, 1, none⟩), .pointer (some ⟨b, 2, none⟩), .pointer (some ⟨b, 3, none⟩), .pointer (some ⟨b, 4, none⟩)]) (.int .i64 1)).run Tryd.prog w = .ok (.pointer (some ⟨b, 2, none⟩)) w := fun _ => rfl
  have i2 : ∀ w, (Instr.index 77 (.agg #[.pointer (some ⟨b, 1, none⟩), .pointer (some ⟨b, 2, none⟩), .pointer (some ⟨b, 3, none⟩), .pointer (some ⟨b, 4, none⟩)]) (.int .i64 2)).run Tryd.prog w = .ok (.pointer (some ⟨b, 3, none⟩)) w := fun _ => rfl
  have i3 : ∀ w, (Instr.index 77 (.agg #[.pointer (some ⟨b, 1, none⟩), .pointer (some ⟨b, 2, none⟩), .pointer (some ⟨b, 3, none⟩), .pointer (some ⟨b, 4, none⟩)]) (.int .i64 3)).run Tryd.prog w = .ok (.pointer (some ⟨b, 4, none⟩)) w := fun _ => rfl
  rcases hcases with rfl | rfl | rfl | rfl
  all_goals
    go_enter Tryd.func27, Tryd.ntmps27
    go_upto_region 1 with fail
    have hx0 := Ext.alloc w (.cells #[.pointer (some ⟨b, 0, none⟩)] 51)
    generalize w.alloc (.cells #[.pointer (some ⟨b, 0, none⟩)] 51) = w1 at *
    obtain ⟨c0, f0⟩ := hr.facts1
    go_quiet (fail)
    go_wp2_with fail
    go_ret
    exact ⟨rfl, (by repeat (first | exact Ext.refl _ | with_reducible assumption | with_reducible refine Ext.alloc_of ?_ _ | with_reducible refine Ext.drewN_of ?_ _ | with_reducible refine Ext.drew_of ?_ | (with_reducible refine Ext.set_of ?_ ?hsz _; case hsz => ((first | exact Nat.le_refl _ | omega | (simp; omega)))) | with_reducible refine Ext.via (by assumption) ?_))⟩
end Go.Proofs.YtilbofkpjgcchaaDoor
