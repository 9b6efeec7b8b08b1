/- Rows of changes; does the layer do anything? It does. -/
import Derived.Test.YtilbofkpjgcchaaDoorBatJ
import Derived.Laws.StructEq
namespace Go.Proofs.YtilbofkpjgcchaaDoor
set_option maxRecDepth 100000
set_option maxHeartbeats 2000000
set_option linter.unusedVariables false
set_option linter.unusedSimpArgs false
open Go.RowKit

def Chs (w : World) (v : Value) (l : List Ch) : Prop := Sl w v l.length (l.flatMap Ch.cells)
theorem Chs.ext {w w' : World} {v : Value} {l : List Ch} (h : Chs w v l) (hx : Ext w w') : Chs w' v l := Sl.ext h hx
theorem Chs.shape {w : World} {v : Value} {l : List Ch} (h : Chs w v l) : ∃ a c, v = .slice a l.length c ∧ l.length ≤ c ∧ c ≤ 9223372036854775807 := by
  obtain ⟨a, c, rfl, h1, h2, _⟩ := h
  exact ⟨a, c, rfl, h1, h2⟩
theorem Chs.at_ {w : World} {a : Option Addr} {n c : Nat} {l : List Ch} (h : Chs w (.slice a n c) l) {k : Nat} (hk : k < l.length) : ∃ b o, a = some ⟨b, o, none⟩ ∧
    w.cell? ⟨b, o + k * 5, none⟩ = some (.int .i64 l[k].kind) ∧ w.cell? ⟨b, o + k * 5 + 1, none⟩ = some (.string l[k].key) ∧ w.cell? ⟨b, o + k * 5 + 2, none⟩ = some (.string l[k].name) ∧ w.cell? ⟨b, o + k * 5 + 3, none⟩ = some (.string l[k].val) ∧ w.cell? ⟨b, o + k * 5 + 4, none⟩ = some (.string l[k].to_) := by
  obtain ⟨a', c', e, _, _, hc⟩ := id h
  simp only [Value.slice.injEq] at e
  obtain ⟨rfl, _, rfl⟩ := e
  have hlen := flatMap_len Ch.cells 5 (fun _ => rfl) l
  obtain ⟨b, o, rfl, hcell⟩ := hc (by omega)
  have h0 := flatMap_at Ch.cells 5 (fun _ => rfl) l k 0 hk (by omega)
  have h1 := flatMap_at Ch.cells 5 (fun _ => rfl) l k 1 hk (by omega)
  have h2 := flatMap_at Ch.cells 5 (fun _ => rfl) l k 2 hk (by omega)
  have h3 := flatMap_at Ch.cells 5 (fun _ => rfl) l k 3 hk (by omega)
  have h4 := flatMap_at Ch.cells 5 (fun _ => rfl) l k 4 hk (by omega)
  exact ⟨b, o, rfl, hcell _ _ h0, by rw [Nat.add_assoc]; exact hcell _ _ h1, by rw [Nat.add_assoc]; exact hcell _ _ h2, by rw [Nat.add_assoc]; exact hcell _ _ h3, by rw [Nat.add_assoc]; exact hcell _ _ h4⟩
theorem ReadPost.chs {w w' : World} {r : List Ch × Int × Int} {e : Ending} (h : ReadPost w r e w') : ∃ v, e = .returned (.tuple #[v, .int .i64 r.2.1, .int .i64 r.2.2]) ∧ Chs w' v r.1 ∧ Ext w w' := by
  obtain ⟨v, he, ho, hx⟩ := h
  exact ⟨v, he, Sl.of_own ho, hx⟩

def Ch.eqB (x y : Ch) : Bool := decide (x.kind = y.kind) && ((x.key.toList == y.key.toList) && ((x.name.toList == y.name.toList) && ((x.val.toList == y.val.toList) && (x.to_.toList == y.to_.toList))))
theorem Ch.eqB_iff (x y : Ch) : x.eqB y = true ↔ x = y := by
  obtain ⟨a, b, c, d, f⟩ := x
  obtain ⟨a', b', c', d', f'⟩ := y
  unfold Ch.eqB
  simp only [Bool.and_eq_true, str_beq]
  simp
theorem ch_eql (x y : Ch) (w : World) : (Op.equalIn 10000 27 (.agg #[.int .i64 x.kind, .string x.key, .string x.name, .string x.val, .string x.to_]) (.agg #[.int .i64 y.kind, .string y.key, .string y.name, .string y.val, .string y.to_])).run Tryd.prog w = .ok (x.eqB y) w := by
  unfold Ch.eqB
  rw [show (10000 : Nat) = 9999 + 1 from rfl, run_equalIn_struct (P := Tryd.prog) w 9999 27 _ _ (by kernel_rfl) (by kernel_rfl)]
  have hf : (Tryd.prog.fieldsOf 27).toList = _ := congrArg Array.toList (show Tryd.prog.fieldsOf 27 = _ by unfold Program.fieldsOf; rw [Tryd.underlying27])
  rw [hf]
  simp [Op.eqFields, go_sem, run_equalIn_int, run_equalIn_string]
  by_cases h1 : x.kind = y.kind <;> by_cases h2 : x.key.toList = y.key.toList <;> by_cases h3 : x.name.toList = y.name.toList <;> by_cases h4 : x.val.toList = y.val.toList <;> by_cases h5 : x.to_.toList = y.to_.toList <;> simp [h1, h2, h3, h4, h5]
theorem ch_neq (x y : Ch) (w : World) : (binOp .neq 27 (.agg #[.int .i64 x.kind, .string x.key, .string x.name, .string x.val, .string x.to_]) (.agg #[.int .i64 y.kind, .string y.key, .string y.name, .string y.val, .string y.to_])).run Tryd.prog w = .ok (.bool !(x.eqB y)) w := by
  rw [run_neq_struct, ch_eql]; rfl
theorem ch_eqlB (x y : Ch) (w : World) : (binOp .eql 27 (.agg #[.int .i64 x.kind, .string x.key, .string x.name, .string x.val, .string x.to_]) (.agg #[.int .i64 y.kind, .string y.key, .string y.name, .string y.val, .string y.to_])).run Tryd.prog w = .ok (.bool (x.eqB y)) w := by
  rw [run_eql_struct, ch_eql]; rfl

def wakeC : Ch := ⟨5, ⟨#[97, 110, 110]⟩, ⟨#[97, 103, 101]⟩, ⟨#[52, 49]⟩, ⟨#[]⟩⟩
def wake2C : Ch := ⟨3, ⟨#[97, 110, 110]⟩, ⟨#[112, 101, 114, 115, 111, 110]⟩, ⟨#[]⟩, ⟨#[]⟩⟩
theorem wake0 : lineE wakeC = .tuple #[.string ⟨#[115, 101, 116, 32, 97, 110, 110, 32, 97, 103, 101, 32, 34, 52, 49, 34]⟩, .int .i64 0] := by kernel_rfl
theorem wake1 : readF (bts ⟨#[97, 100, 100, 32, 97, 110, 110, 10, 108, 97, 98, 101, 108, 32, 97, 110, 110, 32, 112, 101, 114, 115, 111, 110, 10]⟩) = ([⟨1, ⟨#[97, 110, 110]⟩, ⟨#[]⟩, ⟨#[]⟩, ⟨#[]⟩⟩, wake2C], 2, 0) := by kernel_rfl
theorem wake2 : readF (bts ⟨#[97, 100, 100, 32, 97, 110, 110, 10, 97, 100, 100, 32, 65, 110, 110, 10]⟩) = ([], 2, 191) := by kernel_rfl
theorem wakes_any (w : World) (hW : Ways w) : Calls Tryd.prog 9 #[] w fun e w' => e = .returned (.bool true) ∧ Ext w w' := by
  go_enter Tryd.func9, Tryd.ntmps9
  go_wp2_with fail
  refine (line_any wakeC _ (by refine ⟨?_, ?_, ?_, ?_⟩ <;> decide) hW).mono ?_
  rintro e w1 ⟨rfl, hx1⟩
  rw [wake0]
  go_wp2_with fail
  refine (read_go _ _ (by decide) (hW.ext hx1)).mono ?_
  rintro e w2 hp1
  rw [wake1] at hp1
  obtain ⟨v1, rfl, ht1, hx2⟩ := hp1.chs
  dsimp only at ht1
  go_wp2_with fail
  refine (read_go _ _ (by decide) ((hW.ext hx1).ext hx2)).mono ?_
  rintro e w3 hp2
  rw [wake2] at hp2
  obtain ⟨v2, rfl, _, hx3⟩ := hp2.chs
  have ht3 := ht1.ext hx3
  obtain ⟨a, c, rfl, hc1, hc2⟩ := ht3.shape
  obtain ⟨b, o, rfl, p0, p1, p2, p3, p4⟩ := ht3.at_ (k := 1) (by decide)
  have hq := fun w => ch_eqlB wake2C wake2C w
  rw [(Ch.eqB_iff _ _).2 rfl] at hq
  simp only [List.length_cons, List.length_nil, Nat.reduceAdd, List.getElem_cons_succ, List.getElem_cons_zero, wake2C] at p0 p1 p2 p3 p4 hq ⊢
  have hstr := str_yes (x := (⟨#[115, 101, 116, 32, 97, 110, 110, 32, 97, 103, 101, 32, 34, 52, 49, 34]⟩ : ByteArray)) rfl
  go_wp2_with fail
  go_ret
  exact ⟨rfl, (by repeat (first | exact Ext.refl _ | with_reducible assumption | with_reducible refine Ext.alloc_of ?_ _ | with_reducible refine Ext.drewN_of ?_ _ | with_reducible refine Ext.drew_of ?_ | (with_reducible refine Ext.set_of ?_ ?hsz _; case hsz => ((first | exact Nat.le_refl _ | omega | (simp; omega)))) | with_reducible refine Ext.via (by assumption) ?_))⟩
end Go.Proofs.YtilbofkpjgcchaaDoor
