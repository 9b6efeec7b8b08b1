/- Dictionaries: five tables; the tables of all kinds, told one by one. -/
import Derived.Test.YtogoejlbdbapoaaDicA
import Derived.Test.YtogoejlbdbapoaaTabX4
import Derived.Test.YtogoejlbdbapoaaOverI
namespace Go.Proofs.Ytogoejlbdbapoaa
set_option maxRecDepth 100000
set_option maxHeartbeats 2000000
set_option linter.unusedVariables false
set_option linter.unusedSimpArgs false
open Go.RowKit Go.Shelf
attribute [local go_sem] Oper.semAt_some wide_fn wide_depth

/-- The values of five tables, one behind the other. -/
def dcells (vs : Nat → Value × Value) : List Value := [(vs 0).1, (vs 0).2, (vs 1).1, (vs 1).2, (vs 2).1, (vs 2).2, (vs 3).1, (vs 3).2, (vs 4).1, (vs 4).2]
def dv (vs : Nat → Value × Value) : Value := .agg (dcells vs).toArray
/-- A dictionary's tables: texts, and slots. -/
abbrev Dic := Nat → List ByteArray × List Int
def TabV (w : World) (v : Value × Value) (t : List ByteArray × List Int) : Prop := ∃ a n c b m d, v = (.slice a n c, .slice b m d) ∧ Strs w (.slice a n c) t.1 ∧ Ints w .i64 (.slice b m d) t.2
def DicV (w : World) (vs : Nat → Value × Value) (D : Dic) : Prop := ∀ i, i < 5 → TabV w (vs i) (D i)
theorem TabV.ext {w w' : World} {v : Value × Value} {t : List ByteArray × List Int} (h : TabV w v t) (hx : Ext w w') : TabV w' v t := by
  obtain ⟨a, n, c, b, m, d, e, h1, h2⟩ := h
  exact ⟨a, n, c, b, m, d, e, h1.ext hx, h2.ext hx⟩
theorem DicV.ext {w w' : World} {vs : Nat → Value × Value} {D : Dic} (h : DicV w vs D) (hx : Ext w w') : DicV w' vs D := fun i hi => (h i hi).ext hx
/-- It can be gone through. -/
def DicS (D : Dic) : Prop := ∀ i, i < 5 → (D i).1.length ≤ 4096 ∧ (D i).2.length ≤ 4096 ∧ ∀ s ∈ (D i).1, s.size ≤ 9223372036854775807
theorem ix_any (vs : Nat → Value × Value) (k : Nat) (h : k < 5) (w : World) : (Instr.index 26 (.agg #[(vs 0).1, (vs 0).2, (vs 1).1, (vs 1).2, (vs 2).1, (vs 2).2, (vs 3).1, (vs 3).2, (vs 4).1, (vs 4).2]) (.int .i64 k)).run Try.prog w = .ok (.agg #[(vs k).1, (vs k).2]) w := by
  have hc : k = 0 ∨ k = 1 ∨ k = 2 ∨ k = 3 ∨ k = 4 := by omega
  rcases hc with rfl | rfl | rfl | rfl | rfl <;> rfl
theorem RowAt.facts10 {w : World} {g : Nat} {t : TypeId} {vs : Nat → Value × Value} (h : RowAt w g t (dcells vs)) : w.cell? ⟨g, 0, none⟩ = some (vs 0).1 ∧ w.cell? ⟨g, 1, none⟩ = some (vs 0).2 ∧ w.cell? ⟨g, 2, none⟩ = some (vs 1).1 ∧ w.cell? ⟨g, 3, none⟩ = some (vs 1).2 ∧ w.cell? ⟨g, 4, none⟩ = some (vs 2).1 ∧ w.cell? ⟨g, 5, none⟩ = some (vs 2).2 ∧ w.cell? ⟨g, 6, none⟩ = some (vs 3).1 ∧ w.cell? ⟨g, 7, none⟩ = some (vs 3).2 ∧ w.cell? ⟨g, 8, none⟩ = some (vs 4).1 ∧ w.cell? ⟨g, 9, none⟩ = some (vs 4).2 :=
  ⟨h.cell (i := 0) rfl, h.cell (i := 1) rfl, h.cell (i := 2) rfl, h.cell (i := 3) rfl, h.cell (i := 4) rfl, h.cell (i := 5) rfl, h.cell (i := 6) rfl, h.cell (i := 7) rfl, h.cell (i := 8) rfl, h.cell (i := 9) rfl⟩
theorem kinds_any (vs : Nat → Value × Value) (w : World) : Calls Try.prog 40 #[dv vs] w fun e w' =>
    e = .returned (.func (.func 63) #[] #[.pointer (some ⟨w.heap.size, 0, none⟩)]) ∧ w' = w.alloc (.cells (dcells vs).toArray 28) := by
  unfold dv dcells
  go_enter Try.func40, Try.ntmps40
  go_wp2
  go_ret
  exact ⟨rfl, rfl⟩
theorem kinds_iter (vs : Nat → Value × Value) (x : Nat) (hsh : ∀ i, i < 5 → ∃ a n c b m d, vs i = (.slice a n c, .slice b m d)) :
    IterI Try.prog 63 #[.pointer (some ⟨x, 0, none⟩)] (fun W => RowAt W x 28 (dcells vs)) 5 (fun k _ args => args = #[.int .i64 k, .agg #[(vs k).1, (vs k).2]]) := by
  intro L W J Js hB hJ hJs hround h0
  refine callsIn_of_wp Try.func63 rfl trivial ?_
  simp only [Try.ntmps63, List.size_toArray, List.length_cons, List.length_nil, Nat.reduceAdd, Nat.reduceSub, Array.replicate_succ, Array.replicate_zero, List.push_toArray, List.append_toArray, List.nil_append, List.cons_append]
  have hr0 := hB 0 W h0
  obtain ⟨c0, c1, c2, c3, c4, c5, c6, c7, c8, c9⟩ := hr0.facts10
  have HIX := Lib.hid (ix_any vs)
  have HJ := Lib.hid hJ
  clear hr0
  gi_wp2_with fail
  clear c0 c1 c2 c3 c4 c5 c6 c7 c8 c9
  gi_loopw [7] (fun i wr => ∃ k : Nat, k ≤ 5 ∧ i = .int .i64 k ∧ J k wr) (fun i _ => 5 - (intOf i).toNat)
  case atStart => exact ⟨0, Nat.zero_le _, rfl, h0⟩
  case round =>
    obtain ⟨k, hk, rfl, hj⟩ := hrel
    by_cases hlt : k < 5
    · have ix := HIX.out k hlt
      obtain ⟨a, n, c, b, m, d, hv⟩ := hsh k hlt
      rw [hv] at ix
      dsimp only at ix
      obtain ⟨fn', tmps', assign', body', hy, hR⟩ := hround k #[.int .i64 k, .agg #[.slice a n c, .slice b m d]] (wr.alloc (.cells #[.slice a n c, .slice b m d] 25)) hlt (HJ.out _ _ _ hj (Ext.alloc _ _)) (by rw [hv])
      gi_wp2_with fail
      refine hR.mono ?_
      rintro e W3 (⟨rfl, hj3⟩ | ⟨rfl, hj3⟩)
      · gi_wp2
        exact ⟨⟨k + 1, by omega, by go_num, hj3⟩, by simp [intOf]; omega⟩
      · gi_wp2
        exact bodyPost_ret (results_none rfl _ _ _) rfl ⟨⟨_, rfl⟩, .inr hj3⟩
    · gi_wp2
      go_end0
      exact ⟨⟨_, rfl⟩, .inl (by rw [show 5 = k from by omega]; exact hj)⟩
end Go.Proofs.Ytogoejlbdbapoaa
