/- An argument that is a dictionary. -/
import Derived.Test.YtogoejlbdbapoaaOpenT
import Derived.Test.YtogoejlbdbapoaaOpenS
import Derived.Test.YtogoejlbdbapoaaDicD
import Derived.OpenShut
import Derived.ChangeSame
namespace Go.Proofs.Ytogoejlbdbapoaa
set_option maxRecDepth 100000
set_option maxHeartbeats 2000000
set_option linter.unusedVariables false
set_option linter.unusedSimpArgs false
open Go.ChangeShapes Go.WideShapes Go.ChangeAt Go.RowKit Go.Deep Go.Joins

theorem ten {α : Type} {cs : Array α} (h : cs.size = 10) : ∃ c0 c1 c2 c3 c4 c5 c6 c7 c8 c9, cs = #[c0, c1, c2, c3, c4, c5, c6, c7, c8, c9] := by
  obtain ⟨l⟩ := cs
  match l, h with
  | [c0, c1, c2, c3, c4, c5, c6, c7, c8, c9], _ => exact ⟨c0, c1, c2, c3, c4, c5, c6, c7, c8, c9, rfl⟩
theorem open_tab {H : Type} {enc : TypeId × Value → H} {w : World} {base : Nat} {spare : Nat → Bool} {held : Bool} {m : Nat} {x y : Value} {z : DataW H × List MemPlace}
    (h : DataW.trod enc Try.prog w base spare held m 25 [x, y] = some z) : ∃ T S, TabV w (x, y) (T, S) ∧ ∀ s ∈ T, s.size ≤ 9223372036854775807 := by
  obtain ⟨y0, y1, n, _, _, h0, h1⟩ := trod_struct2 Try.underlying25 h
  have h0' : DataW.trod enc Try.prog w base spare held n 22 [x] = some y0 := h0
  have h1' : DataW.trod enc Try.prog w base spare held n 23 [y] = some y1 := h1
  obtain ⟨a, len, cap, rfl⟩ := trod_slice_shape Try.underlying22 h0'
  obtain ⟨b, len', cap', rfl⟩ := trod_slice_shape Try.underlying23 h1'
  obtain ⟨T, hT, hTs⟩ := open_Strs (d := y0.1) (p := y0.2) Try.underlying22 Try.underlying9 (by kernel_rfl) ⟨n, by simpa [Value.cells] using h0'⟩
  obtain ⟨S, hS, _⟩ := open_Ints (d := y1.1) (p := y1.2) Try.underlying23 Try.underlying3 (by kernel_rfl) ⟨n, by simpa [Value.cells] using h1'⟩
  exact ⟨T, S, ⟨_, _, _, _, _, _, rfl, hT, hS⟩, hTs⟩
theorem open_dict {H : Type} {enc : TypeId × Value → H} {w : World} {M : Reach} {base base' : Nat} {spare : Nat → Bool} {held : Bool} {v : Value} {d : DataW H} {p : List MemPlace}
    (ho : Value.okWide Try.prog w M base' 28 v) (h : DataW.Trod enc Try.prog w base spare held 28 v d p) :
    ∃ D vs, v = dv vs ∧ DicV w vs D ∧ ∀ i, i < 5 → ∀ s ∈ (D i).1, s.size ≤ 9223372036854775807 := by
  obtain ⟨cs, rfl, hsz⟩ := okWide_struct Try.underlying28 ho
  have hC : Try.prog.cellsOf 28 = 10 := by kernel_rfl
  obtain ⟨c0, c1, c2, c3, c4, c5, c6, c7, c8, c9, rfl⟩ := ten (hsz.trans hC)
  obtain ⟨fuel, hf⟩ := h
  obtain ⟨y0, n, _, _, h0⟩ := trod_struct1 Try.underlying28 hf
  have hA : Try.prog.cellsOf 26 = 10 := by kernel_rfl
  have hT : Try.prog.cellsOf 25 = 2 := by kernel_rfl
  rw [hA] at h0
  have h0' : DataW.trod enc Try.prog w base spare held n 26 [c0, c1, c2, c3, c4, c5, c6, c7, c8, c9] = some y0 := h0
  obtain ⟨xs, m, _, _, _, hl, hx⟩ := DataW.trod_array Try.underlying26 h0'
  rw [hT] at hx
  have hg : ∀ i, i < 5 → ∃ z, xs[i]? = some z := fun i hi => ⟨xs[i]'(by omega), List.getElem?_eq_getElem _⟩
  obtain ⟨z0, e0⟩ := hg 0 (by omega)
  obtain ⟨z1, e1⟩ := hg 1 (by omega)
  obtain ⟨z2, e2⟩ := hg 2 (by omega)
  obtain ⟨z3, e3⟩ := hg 3 (by omega)
  obtain ⟨z4, e4⟩ := hg 4 (by omega)
  obtain ⟨T0, S0, t0, s0⟩ := open_tab (x := c0) (y := c1) ((hx 0 (by omega)).trans e0)
  obtain ⟨T1, S1, t1, s1⟩ := open_tab (x := c2) (y := c3) ((hx 1 (by omega)).trans e1)
  obtain ⟨T2, S2, t2, s2⟩ := open_tab (x := c4) (y := c5) ((hx 2 (by omega)).trans e2)
  obtain ⟨T3, S3, t3, s3⟩ := open_tab (x := c6) (y := c7) ((hx 3 (by omega)).trans e3)
  obtain ⟨T4, S4, t4, s4⟩ := open_tab (x := c8) (y := c9) ((hx 4 (by omega)).trans e4)
  refine ⟨fun i => match i with | 0 => (T0, S0) | 1 => (T1, S1) | 2 => (T2, S2) | 3 => (T3, S3) | _ => (T4, S4), fun i => match i with | 0 => (c0, c1) | 1 => (c2, c3) | 2 => (c4, c5) | 3 => (c6, c7) | _ => (c8, c9), rfl, fun i hi => ?_, fun i hi => ?_⟩
  · have hc : i = 0 ∨ i = 1 ∨ i = 2 ∨ i = 3 ∨ i = 4 := by omega
    rcases hc with rfl | rfl | rfl | rfl | rfl
    · exact t0
    · exact t1
    · exact t2
    · exact t3
    · exact t4
  · have hc : i = 0 ∨ i = 1 ∨ i = 2 ∨ i = 3 ∨ i = 4 := by omega
    rcases hc with rfl | rfl | rfl | rfl | rfl
    · exact s0
    · exact s1
    · exact s2
    · exact s3
    · exact s4
end Go.Proofs.Ytogoejlbdbapoaa
