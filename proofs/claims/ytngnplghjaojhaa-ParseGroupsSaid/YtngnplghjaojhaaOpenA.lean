/- An argument that is a pair of integers. -/
import Derived.Test.YtngnplghjaojhaaProg
import Derived.Test.YtngnplghjaojhaaGenX1
import Derived.Lib.SmallJoins
import Derived.OpenShut
import Derived.ChangeSame
namespace Go.Proofs.Ytngnplghjaojhaa
set_option maxRecDepth 100000
set_option maxHeartbeats 2000000
set_option linter.unusedVariables false
set_option linter.unusedSimpArgs false
open Go.ChangeShapes Go.WideShapes Go.ChangeAt Go.RowKit

theorem open_pair2 {H : Type} {enc : TypeId × Value → H} {w : World} {M : Reach} {base base' : Nat} {spare : Nat → Bool} {held : Bool} {v : Value} {d : DataW H} {p : List MemPlace}
    (ho : Value.okWide Try.prog w M base' 57 v) (h : DataW.Trod enc Try.prog w base spare held 57 v d p) :
    ∃ x y : Int, v = .agg #[.int .i64 x, .int .i64 y] ∧ (-9223372036854775808 ≤ x ∧ x ≤ 9223372036854775807) := by
  have hA : Try.prog.cellsOf 57 = 2 := by kernel_rfl
  have hI : Try.prog.cellsOf 3 = 1 := by kernel_rfl
  unfold Value.okWide at ho
  rw [Try.underlying57] at ho
  obtain ⟨cs, rfl, hsz, _⟩ := ho
  rw [hA] at hsz
  obtain ⟨fuel, hf⟩ := h
  obtain ⟨c0, c1, rfl⟩ : ∃ c0 c1, cs = #[c0, c1] := by
    obtain ⟨l⟩ := cs
    match l, hsz with
    | [c0, c1], _ => exact ⟨c0, c1, rfl⟩
  have hf' : DataW.trod enc Try.prog w base spare held fuel 57 [c0, c1] = some (d, p) := hf
  obtain ⟨xs, m, _, _, _, hl, hx⟩ := DataW.trod_array Try.underlying57 hf'
  rw [hI] at hx
  obtain ⟨z0, e0⟩ : ∃ z, xs[0]? = some z := ⟨xs[0]'(by omega), List.getElem?_eq_getElem _⟩
  obtain ⟨z1, e1⟩ : ∃ z, xs[1]? = some z := ⟨xs[1]'(by omega), List.getElem?_eq_getElem _⟩
  have h0 : DataW.trod enc Try.prog w base spare held m 3 [c0] = some z0 := (hx 0 (by omega)).trans e0
  have h1 : DataW.trod enc Try.prog w base spare held m 3 [c1] = some z1 := (hx 1 (by omega)).trans e1
  obtain ⟨n0, q0, _, w0⟩ := DataW.trod_int Try.underlying3 h0
  obtain ⟨n1, q1, _, w1⟩ := DataW.trod_int Try.underlying3 h1
  cases q0
  cases q1
  exact ⟨n0, n1, rfl, bd_i64 w0⟩
end Go.Proofs.Ytngnplghjaojhaa
