/- Arguments that are texts, numbers. -/
import Derived.Test.YtogoejlbdbapoaaOpenB
import Derived.Test.YtogoejlbdbapoaaProg
namespace Go.Proofs.Ytogoejlbdbapoaa
set_option maxRecDepth 100000
set_option maxHeartbeats 2000000
set_option linter.unusedVariables false
set_option linter.unusedSimpArgs false
open Go.ChangeShapes Go.WideShapes Go.ChangeAt Go.RowKit

theorem open_strs {H : Type} {enc : TypeId × Value → H} {w : World} {M : Reach} {base base' : Nat} {spare : Nat → Bool} {held : Bool} {v : Value} {d : DataW H} {p : List MemPlace}
    (ho : Value.okWide Try.prog w M base' 22 v) (h : DataW.Trod enc Try.prog w base spare held 22 v d p) :
    ∃ ss, Strs w v ss ∧ ∀ s ∈ ss, s.size ≤ 9223372036854775807 := by
  obtain ⟨a, len, cap, rfl⟩ := okWide_slice Try.underlying22 ho
  exact open_Strs Try.underlying22 Try.underlying9 (by kernel_rfl) h
end Go.Proofs.Ytogoejlbdbapoaa
