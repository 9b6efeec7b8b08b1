/- Arguments that are texts, numbers. -/
import Derived.Test.YtkhmkgobmfhchaaOpenB
import Derived.Test.YtkhmkgobmfhchaaProg
namespace Go.Proofs.Ytkhmkgobmfhchaa
open Go.ChangeShapes Go.WideShapes Go.ChangeAt Go.RowKit

theorem open_strs {H : Type} {enc : TypeId × Value → H} {w : World} {M : Reach} {base base' : Nat} {spare : Nat → Bool} {held : Bool} {v : Value} {d : DataW H} {p : List MemPlace}
    (ho : Value.okWide Try.prog w M base' 22 v) (h : DataW.Trod enc Try.prog w base spare held 22 v d p) :
    ∃ ss, Strs w v ss ∧ ∀ s ∈ ss, s.size ≤ 9223372036854775807 := by
  obtain ⟨a, len, cap, rfl⟩ := okWide_slice Try.underlying22 ho
  exact open_Strs Try.underlying22 Try.underlying9 (by kernel_rfl) h
end Go.Proofs.Ytkhmkgobmfhchaa
