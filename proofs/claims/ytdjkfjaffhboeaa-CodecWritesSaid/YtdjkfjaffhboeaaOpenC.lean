/- The openers at this program's types. -/
import Derived.Test.YtdjkfjaffhboeaaOpenB
import Derived.Test.YtdjkfjaffhboeaaProg
namespace Go.Proofs.Ytdjkfjaffhboeaa
open Go.ChangeShapes Go.WideShapes Go.ChangeAt Go.RowKit

theorem open_strs {H : Type} {enc : TypeId × Value → H} {w : World} {M : Reach} {base base' : Nat} {spare : Nat → Bool} {held : Bool} {v : Value} {d : DataW H} {p : List MemPlace}
    (ho : Value.okWide Try.prog w M base' 29 v) (h : DataW.Trod enc Try.prog w base spare held 29 v d p) :
    ∃ ss, Strs w v ss ∧ ∀ s ∈ ss, s.size ≤ 9223372036854775807 := by
  obtain ⟨a, len, cap, rfl⟩ := okWide_slice Try.underlying29 ho
  exact open_Strs Try.underlying29 Try.underlying9 (by kernel_rfl) h
theorem open_rows {H : Type} {enc : TypeId × Value → H} {w : World} {M : Reach} {base base' : Nat} {spare : Nat → Bool} {held : Bool} {v : Value} {d : DataW H} {p : List MemPlace}
    (ho : Value.okWide Try.prog w M base' 30 v) (h : DataW.Trod enc Try.prog w base spare held 30 v d p) :
    ∃ xs, RowsV w .u64 v xs ∧ ∀ x ∈ xs, ∀ n ∈ x.2, 0 ≤ n ∧ n < 18446744073709551616 := by
  obtain ⟨a, len, cap, rfl⟩ := okWide_slice Try.underlying30 ho
  obtain ⟨xs, h1, h2⟩ := open_Rows Try.underlying30 Try.underlying28 Try.underlying22 (by kernel_rfl) (by kernel_rfl) h
  exact ⟨xs, h1, fun x hx n hn => bd_u64 (h2 x hx n hn)⟩
end Go.Proofs.Ytdjkfjaffhboeaa
