/- Rows of numbers among a law's arguments. -/
import Derived.Test.YtkmbnghghbfkdaaGreatGp01
import Derived.Test.YtkmbnghghbfkdaaGreatProg
namespace Go.Proofs.YtkmbnghghbfkdaaGreat
set_option maxRecDepth 100000
set_option maxHeartbeats 2000000
set_option linter.unusedVariables false
set_option linter.unusedSimpArgs false
open Go.ChangeShapes Go.WideShapes Go.ChangeAt Go.RowKit

theorem open_rows {H : Type} {enc : TypeId × Value → H} {w : World} {M : Reach} {base base' : Nat} {spare : Nat → Bool} {held : Bool} {v : Value} {d : DataW H} {p : List MemPlace}
    (ho : Value.okWide Tryz.prog w M base' 58 v) (h : DataW.Trod enc Tryz.prog w base spare held 58 v d p) :
    ∃ xs, RowsV w .u64 v xs ∧ ∀ x ∈ xs, ∀ n ∈ x.2, 0 ≤ n ∧ n < 18446744073709551616 := by
  obtain ⟨a, len, cap, rfl⟩ := okWide_slice Tryz.underlying58 ho
  obtain ⟨xs, h1, h2⟩ := open_Rows Tryz.underlying58 Tryz.underlying59 Tryz.underlying61 (by kernel_rfl) (by kernel_rfl) h
  exact ⟨xs, h1, fun x hx n hn => bd_u64 (h2 x hx n hn)⟩
end Go.Proofs.YtkmbnghghbfkdaaGreat
