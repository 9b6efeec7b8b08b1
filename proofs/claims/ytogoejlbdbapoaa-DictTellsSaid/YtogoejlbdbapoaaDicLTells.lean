/- DictTells: the walk, joined. -/
import Derived.Test.YtogoejlbdbapoaaDicLTellsY
import Derived.Test.YtogoejlbdbapoaaDicLTellsN
namespace Go.Proofs.Ytogoejlbdbapoaa
set_option maxRecDepth 100000
set_option maxHeartbeats 2000000
set_option linter.unusedVariables false
set_option linter.unusedSimpArgs false
open Go.RowKit

theorem dtells_walk (v0 : Value) (D : Dic) (v1 : Value) (L : List ByteArray) (v2 : Value) (N : List Int) (w : World)
    (h0 : ∃ vs, v0 = dv vs ∧ DicV w vs D ∧ ∀ i, i < 5 → ∀ s ∈ (D i).1, s.size ≤ 9223372036854775807) (h1 : Strs w v1 L ∧ ∀ s ∈ L, s.size ≤ 9223372036854775807) (h2 : Ints w .i64 v2 N) (h3 : ∀ x ∈ N, -9223372036854775808 ≤ x ∧ x ≤ 9223372036854775807) :
    Calls Try.prog 7 #[v0, v1, v2] w fun e w' => e = .returned (.bool true) ∧ Ext w w' := by
  by_cases hok : DicOK (cutD D)
  · exact dtells_yes v0 D v1 L v2 N w h0 h1 h2 h3 hok
  · exact dtells_no v0 D v1 L v2 N w h0 h1 h2 h3 hok
end Go.Proofs.Ytogoejlbdbapoaa
