/- The reference's Stands and Right. -/
import Derived.Test.YtofglbngnjcpeaaDoorLexS
namespace Go.Proofs.YtofglbngnjcpeaaDoor
set_option maxRecDepth 100000
set_option maxHeartbeats 2000000
set_option linter.unusedVariables false
set_option linter.unusedSimpArgs false
open Go.RowKit

theorem standsL_signR {k : Int} (h1 : k ≠ 1) (h2 : k ≠ 2) (h3 : k ≠ 3) (l : List UInt8) : standsL k l = signR k := by unfold standsL signR; rw [if_neg h1, if_neg h2, if_neg h3]
/-- The reference: may a token be? -/
def rightB (k : Int) (l : List UInt8) (at_ : Int) : Bool :=
  if at_ < 0 then false else if k = 1 ∨ k = 2 then allB letterC 1 32 l else if k = 3 then allB quotedC 0 40 l else decide (4 ≤ k ∧ k ≤ 11 ∧ l = [])
end Go.Proofs.YtofglbngnjcpeaaDoor
