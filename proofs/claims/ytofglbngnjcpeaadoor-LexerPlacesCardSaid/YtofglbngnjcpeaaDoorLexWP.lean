/- The variables that the card lists. -/
import Derived.Test.YtofglbngnjcpeaaDoorRows
namespace Go.Proofs.YtofglbngnjcpeaaDoor
set_option maxRecDepth 100000
set_option maxHeartbeats 2000000
set_option linter.unusedVariables false
set_option linter.unusedSimpArgs false
def laidP : List (String × DataW Unit) := [("unicode/utf8.acceptRanges", Rows.laid_unicode_utf8_acceptRanges), ("unicode/utf8.first", Rows.laid_unicode_utf8_first)]
end Go.Proofs.YtofglbngnjcpeaaDoor
