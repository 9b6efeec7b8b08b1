/- What my walks lean on, in one place. No program in sight. -/
import Derived.Test.YtogoejlbdbapoaaMake
import Derived.Test.YtogoejlbdbapoaaTail
import Derived.Deep.DeepCutAuto
import Derived.Deep.CutBlock
import Derived.Deep.LoopGhost
import Derived.Deep.RegionHeld3
import Derived.Deep.RegionLaw
import Derived.Deep.RegionWith
import Derived.IntWalk
import Derived.Outline
import Derived.Maps.RangeRun
import Derived.Laws.RangeAny
import Derived.Laws.EntriesVeiled
namespace Go.Proofs.Ytogoejlbdbapoaa
set_option maxRecDepth 100000
set_option maxHeartbeats 2000000
set_option linter.unusedVariables false
set_option linter.unusedSimpArgs false
end Go.Proofs.Ytogoejlbdbapoaa
