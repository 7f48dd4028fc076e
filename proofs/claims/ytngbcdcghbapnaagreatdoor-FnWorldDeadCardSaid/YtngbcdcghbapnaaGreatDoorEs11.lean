/- My texts joined: EvT97. No condition. -/
import Derived.Test.YtngbcdcghbapnaaGreatDoorEn33
set_option linter.unusedVariables false
set_option linter.unusedSimpArgs false

set_option maxRecDepth 100000
set_option maxHeartbeats 8000000
namespace Go.Ev
open Go.Proofs
theorem WorldP.doIs {w:WorldT} (h:WorldP w) (e:EvT):worldDo w e=doW w e:=by
 unfold worldDo
 rw [if_pos (worldOk_iff.2 h)]
end Go.Ev

