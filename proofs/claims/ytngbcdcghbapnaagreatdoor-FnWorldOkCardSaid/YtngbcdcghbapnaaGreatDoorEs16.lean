/- My texts joined: EvT97. No condition. -/
import Derived.Test.YtngbcdcghbapnaaGreatDoorEn33
set_option linter.unusedVariables false
set_option linter.unusedSimpArgs false

set_option maxRecDepth 100000
set_option maxHeartbeats 8000000
namespace Go.Ev
open Go.Proofs
theorem noDo {w:WorldT} (h:worldOk w=false) (e:EvT):worldDo w e=(noW,[],20):=by
 unfold worldDo
 rw [h]
 rfl
end Go.Ev

