/- My texts joined: EvT98. No condition. -/
import Derived.Test.YtngbcdcghbapnaaGreatDoorEn33
set_option linter.unusedVariables false
set_option linter.unusedSimpArgs false

set_option maxRecDepth 100000
set_option maxHeartbeats 8000000
namespace Go.Ev
open Go.Proofs
theorem WorldP.locksB {w:WorldT} (h:WorldP w):w.locks.length≤4000000∧∀ y∈w.locks,holdB y:=⟨h.wc.toWorldB.locks,h.wc.toWorldB.holds⟩
end Go.Ev

