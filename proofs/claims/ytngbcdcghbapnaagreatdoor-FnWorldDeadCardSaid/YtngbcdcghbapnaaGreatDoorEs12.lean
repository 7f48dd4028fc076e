/- My texts joined: EvT98. No condition. -/
import Derived.Test.YtngbcdcghbapnaaGreatDoorEs2
set_option linter.unusedVariables false
set_option linter.unusedSimpArgs false

set_option maxRecDepth 100000
set_option maxHeartbeats 8000000
namespace Go.Ev
open Go.Proofs
theorem eqL_refl {α:Type} {c:α→α→Bool} (hc:∀ x,c x x=true):∀ xs:List α,eqL c xs xs=true
 | []=>rfl
 | x::xs=>by rw [eqL,hc,eqL_refl hc xs];rfl
theorem locks_self (t:List HoldT):eqL sameHold t t=true:=eqL_refl (fun x=>by simp [sameHold]) t
end Go.Ev

