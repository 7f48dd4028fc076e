/- My texts joined: EvT98. No condition. -/
import Derived.Test.YtngbcdcghbapnaaGreatDoorEs12
set_option linter.unusedVariables false
set_option linter.unusedSimpArgs false

set_option maxRecDepth 100000
set_option maxHeartbeats 8000000
namespace Go.Ev
open Go.Proofs
theorem sameWorld_self (w:WorldT):sameWorld w w=true:=by
 have h1:∀ xs:List Int,eqL eqI xs xs=true:=eqL_refl fun x=>by simp [eqI]
 have h2:∀ xs:List Bs,eqL eqS xs xs=true:=eqL_refl fun x=>by simp
 have h3:∀ xs:List OwnT,eqL sameOwn xs xs=true:=eqL_refl fun x=>by simp [sameOwn]
 have h4:∀ xs:List ReqT,eqL sameReq xs xs=true:=eqL_refl fun x=>by simp [sameReq,eqI]
 have h5:∀ xs:List Bool,eqL sameB xs xs=true:=eqL_refl fun x=>by cases x<;>rfl
 simp [sameWorld,sameLay,sameStore,h1,h2,h3,h4,h5,locks_self,eqI]
end Go.Ev

