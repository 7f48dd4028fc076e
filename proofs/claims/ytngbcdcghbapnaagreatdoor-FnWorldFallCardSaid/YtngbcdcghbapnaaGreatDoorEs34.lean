/- My texts joined: EvT103. No condition. -/
import Derived.Test.YtngbcdcghbapnaaGreatDoorEs7
import Derived.Test.YtngbcdcghbapnaaGreatDoorEs11
import Derived.Test.YtngbcdcghbapnaaGreatDoorEs13
import Derived.Test.YtngbcdcghbapnaaGreatDoorEs16
import Derived.Test.YtngbcdcghbapnaaGreatDoorEs20
set_option linter.unusedVariables false
set_option linter.unusedSimpArgs false

set_option maxRecDepth 100000
set_option maxHeartbeats 8000000
namespace Go.Ev
open Go.Proofs
theorem fall_self {w:WorldT} (h:WorldP w):doW w ⟨6,0,false,(0,0),0,[]⟩=(w,[],0):=by
 unfold doW
 rw [if_neg (by decide),if_pos rfl,h.kept]
theorem law_FnWorldFall (code:List UInt8):ev E 4 [.v .ro false [.sl (rowsOfBytes code)]]=some (rB true):=by
 cases e0:ltI 1048576 code.length
 case true =>
  rw [ev_fn Tryz.f4 rfl Tryz.func4 rfl rfl rfl (Nat.le_of_ble_eq_true rfl)]
  simp [e0]
 obtain ⟨m,w,hm,C,c1⟩:=ev_DrawWorldText code
 have c2:=fun m me hm=>ev_impl_WorldDo m me hm w C ⟨6,0,false,(0,0),0,[]⟩ (by simp) (by simp)
 have c3:=fun m me hm=>ev_spec_WorldDo m me hm w C ⟨6,0,false,(0,0),0,[]⟩ (by simp)
 have c4:=fun m hm=>ev_spec_WorldOk m hm w C
 have c5:=fun m m' hm hm'=>ev_impl_WorldSame m m' hm hm' w w C.toWorldB
 rw [sameWorld_self] at c5
 cases e1:worldOk w
 ·rw [noDo e1] at c2 c3
  rw [e1] at c4
  simp only [rWS,evL] at c2 c3
  rw [ev_fn Tryz.f4 rfl Tryz.func4 rfl rfl rfl (Nat.le_of_ble_eq_true rfl)]
  rcases hm with rfl | rfl | rfl<;>simp [e0,c1,c2,c3,c4,e1]
 ·have P:=worldOk_iff.1 e1
  rw [P.doIs,fall_self P] at c2 c3
  rw [e1] at c4
  simp only [rWS,evL] at c2 c3
  rw [ev_fn Tryz.f4 rfl Tryz.func4 rfl rfl rfl (Nat.le_of_ble_eq_true rfl)]
  rcases hm with rfl | rfl | rfl<;>simp [e0,c1,c2,c3,c4,c5,e1]
end Go.Ev

