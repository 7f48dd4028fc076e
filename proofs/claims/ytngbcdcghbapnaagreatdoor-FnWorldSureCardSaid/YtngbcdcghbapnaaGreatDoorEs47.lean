/- My texts joined: EvT103. No condition. -/
import Derived.Test.YtngbcdcghbapnaaGreatDoorEs7
import Derived.Test.YtngbcdcghbapnaaGreatDoorEs11
import Derived.Test.YtngbcdcghbapnaaGreatDoorEs12
import Derived.Test.YtngbcdcghbapnaaGreatDoorEs16
import Derived.Test.YtngbcdcghbapnaaGreatDoorEs24
import Derived.Test.YtngbcdcghbapnaaGreatDoorEs25
set_option linter.unusedVariables false
set_option linter.unusedSimpArgs false

set_option maxRecDepth 100000
set_option maxHeartbeats 8000000
namespace Go.Ev
open Go.Proofs
theorem law_FnWorldSure (code:List UInt8):ev E 6 [.v .ro false [.sl (rowsOfBytes code)]]=some (rB true):=by
 cases e0:ltI 1048576 code.length
 case true =>
  rw [ev_fn Tryz.f6 rfl Tryz.func6 rfl rfl rfl (Nat.le_of_ble_eq_true rfl)]
  simp [e0]
 obtain ⟨m,w,hm,C,c1⟩:=ev_DrawWorldOk code
 have c2:=fun m me hm=>ev_impl_WorldDo m me hm w C ⟨5,0,false,(0,0),0,[]⟩ (by simp) (by simp)
 have c3:=fun m me hm=>ev_spec_WorldDo m me hm w C ⟨5,0,false,(0,0),0,[]⟩ (by simp)
 cases e1:worldOk w
 ·rw [noDo e1] at c2 c3
  simp only [rWS,evL] at c2 c3
  rw [ev_fn Tryz.f6 rfl Tryz.func6 rfl rfl rfl (Nat.le_of_ble_eq_true rfl)]
  rcases hm with rfl | rfl | rfl<;>simp [e0,c1,c2,c3,e1]
 ·have P:=worldOk_iff.1 e1
  have hdo:doW w ⟨5,0,false,(0,0),0,[]⟩=({ w with st:=storeSync w.st,kept:=[] },[],0):=by unfold doW;rw [if_pos rfl]
  have SP:=sync_ok P.st
  have sf:storeFall (storeSync w.st)=storeSync w.st:=rfl
  have c4:=fun m hm=>ev_impl_StoreSync m hm w.st P.st.bd
  have c5:=fun m hm=>ev_impl_StoreFall m hm (storeSync w.st) SP.bd
  rw [sf,if_pos (storeOk_iff.2 SP)] at c5
  rw [if_pos (storeOk_iff.2 P.st)] at c4
  have c6:=fun m m' hm hm'=>ev_impl_StoreSame m m' hm hm' (storeSync w.st) (storeSync w.st) SP.bd.toStoreB
  rw [show sameStore (storeSync w.st) (storeSync w.st)=true from sameStore_iff.2 rfl] at c6
  have c7:=fun m m' hm hm'=>ev_impl_LockSame m m' hm hm' w.locks w.locks P.locksB.1 P.locksB.2
  rw [locks_self] at c7
  rw [P.doIs,hdo] at c2 c3
  simp only [rWS,evL] at c2 c3
  simp only [rS1] at c4 c5
  generalize storeSync w.st=z at *
  rw [ev_fn Tryz.f6 rfl Tryz.func6 rfl rfl rfl (Nat.le_of_ble_eq_true rfl)]
  rcases hm with rfl | rfl | rfl<;>simp [e0,c1,c2,c3,c4,c5,c6,c7,e1]
end Go.Ev

