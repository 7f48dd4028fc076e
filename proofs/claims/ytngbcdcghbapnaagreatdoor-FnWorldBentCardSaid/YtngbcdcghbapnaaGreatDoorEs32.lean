/- My texts joined: EvT103. No condition. -/
import Derived.Test.YtngbcdcghbapnaaGreatDoorEs7
import Derived.Test.YtngbcdcghbapnaaGreatDoorEs13
import Derived.Test.YtngbcdcghbapnaaGreatDoorEs16
import Derived.Test.YtngbcdcghbapnaaGreatDoorEs24
set_option linter.unusedVariables false
set_option linter.unusedSimpArgs false

set_option maxRecDepth 100000
set_option maxHeartbeats 8000000
namespace Go.Ev
open Go.Proofs
theorem law_FnWorldBent (code:List UInt8):ev E 7 [.v .ro false [.sl (rowsOfBytes code)]]=some (rB true):=by
 cases e0:ltI 1048576 code.length
 case true =>
  rw [ev_fn Tryz.f7 rfl Tryz.func7 rfl rfl rfl (Nat.le_of_ble_eq_true rfl)]
  simp [e0]
 obtain ⟨m,w,hm,C,c1⟩:=ev_DrawWorldOk code
 have c2:=fun m hm=>ev_impl_WorldOk m hm w C
 have c3:=fun m hm=>ev_spec_WorldOk m hm w C
 cases e1:worldOk w
 ·rw [e1] at c2 c3
  have c4:=fun m me hm=>ev_impl_WorldDo m me hm w C ⟨5,0,false,(0,0),0,[]⟩ (by simp) (by simp)
  rw [noDo e1] at c4
  have c5:=fun m hm=>ev_iText m hm w C
  have c6:=fun m hm=>ev_impl_WorldFile m hm w C
  unfold fileB at c6
  rw [e1] at c5 c6
  simp only [Bool.false_eq_true,if_false] at c5 c6
  have c7:=fun m m' hm hm'=>ev_impl_WorldSame m m' hm hm' noW noW noW_wb
  rw [sameWorld_self] at c7
  simp only [rWS,evL] at c4
  simp only [noW,noS] at c4 c7
  simp only [worldL,strsL,intsL,boolsL,List.map_nil] at c7
  rw [ev_fn Tryz.f7 rfl Tryz.func7 rfl rfl rfl (Nat.le_of_ble_eq_true rfl)]
  rcases hm with rfl | rfl | rfl<;>simp [e0,c1,c2,c3,c4,c5,c6,c7,e1]
 ·rw [e1] at c2 c3
  rw [ev_fn Tryz.f7 rfl Tryz.func7 rfl rfl rfl (Nat.le_of_ble_eq_true rfl)]
  rcases hm with rfl | rfl | rfl<;>simp [e0,c1,c2,c3,e1]
end Go.Ev

