/- My texts joined: EvT106. No condition. -/
import Derived.Test.YtngbcdcghbapnaaGreatDoorEs11
import Derived.Test.YtngbcdcghbapnaaGreatDoorEs13
import Derived.Test.YtngbcdcghbapnaaGreatDoorEs14
import Derived.Test.YtngbcdcghbapnaaGreatDoorEs16
import Derived.Test.YtngbcdcghbapnaaGreatDoorEs17
set_option linter.unusedVariables false
set_option linter.unusedSimpArgs false

set_option maxRecDepth 100000
set_option maxHeartbeats 8000000
namespace Go.Ev
open Go.Proofs
theorem worldDo_wb {w:WorldT} (e:EvT):WorldB (worldDo w e).1:=by
 unfold worldDo
 split
 ·rename_i h
  exact (doW_ok (worldOk_iff.1 h) e).wc.toWorldB
 ·exact noW_wb
theorem law_FnWorldOk (code:List UInt8):ev E 9 [.v .ro false [.sl (rowsOfBytes code)]]=some (rB true):=by
 cases e0:ltI 1048576 code.length
 case true =>
  rw [ev_fn Tryz.f9 rfl Tryz.func9 rfl rfl rfl (Nat.le_of_ble_eq_true rfl)]
  simp [e0]
 obtain ⟨m,w,e,hm,C,hd,c1⟩:=ev_DrawWorldDo code
 obtain ⟨mz,hmz,c2⟩:=ev_impl_WorldDoA w C e (by omega)
 have c3:=fun m me hm=>ev_spec_WorldDo m me hm w C e (by omega)
 have c4:=fun m hm=>ev_impl_WorldOk m hm w C
 have c5:=fun m hm=>ev_spec_WorldOk m hm w C
 have c6:=fun m m' hm hm'=>ev_impl_WorldSame m m' hm hm' (worldDo w e).1 (worldDo w e).1 (worldDo_wb e)
 rw [sameWorld_self] at c6
 simp only [rWS,evL] at c2 c3
 cases e1:worldOk w
 ·rw [noDo e1] at c2 c3 c6
  rw [e1] at c4 c5
  have c7:=fun m m' hm hm'=>ev_impl_WorldSame m m' hm hm' noW noW noW_wb
  rw [sameWorld_self] at c7
  simp only [noW,noS] at c2 c3 c6 c7
  simp only [worldL,strsL,intsL,boolsL,List.map_nil] at c6 c7
  rw [ev_fn Tryz.f9 rfl Tryz.func9 rfl rfl rfl (Nat.le_of_ble_eq_true rfl)]
  rcases hm with rfl | rfl | rfl<;>rcases hmz with rfl | rfl | rfl<;>simp [e0,c1,c2,c3,c4,c5,c6,c7,e1]
 ·have P:=worldOk_iff.1 e1
  rw [e1] at c4 c5
  rw [P.doIs] at c2 c3 c6
  have hok:=doW_ok P e
  have hful:=doW_full (w:=w) (e:=e)
  generalize doW w e=z at *
  obtain ⟨x,s,c⟩:=z
  dsimp only at c2 c3 c6 hok hful
  have c7:=fun m hm=>ev_impl_WorldOk m hm x hok.wc
  rw [worldOk_iff.2 hok] at c7
  cases e2:ltI c 20
  ·obtain ⟨q1,q2⟩:=hful (ltI_not.1 e2)
   subst q1 q2
   rw [ev_fn Tryz.f9 rfl Tryz.func9 rfl rfl rfl (Nat.le_of_ble_eq_true rfl)]
   rcases hm with rfl | rfl | rfl<;>rcases hmz with rfl | rfl | rfl<;>simp [e0,c1,c2,c3,c4,c5,c6,c7,e1,e2]
  ·rw [ev_fn Tryz.f9 rfl Tryz.func9 rfl rfl rfl (Nat.le_of_ble_eq_true rfl)]
   rcases hm with rfl | rfl | rfl<;>rcases hmz with rfl | rfl | rfl<;>simp [e0,c1,c2,c3,c4,c5,c6,c7,e1,e2]
end Go.Ev

