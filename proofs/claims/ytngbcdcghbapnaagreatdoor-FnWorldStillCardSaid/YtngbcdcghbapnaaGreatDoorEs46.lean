/- My texts joined: EvT119. No condition. -/
import Derived.Test.YtngbcdcghbapnaaGreatDoorEs11
import Derived.Test.YtngbcdcghbapnaaGreatDoorEs14
import Derived.Test.YtngbcdcghbapnaaGreatDoorEs17
import Derived.Test.YtngbcdcghbapnaaGreatDoorEs18
import Derived.Test.YtngbcdcghbapnaaGreatDoorEs23
set_option linter.unusedVariables false
set_option linter.unusedSimpArgs false

set_option maxRecDepth 100000
set_option maxHeartbeats 8000000
namespace Go.Ev
open Go.Proofs
theorem law_FnWorldStill (code:List UInt8):ev E 10 [.v .ro false [.sl (rowsOfBytes code)]]=some (rB true):=by
 cases e0:ltI 1048576 code.length
 case true =>
  rw [ev_fn Tryz.f10 rfl Tryz.func10 rfl rfl rfl (Nat.le_of_ble_eq_true rfl)]
  simp [e0]
 obtain ⟨m,w,e,hm,C,hd,c1⟩:=ev_DrawWorldDo code
 obtain ⟨mz,hmz,c2⟩:=ev_impl_WorldDoA w C e (by omega)
 have c3:=fun m me hm=>ev_spec_WorldDo m me hm w C e (by omega)
 have c5:=fun m hm=>ev_spec_WorldOk m hm w C
 simp only [rWS,evL] at c2 c3
 cases e1:worldOk w
 ·rw [e1] at c5
  generalize worldDo w e=z at *
  rw [ev_fn Tryz.f10 rfl Tryz.func10 rfl rfl rfl (Nat.le_of_ble_eq_true rfl)]
  rcases hm with rfl | rfl | rfl<;>rcases hmz with rfl | rfl | rfl<;>simp [e0,c1,c2,c3,c5,e1]
 ·have P:=worldOk_iff.1 e1
  rw [e1] at c5
  rw [P.doIs] at c2 c3
  have hok:=doW_ok P e
  have hstill:e.kind≠3→e.kind≠7→e.kind≠8→(doW w e).1.text=w.text:=fun h3 h7 h8=>text_eq P hok fun j hj=>still_see P h3 h7 h8 hj
  generalize doW w e=z at *
  obtain ⟨x,s,c⟩:=z
  dsimp only at c2 c3 hok hstill
  cases e3:eqI e.kind 3
  case true =>
   rw [ev_fn Tryz.f10 rfl Tryz.func10 rfl rfl rfl (Nat.le_of_ble_eq_true rfl)]
   rcases hm with rfl | rfl | rfl<;>rcases hmz with rfl | rfl | rfl<;>simp [e0,c1,c2,c3,c5,e1,e3]
  cases e7:eqI e.kind 7
  case true =>
   rw [ev_fn Tryz.f10 rfl Tryz.func10 rfl rfl rfl (Nat.le_of_ble_eq_true rfl)]
   rcases hm with rfl | rfl | rfl<;>rcases hmz with rfl | rfl | rfl<;>simp [e0,c1,c2,c3,c5,e1,e3,e7]
  cases e8:eqI e.kind 8
  case true =>
   rw [ev_fn Tryz.f10 rfl Tryz.func10 rfl rfl rfl (Nat.le_of_ble_eq_true rfl)]
   rcases hm with rfl | rfl | rfl<;>rcases hmz with rfl | rfl | rfl<;>simp [e0,c1,c2,c3,c5,e1,e3,e7,e8]
  have ht:=hstill (fun q=>by rw [q] at e3;simp [eqI] at e3) (fun q=>by rw [q] at e7;simp [eqI] at e7) fun q=>by rw [q] at e8;simp [eqI] at e8
  have c6:=fun m hm=>ev_iText m hm w C
  have c7:=fun m hm=>ev_iText m hm x hok.wc
  rw [e1] at c6
  rw [worldOk_iff.2 hok] at c7
  simp only [if_true] at c6 c7
  rw [ht] at c7
  have hl:=P.textGet.1
  clear hstill ht
  generalize w.text=T at *
  rw [ev_fn Tryz.f10 rfl Tryz.func10 rfl rfl rfl (Nat.le_of_ble_eq_true rfl)]
  rcases hm with rfl | rfl | rfl<;>rcases hmz with rfl | rfl | rfl<;>simp [e0,c1,c2,c3,c5,c6,c7,e1,e3,e7,e8,hl]
end Go.Ev

