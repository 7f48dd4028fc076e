/- My texts joined: EvT56, EvT57, EvT58, EvT109. No condition. -/
import Derived.Test.YtngbcdcghbapnaaGreatDoorEs6
set_option linter.unusedVariables false
set_option linter.unusedSimpArgs false

set_option maxRecDepth 100000
set_option maxHeartbeats 4000000
namespace Go.Ev
open Go.Proofs
theorem lp_Sreqs (m m':M) (xs ys:List (ReqT)) (hl:xs.length=ys.length) (hb:ys.length≤1099511627776) (a:Code) (ha:a=lp Tryz.f94 0):∀ (n i:Nat),i+n=ys.length →
  loopC E (ev E) 94 a { V:=[(0,.v m false [.sl (xs.map reqL)]),(1,.v m' false [.sl (ys.map reqL)]),(5,vi i)],H:=[],ps:=[] } =
   if eqL sameReq (xs.drop i) (ys.drop i)=true then some (.exit 0,{ V:=[(0,.v m false [.sl (xs.map reqL)]),(1,.v m' false [.sl (ys.map reqL)]),(5,vi ys.length),(14,vb false)],H:=[],ps:=[] })
   else some (.ret,{ V:=[(4,vb false)],H:=[],ps:=[] })
 | 0,i,h=>by
  rw [loopC_of _ _ _ _ ha,eqL_end (by omega) (by omega)]
  obtain rfl:i=ys.length:=by omega
  simp [lp,loopsOf,Tryz.f94,hl]
 | n+1,i,h=>by
  have hlt:i<ys.length:=by omega
  have hlx:i<xs.length:=by omega
  have ih:=lp_Sreqs m m' xs ys hl hb a ha n (i+1) (by omega)
  push_cast at ih
  have hw:=wrapN i (by omega)
  rw [loopC_of _ _ _ _ ha,eqL_drop hlx hlt]
  clear ha
  generalize eqL sameReq (xs.drop (i+1)) (ys.drop (i+1))=r at ih ⊢
  cases e:sameReq xs[i] ys[i]<;>(try simp only [sameReq,sameSp] at e)<;>simp [lp,loopsOf,Tryz.f94,hl,hlt,hlx,hw,e,ih]
theorem ev_Sreqs (m m':M) (xs ys:List (ReqT)) (hb:ys.length≤1099511627776):ev E 94 [.v m false [.sl (xs.map reqL)],.v m' false [.sl (ys.map reqL)]]=some (rB (eqL sameReq xs ys)):=by
 rw [ev_fn Tryz.f94 rfl Tryz.func94 rfl rfl rfl (Nat.le_of_ble_eq_true rfl)]
 by_cases h:xs.length=ys.length
 ·have hl:=fun a ha=>lp_Sreqs m m' xs ys h hb a ha ys.length 0 (by omega)
  push_cast at hl
  simp only [List.drop_zero] at hl
  simp [h]
  rw [hl _ ?_]
  ·cases eqL sameReq xs ys<;>simp
  ·rfl
 ·have e2:eqI xs.length ys.length=false:=by simp [eqI];omega
  rw [eqL_len xs ys h]
  simp [e2]
set_option maxRecDepth 100000
set_option maxHeartbeats 4000000
theorem lp_sLockSame (m m':M) (hm:m.isOwn=false) (hm':m'.isOwn=false) (xs ys:List HoldT) (hl:xs.length=ys.length) (hb:ys.length≤4000000) (hk:∀ y∈ys,holdB y) (a:Code) (ha:a=lp Tryz.f91 0):∀ (n i:Nat),i+n=ys.length →
  loopC E (ev E) 91 a { V:=[(0,.v m false [.sl (xs.map holdL)]),(1,.v m' false [.sl (ys.map holdL)]),(5,vi i)],H:=[],ps:=[] } =
   if eqL sameHold (xs.drop i) (ys.drop i)=true then some (.exit 0,{ V:=[(0,.v m false [.sl (xs.map holdL)]),(1,.v m' false [.sl (ys.map holdL)]),(5,vi ys.length),(14,vb false)],H:=[],ps:=[] })
   else some (.ret,{ V:=[(4,vb false)],H:=[],ps:=[] })
 | 0,i,h=>by
  rw [loopC_of _ _ _ _ ha,eqL_end (by omega) (by omega)]
  obtain rfl:i=ys.length:=by omega
  simp [lp,loopsOf,Tryz.f91,hl]
 | n+1,i,h=>by
  have hlt:i<ys.length:=by omega
  have hlx:i<xs.length:=by omega
  have ih:=lp_sLockSame m m' hm hm' xs ys hl hb hk a ha n (i+1) (by omega)
  push_cast at ih
  have hw:=wrapN i (by omega)
  have hB:=hk _ (List.getElem_mem hlt)
  have h1:=fun m m'=>ev_Sspans m m' xs[i].r ys[i].r (by have:=hB.1;omega)
  have h2:=fun m m'=>ev_Sspans m m' xs[i].w ys[i].w (by have:=hB.2;omega)
  simp only [eqL_dec sameSp_iff] at h1 h2
  rw [loopC_of _ _ _ _ ha,eqL_drop hlx hlt]
  clear ha
  generalize eqL sameHold (xs.drop (i+1)) (ys.drop (i+1))=r at ih ⊢
  have hs:sameHold xs[i] ys[i]=(decide (xs[i].r=ys[i].r)&&decide (xs[i].w=ys[i].w)):=rfl
  rcases Bool.eq_false_or_eq_true (decide (xs[i].r=ys[i].r)) with e1 | e1<;>rcases Bool.eq_false_or_eq_true (decide (xs[i].w=ys[i].w)) with e2 | e2<;>(rw [e1] at h1 hs;rw [e2] at h2 hs;rw [hs];clear hs e1 e2;simp [lp,loopsOf,Tryz.f91,hl,hlt,hlx,hw,ih,h1,h2,hm,hm'])
theorem ev_spec_LockSame (m m':M) (hm:m.isOwn=false) (hm':m'.isOwn=false) (xs ys:List HoldT) (hb:ys.length≤4000000) (hk:∀ y∈ys,holdB y):ev E 91 [.v m false [.sl (xs.map holdL)],.v m' false [.sl (ys.map holdL)]]=some (rB (eqL sameHold xs ys)):=by
 rw [ev_fn Tryz.f91 rfl Tryz.func91 rfl rfl rfl (Nat.le_of_ble_eq_true rfl)]
 by_cases h:xs.length=ys.length
 ·have hl:=fun a ha=>lp_sLockSame m m' hm hm' xs ys h hb hk a ha ys.length 0 (by omega)
  push_cast at hl
  simp only [List.drop_zero] at hl
  simp [h]
  rw [hl _ ?_]
  ·cases eqL sameHold xs ys<;>simp
  ·rfl
 ·have e2:eqI xs.length ys.length=false:=by simp [eqI];omega
  rw [eqL_len xs ys h]
  simp [e2]
set_option maxRecDepth 100000
set_option maxHeartbeats 8000000
theorem lp_sWorld0 (m m':M) (hm:m.isOwn=false) (hm':m'.isOwn=false) (v w:WorldT) (hl:v.owns.length=w.owns.length) (hb:WorldB w) (a:Code) (ha:a=lp Tryz.f36 0):∀ (n i:Nat),i+n=w.owns.length →
  loopC E (ev E) 36 a { V:=[(2,adc 2),(3,adc 3),(5,vi i)],H:=[bxm (.c 2) m (worldL v),bxm (.c 3) m' (worldL w)],ps:=[] } =
   if eqL sameOwn (v.owns.drop i) (w.owns.drop i)=true then some (.exit 0,{ V:=[(2,adc 2),(3,adc 3),(5,vi w.owns.length),(58,vb false)],H:=[bxm (.c 2) m (worldL v),bxm (.c 3) m' (worldL w)],ps:=[] })
   else some (.ret,{ V:=[(4,vb false)],H:=[],ps:=[] })
 | 0,i,h=>by
  rw [loopC_of _ _ _ _ ha,eqL_end (by omega) (by omega)]
  obtain rfl:i=w.owns.length:=by omega
  simp [lp,loopsOf,Tryz.f36,hl,hm,hm']
 | n+1,i,h=>by
  have hlt:i<w.owns.length:=by omega
  have hlx:i<v.owns.length:=by omega
  have ih:=lp_sWorld0 m m' hm hm' v w hl hb a ha n (i+1) (by omega)
  push_cast at ih
  have:=hb.owns
  have hw:=wrapN i (by omega)
  have c:=fun m m' hm hm'=>ev_spec_OwnSame m m' hm hm' v.owns[i] w.owns[i] (hb.owned _ (List.getElem_mem hlt))
  rw [loopC_of _ _ _ _ ha,eqL_drop hlx hlt]
  clear ha
  generalize eqL sameOwn (v.owns.drop (i+1)) (w.owns.drop (i+1))=r at ih ⊢
  cases e:sameOwn v.owns[i] w.owns[i]<;>simp [lp,loopsOf,Tryz.f36,hl,hlt,hlx,hw,e,ih,c,hm,hm']
theorem lp_sWorld1 (m m':M) (hm:m.isOwn=false) (hm':m'.isOwn=false) (v w:WorldT) (hl:v.alive.length=w.alive.length) (hb:WorldB w) (a:Code) (ha:a=lp Tryz.f36 1):∀ (n i:Nat),i+n=w.alive.length →
  loopC E (ev E) 36 a { V:=[(2,adc 2),(3,adc 3),(6,vi i)],H:=[bxm (.c 2) m (worldL v),bxm (.c 3) m' (worldL w)],ps:=[] } =
   if eqL sameB (v.alive.drop i) (w.alive.drop i)=true then some (.exit 2,{ V:=[(2,adc 2),(3,adc 3),(6,vi w.alive.length),(77,vb false)],H:=[bxm (.c 2) m (worldL v),bxm (.c 3) m' (worldL w)],ps:=[] })
   else some (.ret,{ V:=[(4,vb false)],H:=[],ps:=[] })
 | 0,i,h=>by
  rw [loopC_of _ _ _ _ ha,eqL_end (by omega) (by omega)]
  obtain rfl:i=w.alive.length:=by omega
  simp [lp,loopsOf,Tryz.f36,hl,hm,hm']
 | n+1,i,h=>by
  have hlt:i<w.alive.length:=by omega
  have hlx:i<v.alive.length:=by omega
  have ih:=lp_sWorld1 m m' hm hm' v w hl hb a ha n (i+1) (by omega)
  push_cast at ih
  have:=hb.alive
  have hw:=wrapN i (by omega)
  rw [loopC_of _ _ _ _ ha,eqL_drop hlx hlt]
  clear ha
  generalize eqL sameB (v.alive.drop (i+1)) (w.alive.drop (i+1))=r at ih ⊢
  cases e:sameB v.alive[i] w.alive[i]<;>simp only [sameB] at e<;>simp [lp,loopsOf,Tryz.f36,hl,hlt,hlx,hw,e,ih,hm,hm']
theorem ev_spec_WorldSame (m m':M) (hm:m.isOwn=false) (hm':m'.isOwn=false) (v w:WorldT) (hb:WorldB w):ev E 36 [.v m true (worldL v),.v m' true (worldL w)]=some (rB (sameWorld v w)):=by
 have c1:=fun m m' hm hm'=>ev_spec_StoreSame m m' hm hm' v.st w.st hb.st
 have c2:=fun m m' hm hm'=>ev_spec_LockSame m m' hm hm' v.locks w.locks hb.locks hb.holds
 have c4:=fun m m'=>ev_Sints m m' v.epochs w.epochs (by have:=hb.epochs;omega)
 have c6:=fun m m'=>ev_Sreqs m m' v.kept w.kept (by have:=hb.kept;omega)
 have c7:=fun m m'=>ev_Sreqs m m' v.late w.late (by have:=hb.late;omega)
 simp only [sameWorld]
 generalize sameStore v.st w.st=x1 at *
 generalize eqL sameHold v.locks w.locks=x2 at *
 generalize eqL eqI v.epochs w.epochs=x4 at *
 generalize eqL sameReq v.kept w.kept=x6 at *
 generalize eqL sameReq v.late w.late=x7 at *
 by_cases h3:v.owns.length=w.owns.length
 case neg =>
  have e3:eqI v.owns.length w.owns.length=false:=eqI_not.2 (by omega)
  rw [eqL_len v.owns w.owns h3]
  rw [ev_fn Tryz.f36 rfl Tryz.func36 rfl rfl rfl (Nat.le_of_ble_eq_true rfl)]
  cases e0:sameLay v w<;>simp only [sameLay] at e0
  ·simp [e0,hm,hm']
  cases x1
  ·simp [e0,hm,hm',c1]
  cases x2<;>simp [e0,hm,hm',c1,c2,e3]
 by_cases h5:v.alive.length=w.alive.length
 case neg =>
  have e5:eqI v.alive.length w.alive.length=false:=eqI_not.2 (by omega)
  rw [eqL_len v.alive w.alive h5]
  rw [ev_fn Tryz.f36 rfl Tryz.func36 rfl rfl rfl (Nat.le_of_ble_eq_true rfl)]
  cases e0:sameLay v w<;>simp only [sameLay] at e0
  ·simp [e0,hm,hm']
  cases x1
  ·simp [e0,hm,hm',c1]
  cases x2
  ·simp [e0,hm,hm',c1,c2]
  cases x4<;>simp [e0,hm,hm',c1,c2,c4,h3,e5]
 have l0:=fun a ha=>lp_sWorld0 m m' hm hm' v w h3 hb a ha w.owns.length 0 (by omega)
 have l1:=fun a ha=>lp_sWorld1 m m' hm hm' v w h5 hb a ha w.alive.length 0 (by omega)
 push_cast at l0 l1
 simp only [List.drop_zero] at l0 l1
 generalize eqL sameOwn v.owns w.owns=x3 at *
 generalize eqL sameB v.alive w.alive=x5 at *
 rw [ev_fn Tryz.f36 rfl Tryz.func36 rfl rfl rfl (Nat.le_of_ble_eq_true rfl)]
 cases e0:sameLay v w<;>simp only [sameLay] at e0
 ·simp [e0,hm,hm']
 cases x1
 ·simp [e0,hm,hm',c1]
 cases x2
 ·simp [e0,hm,hm',c1,c2]
 cases x4
 ·simp [e0,hm,hm',c1,c2,c4,h3]
 simp [e0,hm,hm',c1,c2,c4,h3,h5]
 rw [l0 _ ?_]
 ·cases x3
  ·simp
  ·simp
   rw [l1 _ ?_]
   ·cases x5
    ·simp
    ·cases x6<;>simp [c6,c7,hm,hm']
   ·rfl
 ·rfl
set_option maxRecDepth 100000
set_option maxHeartbeats 8000000
theorem newWL_wb (size many:Int):WorldB (newWL size many):=(newWL_ok size many).wb
end Go.Ev

