/- My texts joined: EvT67, EvW11. No condition. -/
import Derived.Test.YtngbcdcghbapnaaGreatDoorEn1
import Derived.Test.YtngbcdcghbapnaaGreatDoorEn2
import Derived.Test.YtngbcdcghbapnaaGreatDoorEn5
import Derived.Test.YtngbcdcghbapnaaGreatDoorEn6
import Derived.Test.YtngbcdcghbapnaaGreatDoorEn7
import Derived.Test.YtngbcdcghbapnaaGreatDoorEn8
import Derived.Test.YtngbcdcghbapnaaGreatDoorEn9
import Derived.Test.YtngbcdcghbapnaaGreatDoorEn10
import Derived.Test.YtngbcdcghbapnaaGreatDoorEn11
import Derived.Test.YtngbcdcghbapnaaGreatDoorEn12
import Derived.Test.YtngbcdcghbapnaaGreatDoorEn13
import Derived.Test.YtngbcdcghbapnaaGreatDoorEn14
import Derived.Test.YtngbcdcghbapnaaGreatDoorEn15
import Derived.Test.YtngbcdcghbapnaaGreatDoorEn16
import Derived.Test.YtngbcdcghbapnaaGreatDoorEn17
import Derived.Test.YtngbcdcghbapnaaGreatDoorEn18
import Derived.Test.YtngbcdcghbapnaaGreatDoorEn19
import Derived.Test.YtngbcdcghbapnaaGreatDoorEn20
import Derived.Test.YtngbcdcghbapnaaGreatDoorEn22
import Derived.Test.YtngbcdcghbapnaaGreatDoorEn23
set_option linter.unusedVariables false
set_option linter.unusedSimpArgs false

set_option maxRecDepth 100000
set_option maxHeartbeats 4000000
namespace Go.Ev
open Go.Proofs
theorem ofL_congr {f g:Nat→Bool} (h:∀ j,j<48→f j=g j):ofL f 48 0 []=ofL g 48 0 []:=(spans_of (f:=f) (g:=f) fun _ _=>rfl).symm.trans (spans_of h)
theorem ofL_len48 (f:Nat→Bool):(ofL f 48 0 []).length≤48:=by
 have:=ofL_len f 48 0 []
 simpa using this
def orV (w:Nat→Bool):Nat→Nat→(Nat→Bool)→(Nat→Bool)
 | 0,_,f=>f
 | n+1,i,f=>orV w n (i+1) (updB f i (f i || w i))
theorem orV_get (w:Nat→Bool):∀ (n i:Nat) (f:Nat→Bool) (j:Nat),orV w n i f j=if i≤j∧j<i+n then f j || w j else f j
 | 0,i,f,j=>by rw [orV,if_neg (by omega)]
 | n+1,i,f,j=>by
  rw [orV,orV_get w n (i+1)]
  by_cases e:j=i
  ·subst e
   rw [if_neg (by omega),if_pos (by omega)]
   simp [updB]
  ·have:updB f i (f i || w i) j=f j:=by simp [updB,e]
   rw [this]
   by_cases h:i+1≤j∧j<i+1+n
   ·rw [if_pos h,if_pos (by omega)]
   ·rw [if_neg h,if_neg (by omega)]
def lessF:List Sp→List Sp→List Sp
 | x,[]=>x
 | x,s::b=>lessF (cutS x s) b
theorem lessF_of:∀ (b:List Sp) (f:Nat→Bool),lessF (ofL f 48 0 []) b=ofL (fun j=>f j&&!inF b j) 48 0 []
 | [],f=>by
  rw [lessF]
  exact ofL_congr fun j _=>by simp [inF]
 | s::b,f=>by
  rw [lessF,cutS,lessF_of b]
  exact ofL_congr fun j hj=>by
   have:(ofL f 48 0 []).any (inSp j)=f j:=of_get f hj
   rw [this]
   have e:inF (s::b) j=(inSp j s || inF b j):=rfl
   rw [e]
   cases inSp j s<;>cases f j<;>cases inF b j<;>rfl
theorem lp_l4Without (m:M) (bs:List Sp) (hb:bs.length≤4000000) (hbs:∀ s∈bs,0≤s.1∧s.1<s.2∧s.2≤48) (a:Code) (ha:a=lp Tryz.f268 0):∀ (n i:Nat) (x:List Sp),i+n=bs.length→x.length≤4000000 →
  loopC E (ev E) 268 a { V:=[(1,.v m false [.sl (bs.map spL)]),(5,at1 5),(6,vi i)],H:=[ow (.c 5) [.sl (x.map spL)]],ps:=[] } =
   some (.exit 0,{ V:=[(1,.v m false [.sl (bs.map spL)]),(5,at1 5),(6,vi bs.length),(13,vb false)],H:=[ow (.c 5) [.sl ((lessF x (bs.drop i)).map spL)]],ps:=[] })
 | 0,i,x,h,hx=>by
  rw [loopC_of _ _ _ _ ha]
  obtain rfl:i=bs.length:=by omega
  simp [lp,loopsOf,Tryz.f268,lessF]
 | n+1,i,x,h,hx=>by
  have hlt:i<bs.length:=by omega
  have hw:=wrapN i (by omega)
  have hs:=hbs _ (List.getElem_mem hlt)
  have hc:=cutS_len x bs[i]
  have ih:=lp_l4Without m bs hb hbs a ha n (i+1) (cutS x bs[i]) (by omega) (by omega)
  push_cast at ih
  have c1:∀ m m',ev E 236 [.v m false [.sl (x.map spL)],.v m' true (spL bs[i])]=some { rs:=[.v .own false [.sl ((cutS x bs[i]).map spL)]],outs:=[] }:=fun m m'=>ev_spec_l1Cut m m' x bs[i] (by omega) (by omega) (by omega) (by omega)
  rw [loopC_of _ _ _ _ ha,List.drop_eq_getElem_cons hlt,lessF]
  clear ha
  simp [lp,loopsOf,Tryz.f268,hlt,hw,c1]
  simpa using ih
theorem ev_l4Without (m m':M) (xs bs:List Sp) (hx:xs.length≤4000000) (hb:bs.length≤4000000) (hbs:∀ s∈bs,0≤s.1∧s.1<s.2∧s.2≤48) :
  ev E 268 [.v m false [.sl (xs.map spL)],.v m' false [.sl (bs.map spL)]]=some { rs:=[.v .own false [.sl ((ofL (fun j=>inF xs j&&!inF bs j) 48 0 []).map spL)]],outs:=[] }:=by
 have c1:∀ m,ev E 263 [.v m false [.sl (xs.map spL)]]=some { rs:=[.v .own false [.sl (plR (inF xs) 48)]],outs:=[] }:=fun m=>ev_l1Places m xs (by omega)
 have c2:=fun m=>ev_l1Of m (inF xs) 48 (by omega)
 have l0:=lp_l4Without m' bs hb hbs _ rfl bs.length 0 (ofL (inF xs) 48 0 []) (by omega) (by have:=ofL_len48 (inF xs);omega)
 push_cast at l0
 rw [List.drop_zero,lessF_of] at l0
 rw [ev_fn Tryz.f268 rfl Tryz.func268 rfl rfl rfl (Nat.le_of_ble_eq_true rfl)]
 simp [c1,c2]
 rw [loopC_at ?_ l0]
 ·simp
 ·rfl
theorem ev_spec_LockDrop (m m1 m2:M) (hm:m.isOwn=false) (t:List HoldT) (hb:t.length≤4000000) (hk:∀ h∈t,holdB h) (who:Int) (s:Sp) :
  ev E 267 [.v m false [.sl (t.map holdL)],.v m1 false [.int .i64 who],.v m2 true (spL s)]=some (dropI t who s):=by
 have c1:=fun m hm=>ev_spec_LockOk m hm t hb hk
 have c2:=fun m=>ev_spec_l4Who m who
 have c3:=fun m=>ev_spec_SpanOk m s
 have c4:=fun m hm=>ev_l4Copy m hm t hb hk
 cases e1:lockOk t
 ·rw [ev_fn Tryz.f267 rfl Tryz.func267 rfl rfl rfl (Nat.le_of_ble_eq_true rfl)]
  simp [c1,e1,hm,rLk,dropI]
 ·cases e2:whoOk who
  ·rw [ev_fn Tryz.f267 rfl Tryz.func267 rfl rfl rfl (Nat.le_of_ble_eq_true rfl)]
   simp [c1,c2,c4,e1,e2,hm,rLk,dropI]
  ·cases e3:spOk s
   ·rw [ev_fn Tryz.f267 rfl Tryz.func267 rfl rfl rfl (Nat.le_of_ble_eq_true rfl)]
    simp [c1,c2,c3,c4,e1,e2,e3,hm,rLk,dropI]
   ·have P:=lockOk_iff.1 e1
    have hs:=spOk_iff.1 e3
    obtain ⟨i,hi,rfl⟩:=who_nat e2
    have hlt:i<t.length:=by have:=P.len;omega
    have hB:=hk _ (List.getElem_mem hlt)
    have b1:=hB.1
    have b2:=hB.2
    have l1:=cutS_len t[i].r s
    have l2:=cutS_len t[i].w s
    have c5:∀ m m',ev E 236 [.v m false [.sl (t[i].r.map spL)],.v m' true (spL s)]=some { rs:=[.v .own false [.sl ((cutS t[i].r s).map spL)]],outs:=[] }:=fun m m'=>ev_spec_l1Cut m m' t[i].r s (by omega) (by omega) (by omega) (by omega)
    have c6:∀ m m',ev E 236 [.v m false [.sl (t[i].w.map spL)],.v m' true (spL s)]=some { rs:=[.v .own false [.sl ((cutS t[i].w s).map spL)]],outs:=[] }:=fun m m'=>ev_spec_l1Cut m m' t[i].w s (by omega) (by omega) (by omega) (by omega)
    have c7:=fun m m1 m2 hm hm2=>ev_l4Put m m1 m2 hm hm2 t hb hk i hlt ⟨cutS t[i].r s,cutS t[i].w s⟩ ⟨by dsimp only;omega,by dsimp only;omega⟩
    have hr:dropI t i s=rLk (putL t i ⟨cutS t[i].r s,cutS t[i].w s⟩).1 (putL t i ⟨cutS t[i].r s,cutS t[i].w s⟩).2:=by
     unfold dropI
     rw [e1,e2,e3]
     simp only [Bool.and_self,if_true,Int.toNat_natCast,lockDrop,getD_lt _ hlt]
    rw [hr]
    simp only [rLk] at c7 ⊢
    generalize putL t i ⟨cutS t[i].r s,cutS t[i].w s⟩=z at c7 ⊢
    rw [ev_fn Tryz.f267 rfl Tryz.func267 rfl rfl rfl (Nat.le_of_ble_eq_true rfl)]
    simp [c1,c2,c3,c4,c5,c6,c7,e1,e2,e3,hm,hlt]
theorem lp_sDown (m mt:M) (hm:m.isOwn=false) (t:List (List L)) (h:HoldT) (hb:holdB h) (who:Int) (m1:M) (s:Sp) (hi:Nat) (hs:s.2=hi) (h48:hi≤48) (a:Code) (ha:a=lp Tryz.f266 0):∀ (n i:Nat) (f:Nat→Bool),i+n=hi →
  loopC E (ev E) 266 a { V:=[(0,.v mt false [.sl t]),(1,.v m1 false [.int .i64 who]),(5,adc 5),(8,adc 8),(9,at1 9),(10,vi i)],H:=[bx (.c 5) (spL s),bxm (.c 8) m (holdL h),ow (.c 9) [.sl (plR f 48)]],ps:=[] } =
   some (.exit 0,{ V:=[(0,.v mt false [.sl t]),(1,.v m1 false [.int .i64 who]),(5,adc 5),(8,adc 8),(9,at1 9),(10,vi hi),(37,vb false)],H:=[bx (.c 5) (spL s),bxm (.c 8) m (holdL h),ow (.c 9) [.sl (plR (orV (inF h.w) n i f) 48)]],ps:=[] })
 | 0,i,f,h0=>by
  rw [loopC_of _ _ _ _ ha]
  obtain rfl:i=hi:=by omega
  simp [lp,loopsOf,Tryz.f266,orV,hs]
 | n+1,i,f,h0=>by
  have hlt:i<hi:=by omega
  have hl2:i<48:=by omega
  have hw:=wrapN i (by omega)
  have ih:=lp_sDown m mt hm t h hb who m1 s hi hs h48 a ha n (i+1) (updB f i (f i || inF h.w i)) (by omega)
  push_cast at ih
  have hset:=plR_set f 48 i (f i || inF h.w i) hl2
  have hget:=plR_get f hl2
  have hlen:(plR f 48).length=48:=by simp [plR]
  have c1:∀ m m',ev E 167 [.v m false [.sl (h.w.map spL)],.v m' false [.int .i64 i]]=some (rB (inF h.w i)):=fun m m'=>ev_spec_l1In m m' h.w i (by have:=hb.2;omega)
  rw [loopC_of _ _ _ _ ha,orV]
  clear ha
  cases e1:f i
  ·rw [e1,Bool.false_or] at ih hset
   rw [Bool.false_or]
   simp [lp,loopsOf,Tryz.f266,hs,hlt,hw,hl2,hget,hset,hlen,hm,c1,e1]
   simpa using ih
  ·rw [e1,Bool.true_or] at ih hset
   rw [Bool.true_or]
   simp [lp,loopsOf,Tryz.f266,hs,hlt,hw,hl2,hget,hset,hlen,hm,c1,e1]
   simpa using ih
theorem ev_spec_LockDown (m m1 m2:M) (hm:m.isOwn=false) (t:List HoldT) (hb:t.length≤4000000) (hk:∀ h∈t,holdB h) (who:Int) (s:Sp) :
  ev E 266 [.v m false [.sl (t.map holdL)],.v m1 false [.int .i64 who],.v m2 true (spL s)]=some (downI t who s):=by
 have c1:=fun m hm=>ev_spec_LockOk m hm t hb hk
 have c2:=fun m=>ev_spec_l4Who m who
 have c3:=fun m=>ev_spec_SpanOk m s
 have c4:=fun m hm=>ev_l4Copy m hm t hb hk
 cases e1:lockOk t
 ·rw [ev_fn Tryz.f266 rfl Tryz.func266 rfl rfl rfl (Nat.le_of_ble_eq_true rfl)]
  simp [c1,e1,hm,rLk,downI]
 ·cases e2:whoOk who
  ·rw [ev_fn Tryz.f266 rfl Tryz.func266 rfl rfl rfl (Nat.le_of_ble_eq_true rfl)]
   simp [c1,c2,c4,e1,e2,hm,rLk,downI]
  ·cases e3:spOk s
   ·rw [ev_fn Tryz.f266 rfl Tryz.func266 rfl rfl rfl (Nat.le_of_ble_eq_true rfl)]
    simp [c1,c2,c3,c4,e1,e2,e3,hm,rLk,downI]
   ·have P:=lockOk_iff.1 e1
    have hs:=spOk_iff.1 e3
    obtain ⟨i,hi,rfl⟩:=who_nat e2
    obtain ⟨a0,b0⟩:=s
    dsimp only at hs
    obtain ⟨lo,rfl⟩:∃ lo:Nat,a0=lo:=⟨a0.toNat,by omega⟩
    obtain ⟨hi',rfl⟩:∃ hi:Nat,b0=hi:=⟨b0.toNat,by omega⟩
    have hlt:i<t.length:=by have:=P.len;omega
    have hB:=hk _ (List.getElem_mem hlt)
    have b1:=hB.1
    have b2:=hB.2
    have l2:=cutS_len t[i].w ((lo:Int),(hi':Int))
    have c5:∀ m,ev E 263 [.v m false [.sl (t[i].r.map spL)]]=some { rs:=[.v .own false [.sl (plR (inF t[i].r) 48)]],outs:=[] }:=fun m=>ev_l1Places m t[i].r (by omega)
    have c6:∀ m m',ev E 236 [.v m false [.sl (t[i].w.map spL)],.v m' true (spL ((lo:Int),(hi':Int)))]=some { rs:=[.v .own false [.sl ((cutS t[i].w ((lo:Int),(hi':Int))).map spL)]],outs:=[] }:=fun m m'=>ev_spec_l1Cut m m' t[i].w ((lo:Int),(hi':Int)) (by omega) (by omega) (by omega) (by omega)
    have hof:ofL (orV (inF t[i].w) (hi' - lo) lo (inF t[i].r)) 48 0 []=ofL (fun j=>inF t[i].r j || (inSp j ((lo:Int),(hi':Int))&&inF t[i].w j)) 48 0 []:=ofL_congr fun j hj=>by
     rw [orV_get]
     have hin:inSp j ((lo:Int),(hi':Int))=true↔lo≤j∧j<lo+(hi' - lo):=by rw [inSp_iff];dsimp only;omega
     by_cases h:lo≤j∧j<lo+(hi' - lo)
     ·rw [if_pos h,hin.2 h,Bool.true_and]
     ·rw [if_neg h,show inSp j ((lo:Int),(hi':Int))=false by rw [← Bool.not_eq_true,hin];exact h,Bool.false_and,Bool.or_false]
    have c8:=fun m=>ev_l1Of m (orV (inF t[i].w) (hi' - lo) lo (inF t[i].r)) 48 (by omega)
    rw [hof] at c8
    have l1:=ofL_len48 fun j=>inF t[i].r j || (inSp j ((lo:Int),(hi':Int))&&inF t[i].w j)
    have c7:=fun m m1 m2 hm hm2=>ev_l4Put m m1 m2 hm hm2 t hb hk i hlt ⟨ofL (fun j=>inF t[i].r j || (inSp j ((lo:Int),(hi':Int))&&inF t[i].w j)) 48 0 [],cutS t[i].w ((lo:Int),(hi':Int))⟩ ⟨by dsimp only;omega,by dsimp only;omega⟩
    have hr:downI t i ((lo:Int),(hi':Int))=rLk (putL t i ⟨ofL (fun j=>inF t[i].r j || (inSp j ((lo:Int),(hi':Int))&&inF t[i].w j)) 48 0 [],cutS t[i].w ((lo:Int),(hi':Int))⟩).1 (putL t i ⟨ofL (fun j=>inF t[i].r j || (inSp j ((lo:Int),(hi':Int))&&inF t[i].w j)) 48 0 [],cutS t[i].w ((lo:Int),(hi':Int))⟩).2:=by
     unfold downI
     rw [e1,e2,e3]
     simp only [Bool.and_self,if_true,Int.toNat_natCast,lockDown,getD_lt _ hlt]
    rw [hr]
    simp only [rLk] at c7 ⊢
    generalize ofL (fun j=>inF t[i].r j || (inSp j ((lo:Int),(hi':Int))&&inF t[i].w j)) 48 0 []=x at c7 c8 ⊢
    generalize putL t i ⟨x,cutS t[i].w ((lo:Int),(hi':Int))⟩=z at c7 ⊢
    have l0:=fun a ha=>lp_sDown m m hm (t.map holdL) t[i] hB i m1 ((lo:Int),(hi':Int)) hi' rfl (by omega) a ha (hi' - lo) lo (inF t[i].r) (by omega)
    rw [ev_fn Tryz.f266 rfl Tryz.func266 rfl rfl rfl (Nat.le_of_ble_eq_true rfl)]
    simp [c1,c2,c3,c4,c5,e1,e2,e3,hm,hlt]
    rw [l0 _ ?_]
    ·simp [c6,c7,c8,hm]
    ·rfl
theorem ev_spec_LockGive (m m1 m2 m3:M) (hm:m.isOwn=false) (t:List HoldT) (hb:t.length≤4000000) (hk:∀ h∈t,holdB h) (who:Int) (write:Bool) (s:Sp) :
  ev E 252 [.v m false [.sl (t.map holdL)],.v m1 false [.int .i64 who],.v m2 false [.bool write],.v m3 true (spL s)]=some (giveI t who write s):=by
 have c1:=fun m hm=>ev_spec_LockOk m hm t hb hk
 have c2:=fun m=>ev_spec_l4Who m who
 have c3:=fun m=>ev_spec_SpanOk m s
 have c4:=fun m hm=>ev_l4Copy m hm t hb hk
 cases e1:lockOk t
 ·rw [ev_fn Tryz.f252 rfl Tryz.func252 rfl rfl rfl (Nat.le_of_ble_eq_true rfl)]
  simp [c1,e1,hm,rLk,giveI]
 ·cases e2:whoOk who
  ·rw [ev_fn Tryz.f252 rfl Tryz.func252 rfl rfl rfl (Nat.le_of_ble_eq_true rfl)]
   simp [c1,c2,c4,e1,e2,hm,rLk,giveI]
  ·cases e3:spOk s
   ·rw [ev_fn Tryz.f252 rfl Tryz.func252 rfl rfl rfl (Nat.le_of_ble_eq_true rfl)]
    simp [c1,c2,c3,c4,e1,e2,e3,hm,rLk,giveI]
   ·have P:=lockOk_iff.1 e1
    have hs:=spOk_iff.1 e3
    have c0:=fun m m1 m2 m3 hm=>ev_l4Bars m m1 m2 m3 hm t P.len hk who e2 write s
    obtain ⟨i,hi,rfl⟩:=who_nat e2
    have hlt:i<t.length:=by have:=P.len;omega
    have hB:=hk _ (List.getElem_mem hlt)
    have b1:=hB.1
    have b2:=hB.2
    unfold giveI
    rw [e1,e2,e3]
    simp only [Bool.true_and,if_true]
    generalize barsL t i write s=bl at c0 ⊢
    cases e4:eqI bl.length 0
    ·have e5:ltI 0 bl.length=true:=by rw [ltI_iff];rw [eqI_not] at e4;omega
     have e6:0<bl.length:=by rw [ltI_iff] at e5;omega
     rw [ev_fn Tryz.f252 rfl Tryz.func252 rfl rfl rfl (Nat.le_of_ble_eq_true rfl)]
     simp [c0,c1,c2,c3,c4,e1,e2,e3,e5,e6,hm,rLk]
    ·have e5:bl=[]:=by rw [eqI_iff] at e4;exact List.length_eq_zero_iff.1 (by omega)
     subst e5
     have hwr:=P.w i hi
     rw [getD_lt _ hlt] at hwr
     have hdis:=P.rw i hi
     rw [getD_lt _ hlt] at hdis
     simp only [if_true,lockGive,Int.toNat_natCast,getD_lt _ hlt]
     cases write
     ·have l1:=addS_len t[i].r s
      have hof:ofL (fun j=>inF (addS t[i].r s) j&&!inF t[i].w j) 48 0 []=ofL (fun j=>(inSp j s || inF t[i].r j)&&!inF t[i].w j) 48 0 []:=ofL_congr fun j hj=>by rw [addS_get _ _ j hj]
      have c5:∀ m m',ev E 238 [.v m false [.sl (t[i].r.map spL)],.v m' true (spL s)]=some { rs:=[.v .own false [.sl ((addS t[i].r s).map spL)]],outs:=[] }:=fun m m'=>ev_spec_l1Add m m' t[i].r s (by omega) (by omega) (by omega) (by omega)
      have c6:=fun m m'=>ev_l4Without m m' (addS t[i].r s) t[i].w (by omega) b2 (spsOk_sp hwr)
      rw [hof] at c6
      have l2:=ofL_len48 fun j=>(inSp j s || inF t[i].r j)&&!inF t[i].w j
      simp only [Bool.false_eq_true,if_false]
      generalize ofL (fun j=>(inSp j s || inF t[i].r j)&&!inF t[i].w j) 48 0 []=x at c6 l2 ⊢
      have c7:=fun m m1 m2 hm hm2=>ev_l4Put m m1 m2 hm hm2 t hb hk i hlt ⟨x,t[i].w⟩ ⟨by dsimp only;omega,b2⟩
      simp only [rLk] at c7 ⊢
      generalize putL t i ⟨x,t[i].w⟩=z at c7 ⊢
      rw [ev_fn Tryz.f252 rfl Tryz.func252 rfl rfl rfl (Nat.le_of_ble_eq_true rfl)]
      simp [c0,c1,c2,c3,c4,c5,c6,c7,e1,e2,e3,hm,hlt]
     ·have l1:=cutS_len t[i].r s
      have l2:=addS_len t[i].w s
      have c5:∀ m m',ev E 236 [.v m false [.sl (t[i].r.map spL)],.v m' true (spL s)]=some { rs:=[.v .own false [.sl ((cutS t[i].r s).map spL)]],outs:=[] }:=fun m m'=>ev_spec_l1Cut m m' t[i].r s (by omega) (by omega) (by omega) (by omega)
      have c6:∀ m m',ev E 238 [.v m false [.sl (t[i].w.map spL)],.v m' true (spL s)]=some { rs:=[.v .own false [.sl ((addS t[i].w s).map spL)]],outs:=[] }:=fun m m'=>ev_spec_l1Add m m' t[i].w s (by omega) (by omega) (by omega) (by omega)
      have c7:=fun m m1 m2 hm hm2=>ev_l4Put m m1 m2 hm hm2 t hb hk i hlt ⟨cutS t[i].r s,addS t[i].w s⟩ ⟨by dsimp only;omega,by dsimp only;omega⟩
      simp only [if_true]
      simp only [rLk] at c7 ⊢
      generalize putL t i ⟨cutS t[i].r s,addS t[i].w s⟩=z at c7 ⊢
      rw [ev_fn Tryz.f252 rfl Tryz.func252 rfl rfl rfl (Nat.le_of_ble_eq_true rfl)]
      simp [c0,c1,c2,c3,c4,c5,c6,c7,e1,e2,e3,hm,hlt]
theorem ev_spec_LockOff (m m1:M) (hm:m.isOwn=false) (t:List HoldT) (hb:t.length≤4000000) (hk:∀ h∈t,holdB h) (who:Int) :
  ev E 214 [.v m false [.sl (t.map holdL)],.v m1 false [.int .i64 who]]=some (if lockOk t=true then (if whoOk who=true then rLk (t.set who.toNat noH) true else rLk t false) else rLk [] false):=by
 have c1:=fun m hm=>ev_spec_LockOk m hm t hb hk
 have c2:=fun m=>ev_spec_l4Who m who
 have c4:=fun m hm=>ev_l4Copy m hm t hb hk
 cases e1:lockOk t
 ·rw [ev_fn Tryz.f214 rfl Tryz.func214 rfl rfl rfl (Nat.le_of_ble_eq_true rfl)]
  simp [c1,e1,hm,rLk]
 ·cases e2:whoOk who
  ·rw [ev_fn Tryz.f214 rfl Tryz.func214 rfl rfl rfl (Nat.le_of_ble_eq_true rfl)]
   simp [c1,c2,c4,e1,e2,hm,rLk]
  ·have P:=lockOk_iff.1 e1
   obtain ⟨i,hi,rfl⟩:=who_nat e2
   have hlt:i<t.length:=by have:=P.len;omega
   have c7:=fun m m1 m2 hm hm2=>ev_l4Put m m1 m2 hm hm2 t hb hk i hlt noH ⟨by decide,by decide⟩
   have hp:putL t i noH=(t.set i noH,true):=by
    rw [putL_or,if_pos (lockOk_iff.2 (noH_ok P i))]
   rw [hp] at c7
   have c7:∀ (m m1 m2:M),m.isOwn=false→m2.isOwn=false→ev E 249 [.v m false [.sl (t.map holdL)],.v m1 false [.int .i64 i],.v m2 true [.sl [],.sl []]]=some (rLk (t.set i noH) true):=c7
   rw [ev_fn Tryz.f214 rfl Tryz.func214 rfl rfl rfl (Nat.le_of_ble_eq_true rfl)]
   simp [c1,c2,c7,e1,e2,hm,rLk,noH]
end Go.Ev


namespace Go.Ev
def ownAt (w:WorldT) (i:Nat):Bool:=(w.own i).ok&&(!ltI (w.ep i) (w.st.floors.getD i 0)&&(!ltI 100 (w.ep i)&&(w.live i || sameOwn (w.own i) noO)))
def keptF (w:WorldT):List ReqT→List Int→Bool
 | q::qs,c::cs=>(eqI c 0&&eqI q.epoch (w.ep q.who.toNat))&&keptF w qs cs
 | _,_=>true
def lateAt (w:WorldT) (q:ReqT):Bool:=reqOk q&&ltI q.epoch (w.st.floors.getD q.who.toNat 0)
def heldAt (w:WorldT) (i j:Nat):Bool:=!inF (w.own i).h j || ((inF (w.lock i).w j || (!inF (w.own i).d j&&inF (w.lock i).r j))&&(inF (w.own i).d j || eqI ((w.own i).t.getD j 0).toNat (w.file.getD j 0).toNat))
def countsOk (w:WorldT):Bool:=layOk w.size w.many&&(storeOk w.st&&(lockOk w.locks&&(eqI w.owns.length 3&&(eqI w.epochs.length 3&&(eqI w.alive.length 3&&!ltI 8 w.late.length)))))
def worldOk (w:WorldT):Bool:=countsOk w&&(allTo (ownAt w) 3 0&&(keptF w w.kept (storeAll (storeFall w.st) w.kept).2&&(sameStore (storeAll (storeFall w.st) w.kept).1 w.st&&(w.late.all (lateAt w)&&allTo (fun i=>allTo (heldAt w i) 48 0) 3 0))))
theorem sameOwn_iff {a b:OwnT}:sameOwn a b=true↔a=b:=by
 cases a;cases b
 simp only [sameOwn,Bool.and_eq_true,eqS_iff,decide_eq_true_eq,OwnT.mk.injEq,and_assoc]
theorem eqLI_iff {xs ys:List Int}:eqL eqI xs ys=true↔xs=ys:=by
 rw [eqL_dec (fun x y=>eqI_iff)];simp
theorem eqLS_iff {xs ys:List Bs}:eqL eqS xs ys=true↔xs=ys:=by
 rw [eqL_dec (fun x y=>eqS_iff)];simp
theorem sameStore_iff {a b:StoreT}:sameStore a b=true↔a=b:=by
 cases a;cases b
 simp only [sameStore,Bool.and_eq_true,eqLI_iff,eqLS_iff,StoreT.mk.injEq]
theorem keptF_iff (w:WorldT):∀ (qs:List ReqT) (cs:List Int),cs.length=qs.length→(keptF w qs cs=true↔cs=zeros qs∧∀ q∈qs,q.epoch=w.ep q.who.toNat)
 | [],[],_=>by simp [keptF,zeros]
 | [],c::cs,h=>by simp at h
 | q::qs,[],h=>by simp at h
 | q::qs,c::cs,h=>by
  rw [keptF,Bool.and_eq_true,keptF_iff w qs cs (by simpa using h),Bool.and_eq_true,eqI_iff,eqI_iff]
  simp only [zeros,List.map_cons,List.cons.injEq,List.mem_cons,forall_eq_or_imp]
  exact ⟨fun ⟨⟨a,b⟩,c,d⟩=>⟨⟨a,c⟩,b,d⟩,fun ⟨⟨a,c⟩,b,d⟩=>⟨⟨a,b⟩,c,d⟩⟩
theorem u8_nat {a b:UInt8}:eqI a.toNat b.toNat=true↔a=b:=by
 rw [eqI_iff]
 constructor
 ·intro h;exact UInt8.toNat_inj.1 (by omega)
 ·intro h;rw [h]
theorem worldOk_iff {w:WorldT}:worldOk w=true↔WorldP w:=by
 simp only [worldOk,countsOk,Bool.and_eq_true,layOk_iff,storeOk_iff,lockOk_iff,eqI3,allTo_iff,keptF_iff w _ _ (storeAll_len _ _),sameStore_iff,List.all_eq_true,Bool.not_eq_true',ltI_not]
 constructor
 ·rintro ⟨⟨h1,h2,h3,h4,h5,h6,h7⟩,h8,⟨h9,h10⟩,h11,h12,h13⟩
  refine ⟨h1,h2,h3,h4,h5,h6,by omega,fun i hi=>?_,fun i hi=>?_,fun i hi hd=>?_,Prod.ext h11 h9,h10,fun q hq=>?_,fun i hi j hj hh=>?_⟩
  ·have:=h8 i (by omega) (by omega)
   simp only [ownAt,Bool.and_eq_true] at this
   exact this.1
  ·have:=h8 i (by omega) (by omega)
   simp only [ownAt,Bool.and_eq_true,Bool.not_eq_true',ltI_not] at this
   exact ⟨this.2.1,this.2.2.1⟩
  ·have:=h8 i (by omega) (by omega)
   simp only [ownAt,Bool.and_eq_true,Bool.or_eq_true,hd,Bool.false_eq_true,false_or,sameOwn_iff] at this
   exact this.2.2.2
  ·have:=h12 q hq
   simp only [lateAt,Bool.and_eq_true,reqOk_iff,ltI_iff] at this
   exact this
  ·have:=h13 i (by omega) (by omega) j (by omega) (by omega)
   simp only [heldAt,hh,Bool.not_true,Bool.false_or,Bool.and_eq_true,Bool.or_eq_true,Bool.not_eq_true',u8_nat,file_getD w hj] at this
   exact this
 ·intro h
  refine ⟨⟨h.lay,h.st,h.lk,h.owns,h.epochs,h.alive,by have:=h.lateN;omega⟩,fun i _ hi=>?_,⟨congrArg Prod.snd h.kept,h.keptE⟩,congrArg Prod.fst h.kept,fun q hq=>?_,fun i _ hi j _ hj=>?_⟩
  ·have hi:i<3:=by omega
   have he:=h.ep i hi
   simp only [ownAt,Bool.and_eq_true,Bool.not_eq_true',ltI_not,Bool.or_eq_true,sameOwn_iff]
   refine ⟨h.own i hi,he.1,he.2,?_⟩
   cases e:w.live i
   ·exact .inr (h.dead i hi e)
   ·exact .inl rfl
  ·have:=h.late q hq
   simp only [lateAt,Bool.and_eq_true,reqOk_iff,ltI_iff]
   exact this
  ·have hj:j<48:=by omega
   simp only [heldAt,Bool.and_eq_true,Bool.or_eq_true,Bool.not_eq_true',u8_nat,file_getD w hj]
   cases e:inF (w.own i).h j
   ·exact .inl rfl
   ·exact .inr (h.held i (by omega) j hj e)
end Go.Ev

