/- My texts joined: EvT82, EvT84, EvT85, EvT86, EvT44. No condition. -/
import Derived.Test.YtngbcdcghbapnaaGreatDoorEn1
import Derived.Test.YtngbcdcghbapnaaGreatDoorEn2
import Derived.Test.YtngbcdcghbapnaaGreatDoorEn5
import Derived.Test.YtngbcdcghbapnaaGreatDoorEn6
import Derived.Test.YtngbcdcghbapnaaGreatDoorEn7
import Derived.Test.YtngbcdcghbapnaaGreatDoorEn8
import Derived.Test.YtngbcdcghbapnaaGreatDoorEn9
import Derived.Test.YtngbcdcghbapnaaGreatDoorEn10
import Derived.Test.YtngbcdcghbapnaaGreatDoorEn11
import Derived.Test.YtngbcdcghbapnaaGreatDoorEn12
import Derived.Test.YtngbcdcghbapnaaGreatDoorEn13
import Derived.Test.YtngbcdcghbapnaaGreatDoorEn14
import Derived.Test.YtngbcdcghbapnaaGreatDoorEn16
import Derived.Test.YtngbcdcghbapnaaGreatDoorEn17
import Derived.Test.YtngbcdcghbapnaaGreatDoorEn18
import Derived.Test.YtngbcdcghbapnaaGreatDoorEn19
import Derived.Test.YtngbcdcghbapnaaGreatDoorEn20
import Derived.Test.YtngbcdcghbapnaaGreatDoorEn21
import Derived.Test.YtngbcdcghbapnaaGreatDoorEn22
import Derived.Test.YtngbcdcghbapnaaGreatDoorEn23
import Derived.Test.YtngbcdcghbapnaaGreatDoorEn24
import Derived.Test.YtngbcdcghbapnaaGreatDoorEn25
import Derived.Test.YtngbcdcghbapnaaGreatDoorEn26
import Derived.Test.YtngbcdcghbapnaaGreatDoorEn27
import Derived.Test.YtngbcdcghbapnaaGreatDoorEn28
import Derived.Test.YtngbcdcghbapnaaGreatDoorEn30
import Derived.Test.YtngbcdcghbapnaaGreatDoorEn31
set_option linter.unusedVariables false
set_option linter.unusedSimpArgs false

set_option maxRecDepth 100000
set_option maxHeartbeats 8000000
namespace Go.Ev
open Go.Proofs
def rWI (m:M) (w:WorldT) (c:Int):Out:={ rs:=[.v m true (worldL w),.v .own false [.int .i64 c]],outs:=[] }
theorem WorldP.wb {w:WorldT} (h:WorldP w):WorldB w:=by
 have LP:=h.lk
 have h1:=LP.len
 have h2:=h.owns
 have h3:=h.epochs
 have h4:=h.alive
 have h5:=h.keptN
 have h6:=h.lateN
 refine ⟨h.st.bd.toStoreB,by omega,LP.bd,by omega,fun o ho=>?_,by omega,by omega,by omega,by omega⟩
 obtain ⟨i,hi,rfl⟩:=List.getElem_of_mem ho
 have:=h.own i (by omega)
 rw [show w.own i=w.owns[i] from getD_lt _ hi] at this
 have B:=OwnT.owB this
 exact ⟨B.h,B.d⟩
def yieldsS (write:Bool) (s:Sp):List Nat→WorldT→Option WorldT
 | [],w=>some w
 | k::ks,w=>if (yieldS w k write s).2=true then yieldsS write s ks (yieldS w k write s).1 else none
theorem yields_S (write:Bool) (s:Sp):∀ (ks:List Nat) (w:WorldT),yieldsW write s ks w=yieldsS write s ks w
 | [],w=>rfl
 | k::ks,w=>by
  rw [yieldsW,yieldsS,yield_S]
  cases e:(yieldS w k write s).2
  ·rfl
  ·simp only [if_true]
   exact yields_S write s ks _
theorem lp_l7Lock0 (m:M) (hm:m.isOwn=false) (w:WorldT) (ha3:w.alive.length=3) (e:EvT) (ks:List Nat) (hks:∀ k∈ks,k<3) (bs:List Int) (hbs:bs=ks.map (fun k:Nat=>(k:Int))) (a:Code) (ha:a=lp Tryz.f215 0):∀ (n i:Nat),i+n=bs.length→bs.length≤100 →
  loopC E (ev E) 215 a { V:=[(2,adc 2),(3,adc 3),(4,adc 4),(6,at1 6),(7,vi i)],H:=[bxm (.c 2) m (worldL w),bx (.c 3) (evL e),bx (.c 4) (worldL noW),ow (.c 6) [.sl (intsL bs)]],ps:=[] } =
   if ((ks.drop i).any fun k=>!w.live k)=true then some (.ret,{ V:=[(4,adc 4),(5,vi 22)],H:=[bxm (.c 4) m (worldL w)],ps:=[] })
   else some (.exit 0,{ V:=[(2,adc 2),(3,adc 3),(4,adc 4),(6,at1 6),(7,vi bs.length),(25,vb false)],H:=[bxm (.c 2) m (worldL w),bx (.c 3) (evL e),bx (.c 4) (worldL noW),ow (.c 6) [.sl (intsL bs)]],ps:=[] })
 | 0,i,h,hb=>by
  rw [loopC_of _ _ _ _ ha,noW_L]
  obtain rfl:i=bs.length:=by omega
  have:ks.drop bs.length=[]:=List.drop_eq_nil_of_le (by rw [hbs];simp)
  rw [this]
  simp [lp,loopsOf,Tryz.f215,hm]
 | n+1,i,h,hb=>by
  have hlt:i<bs.length:=by omega
  have hl2:i<ks.length:=by rw [hbs] at hlt;simpa using hlt
  have hw:=wrapN i (by omega)
  have ih:=lp_l7Lock0 m hm w ha3 e ks hks bs hbs a ha n (i+1) (by omega) hb
  push_cast at ih
  have hg:bs[i]=((ks[i]:Nat):Int):=by simp [hbs]
  have hk:=hks _ (List.getElem_mem hl2)
  have hka:ks[i]<w.alive.length:=by omega
  have hlv:w.live ks[i]=w.alive[ks[i]]:=getD_lt _ hka
  rw [loopC_of _ _ _ _ ha,List.drop_eq_getElem_cons hl2,List.any_cons,hlv]
  clear ha
  rw [noW_L] at ih ⊢
  generalize (ks.drop (i+1)).any (fun k=>!w.live k)=r at ih ⊢
  generalize ks[i]=k at *
  cases e:w.alive[k]<;>simp [lp,loopsOf,Tryz.f215,hlt,hw,hg,hka,hm,e,ih]
theorem lp_l7Lock1 (m:M) (hm:m.isOwn=false) (w:WorldT) (e:EvT) (hs:spOk e.span=true) (ks:List Nat) (bs:List Int) (hbs:bs=ks.map (fun k:Nat=>(k:Int))) (hb:bs.length≤100) (a:Code) (ha:a=lp Tryz.f215 1):∀ (n i:Nat) (x:WorldT),i+n=bs.length→WorldP x→(∀ k∈ks.drop i,k<3∧x.live k=true) →
  loopC E (ev E) 215 a { V:=[(2,adc 2),(3,adc 3),(4,adc 4),(6,at1 6),(8,adc 8),(9,vi i)],H:=[bxm (.c 2) m (worldL w),bx (.c 3) (evL e),bx (.c 4) (worldL noW),ow (.c 6) [.sl (intsL bs)],bx (.c 8) (worldL x)],ps:=[] } =
   match yieldsS e.write e.span (ks.drop i) x with
   | some y=>some (.exit 2,{ V:=[(2,adc 2),(3,adc 3),(4,adc 4),(6,at1 6),(8,adc 8),(9,vi bs.length),(43,vb false)],H:=[bxm (.c 2) m (worldL w),bx (.c 3) (evL e),bx (.c 4) (worldL noW),ow (.c 6) [.sl (intsL bs)],bx (.c 8) (worldL y)],ps:=[] })
   | none=>some (.ret,{ V:=[(4,adc 4),(5,vi 24)],H:=[bxm (.c 4) m (worldL w)],ps:=[] })
 | 0,i,x,h,hw,hk=>by
  rw [loopC_of _ _ _ _ ha,noW_L]
  obtain rfl:i=bs.length:=by omega
  have:ks.drop bs.length=[]:=List.drop_eq_nil_of_le (by rw [hbs];simp)
  rw [this]
  simp [lp,loopsOf,Tryz.f215,yieldsS,hm]
 | n+1,i,x,h,hw,hk=>by
  have hlt:i<bs.length:=by omega
  have hl2:i<ks.length:=by rw [hbs] at hlt;simpa using hlt
  have hwr:=wrapN i (by omega)
  have hg:bs[i]=((ks[i]:Nat):Int):=by simp [hbs]
  rw [List.drop_eq_getElem_cons hl2] at hk ⊢
  obtain ⟨hk3,hka⟩:=hk ks[i] List.mem_cons_self
  have hks:∀ k∈ks.drop (i+1),k<3∧x.live k=true:=fun k hm=>hk k (List.mem_cons_of_mem _ hm)
  have ih:∀ y,(yieldS x ks[i] e.write e.span)=(y,true)→_:=fun y hy=>lp_l7Lock1 m hm w e hs ks bs hbs hb a ha n (i+1) y (by omega)
   (yieldW_ok hw hk3 hka (by rw [yield_S,hy];rfl)).ok (fun k hm=>⟨(hks k hm).1,by
    have:=(yieldW_ok (write:=e.write) (s:=e.span) (x:=y) hw hk3 hka (by rw [yield_S,hy];rfl)).alive
    unfold WorldT.live
    rw [this]
    exact (hks k hm).2⟩)
  have c1:=fun m1 m2 m3=>ev_l7Yield m1 m2 m3 x hw ks[i] hk3 hka e.write e.span hs
  have hback:(yieldS x ks[i] e.write e.span).2=true→backsB x ks[i] e.span=true:=fun h=>by
   unfold yieldS at h
   split at h
   ·assumption
   ·cases h
  rw [loopC_of _ _ _ _ ha,yieldsS]
  clear ha hk hks
  rw [noW_L] at ih ⊢
  generalize ks[i]=k at *
  generalize yieldS x k e.write e.span=y at *
  obtain ⟨y,b⟩:=y
  cases b
  ·cases e1:backsB x k e.span
   ·rw [e1] at c1
    simp only [rWB,Bool.false_eq_true,if_false] at c1
    simp [lp,loopsOf,Tryz.f215,hlt,hg,hm,c1]
   ·rw [e1] at c1
    simp only [rWB,if_true] at c1
    simp [lp,loopsOf,Tryz.f215,hlt,hg,hm,c1]
  ·rw [hback rfl] at c1
   simp only [rWB,if_true] at c1
   have ih:=ih y rfl
   push_cast at ih
   simp [lp,loopsOf,Tryz.f215,hlt,hg,hm,c1,hwr]
   simpa [hwr] using ih
theorem ev_l7Lock (m me:M) (hm:m.isOwn=false) (w:WorldT) (hw:WorldP w) (e:EvT) (i:Nat) (hi:i<3) (he:e.who=i) (hs:spOk e.span=true) :
  ev E 215 [.v m true (worldL w),.v me true (evL e)]=some (rWI (if (lockW w i e.write e.span).2=0 then .own else m) (lockW w i e.write e.span).1 (lockW w i e.write e.span).2):=by
 have LP:=hw.lk
 have hll:w.locks.length≤4000000:=by have:=LP.len;omega
 have hwho:whoOk e.who=true:=by rw [he];exact who_ok hi
 have c0:=fun m m1 m2 m3 hm=>ev_l4Bars m m1 m2 m3 hm w.locks LP.len LP.bd e.who hwho e.write e.span
 have hbi:barsL w.locks e.who e.write e.span=(lockBars w.locks i e.write e.span).map (fun k:Nat=>(k:Int)):=by
  unfold barsL
  rw [he,Int.toNat_natCast]
 rw [hbi] at c0
 have c1:=fun m hm=>ev_l7Copy m hm w hw.wb
 have hk3:∀ k∈lockBars w.locks i e.write e.span,k<3:=fun k hk=>(bars_mem.1 hk).1
 have hbl:((lockBars w.locks i e.write e.span).map (fun k:Nat=>(k:Int))).length≤100:=by
  unfold lockBars
  rw [List.length_map]
  have:=List.length_filter_le (barsAt w.locks i e.write e.span) (List.range 3)
  simp at this;omega
 have hnd:=bars_nodup w.locks i e.write e.span
 unfold lockW
 generalize lockBars w.locks i e.write e.span=ks at *
 generalize hbs:ks.map (fun k:Nat=>(k:Int))=bs at *
 have l0:=lp_l7Lock0 m hm w hw.alive e ks hk3 bs hbs.symm _ rfl bs.length 0 (by omega) hbl
 push_cast at l0
 simp only [List.drop_zero] at l0
 rw [noW_L] at l0
 cases e1:ks.any fun k=>!w.live k
 ·have hall:∀ k∈ks,k<3∧w.live k=true:=fun k hk=>⟨hk3 k hk,by
   simp only [List.any_eq_false,Bool.not_eq_true',Bool.not_eq_false] at e1
   exact e1 k hk⟩
  have l1:=lp_l7Lock1 m hm w e hs ks bs hbs.symm hbl _ rfl bs.length 0 w (by omega) hw (by simpa using hall)
  push_cast at l1
  simp only [List.drop_zero] at l1
  rw [noW_L] at l1
  rw [e1] at l0
  simp only [Bool.false_eq_true,if_false] at l0 ⊢
  have hY:∀ y,yieldsW e.write e.span ks w=some y→LockP y.locks:=fun y h=>(yieldsW_ok ks hw hall hnd h).ok.lk
  rw [yields_S] at hY ⊢
  cases hy:yieldsS e.write e.span ks w with
  | none =>
   rw [hy] at l1
   dsimp only at l1 ⊢
   rw [ev_fn Tryz.f215 rfl Tryz.func215 rfl rfl rfl (Nat.le_of_ble_eq_true rfl)]
   simp [c0,hm]
   rw [loopC_at ?_ l0]
   ·simp [c1,hm]
    rw [loopC_at ?_ l1]
    ·simp [rWI,hm]
    ·rfl
   ·rfl
  | some x =>
   rw [hy] at l1
   dsimp only at l1 ⊢
   have LX:=hY x hy
   have hlx:x.locks.length≤4000000:=by have:=LX.len;omega
   have c4:=fun m m1 m2 m3 hm=>ev_spec_LockGive m m1 m2 m3 hm x.locks hlx LX.bd i e.write e.span
   rw [give_I LX hi e.write hs,← he] at c4
   simp only [rLk] at c4
   have hb':∀ b,(lockGive x.locks i e.write e.span).2=b→(lockGive x.locks i e.write e.span)=((lockGive x.locks i e.write e.span).1,b):=fun b h=>by rw [← h]
   rw [ev_fn Tryz.f215 rfl Tryz.func215 rfl rfl rfl (Nat.le_of_ble_eq_true rfl)]
   simp [c0,hm]
   rw [loopC_at ?_ l0]
   ·simp [c1,hm]
    rw [loopC_at ?_ l1]
    ·rcases Bool.eq_false_or_eq_true (lockGive x.locks i e.write e.span).2 with hg | hg
     ·rw [hg] at c4
      simp [c4,rWI,hm,hg]
     ·rw [hg] at c4
      simp [c4,rWI,hm,hg]
    ·rfl
   ·rfl
 ·rw [e1] at l0
  simp only [if_true] at l0 ⊢
  rw [ev_fn Tryz.f215 rfl Tryz.func215 rfl rfl rfl (Nat.le_of_ble_eq_true rfl)]
  simp [c0,hm]
  rw [loopC_at ?_ l0]
  ·simp [rWI,hm]
  ·rfl
end Go.Ev


set_option maxRecDepth 100000
set_option maxHeartbeats 8000000
namespace Go.Ev
open Go.Proofs
def rWS (m:M) (w:WorldT) (s:Bs) (c:Int):Out:={ rs:=[.v m true (worldL w),.v .own false [.str s],.v .own false [.int .i64 c]],outs:=[] }
theorem WorldP.lock_get {w:WorldT} (h:WorldP w) {i:Nat} (hi:i<3):∃ hl:i<w.locks.length,w.locks[i]=w.lock i :=
 have hl:i<w.locks.length:=by have:=h.lk.len;omega
 ⟨hl,(getD_lt _ hl).symm⟩
theorem fillT1_t {o:OwnT} {p:Sp} {x:Bs} (h:(fillT1 o p x).2=true):(fillT1 o p x).1.t.length=48:=by
 unfold fillT1 at h ⊢
 split at h
 ·split at h
  ·rename_i a b
   rw [if_pos a,if_pos b]
   exact (ownOk_t b).1
  ·cases h
 ·cases h
theorem ev_l7Read (me:M) (w:WorldT) (h:WorldP w) (e:EvT) (i:Nat) (hi:i<3) (he:e.who=i) (hs:spOk e.span=true) :
  ev E 216 [.own true (worldL w),.v me true (evL e)]=some (rWS .own (readW w i e.span).1 (readW w i e.span).2.1 (readW w i e.span).2.2):=by
 obtain ⟨hl,ho⟩:=h.own_get hi
 obtain ⟨hk,hlo⟩:=h.lock_get hi
 have hB:=h.lk.bd _ (List.getElem_mem hk)
 have sp:=spOk_iff.1 hs
 have q1:e.span.1≤(e.span.2.toNat:Int):=by omega
 have q3:e.span.1.toNat≤e.span.2.toNat:=by omega
 have q4:max e.span.2 0=e.span.2:=by omega
 have q5:0≤e.span.2:=by omega
 have q6:e.span.1≤e.span.2:=by omega
 have c1:=fun m m1 m2 hm=>ev_l4May m m1 m2 hm w.locks[i] hB false e.span sp.1 (by omega) sp.2.2
 have c2:=fun m hm=>ev_l7File m hm w (layOk_iff.2 h.lay) h.st.now
 have hfl:=file_len w
 have c3:=fun m m' m'' hm=>ev_sFill m m' m'' hm (w.own i) (h.own i hi) e.span (subS w.file e.span) (by simp [subS];omega)
 have hft:=fun hb=>fillT1_t (o:=w.own i) (p:=e.span) (x:=subS w.file e.span) hb
 unfold readW
 rw [← hlo]
 cases e1:lockMay w.locks[i] false e.span
 ·rw [e1] at c1
  rw [ev_fn Tryz.f216 rfl Tryz.func216 rfl rfl rfl (Nat.le_of_ble_eq_true rfl)]
  simp [he,hk,c1,rWS]
 ·rw [e1] at c1
  simp only [if_true]
  rw [← ho] at c3 hft ⊢
  generalize fillT1 w.owns[i] e.span (subS w.file e.span)=z at *
  obtain ⟨o,b⟩:=z
  simp only [subS] at c3
  generalize w.file=fl at *
  cases b
  ·rw [ev_fn Tryz.f216 rfl Tryz.func216 rfl rfl rfl (Nat.le_of_ble_eq_true rfl)]
   simp [he,hk,hl,c1,c2,c3,hfl,sp,q1,q3,q4,q5,q6,rWS]
  ·have ht:=hft rfl
   dsimp only at ht
   rw [ev_fn Tryz.f216 rfl Tryz.func216 rfl rfl rfl (Nat.le_of_ble_eq_true rfl)]
   simp [he,hk,hl,c1,c2,c3,hfl,sp,q1,q3,q4,q5,q6,ht,rWS,subS,List.map_set]
theorem wrOk_def (k:Int) (x:Bs):wrOk k x=(!ltI k 0&&!ltI 48 k&&txtOk x&&!eqS x []&&!ltI 48 (k+x.length)):=rfl
theorem ev_l7Write (me:M) (w:WorldT) (h:WorldP w) (e:EvT) (i:Nat) (hi:i<3) (he:e.who=i) (hd:e.data.length≤4000000) :
  ev E 217 [.own true (worldL w),.v me true (evL e)]=some (rWI .own (writeW w i e.pos e.data).1 (writeW w i e.pos e.data).2):=by
 obtain ⟨hl,ho⟩:=h.own_get hi
 obtain ⟨hk,hlo⟩:=h.lock_get hi
 have hB:=h.lk.bd _ (List.getElem_mem hk)
 have c0:∀ m,ev E 222 [.v m false [.str e.data]]=some (rB (txtOk e.data)):=fun m=>ev_spec_TextOk m e.data (by omega)
 have c1:=fun h0 h1 h2 m m1 m2 hm=>ev_l4May m m1 m2 hm w.locks[i] hB true (e.pos,e.pos+(e.data.length:Int)) h0 h1 h2
 have c3:=fun m m' m'' hm=>ev_sWrite m m' m'' hm (w.own i) (h.own i hi) e.pos e.data hd
 unfold writeW
 rw [wrOk_def,← hlo]
 cases e1:ltI e.pos 0
 ·cases e2:ltI 48 e.pos
  ·cases e3:txtOk e.data
   ·rw [ev_fn Tryz.f217 rfl Tryz.func217 rfl rfl rfl (Nat.le_of_ble_eq_true rfl)]
    simp [c0,e1,e2,e3,rWI]
   ·cases e4:eqS e.data []
    ·have hw:IntKind.i64.wrap (e.pos+(e.data.length:Int))=e.pos+(e.data.length:Int):=wrap64 (by rw [ltI_not] at e1 e2;omega)
     cases e5:ltI 48 (e.pos+(e.data.length:Int))
     ·rw [ltI_not] at e1 e2 e5
      have c1:=c1 e1 (by dsimp only;omega) e5
      rw [← ltI_not] at e1 e2 e5
      generalize lockMay w.locks[i] true (e.pos,e.pos+(e.data.length:Int))=b at *
      cases b
      ·rw [ev_fn Tryz.f217 rfl Tryz.func217 rfl rfl rfl (Nat.le_of_ble_eq_true rfl)]
       simp [c0,c1,e1,e2,e3,e4,e5,hw,he,hk,rWI]
      ·rw [← ho] at c3 ⊢
       generalize writeT1 w.owns[i] e.pos e.data=z at *
       obtain ⟨o,b⟩:=z
       cases b
       ·rw [ev_fn Tryz.f217 rfl Tryz.func217 rfl rfl rfl (Nat.le_of_ble_eq_true rfl)]
        simp [c0,c1,c3,e1,e2,e3,e4,e5,hw,he,hk,hl,rWI]
       ·rw [ev_fn Tryz.f217 rfl Tryz.func217 rfl rfl rfl (Nat.le_of_ble_eq_true rfl)]
        simp [c0,c1,c3,e1,e2,e3,e4,e5,hw,he,hk,hl,rWI,List.map_set]
     ·rw [ev_fn Tryz.f217 rfl Tryz.func217 rfl rfl rfl (Nat.le_of_ble_eq_true rfl)]
      simp [c0,e1,e2,e3,e4,e5,hw,rWI]
    ·rw [ev_fn Tryz.f217 rfl Tryz.func217 rfl rfl rfl (Nat.le_of_ble_eq_true rfl)]
     simp [c0,e1,e2,e3,e4,rWI]
  ·rw [ev_fn Tryz.f217 rfl Tryz.func217 rfl rfl rfl (Nat.le_of_ble_eq_true rfl)]
   simp [c0,e1,e2,rWI]
 ·rw [ev_fn Tryz.f217 rfl Tryz.func217 rfl rfl rfl (Nat.le_of_ble_eq_true rfl)]
  simp [c0,e1,rWI]
theorem ev_l7Whole:ev E 212 []=some { rs:=[.v .own true (spL whole)],outs:=[] }:=by
 rw [ev_fn Tryz.f212 rfl Tryz.func212 rfl rfl rfl (Nat.le_of_ble_eq_true rfl)]
 simp [whole]
def rW1 (m:M) (w:WorldT):Out:={ rs:=[.v m true (worldL w)],outs:=[] }
theorem ev_l7Fall (w:WorldT) (h:WorldP w) (hd:∀ q∈w.kept,q.data.length≤4000000):ev E 150 [.own true (worldL w)]=some (rW1 .own { w with st:=(storeAll (storeFall w.st) w.kept).1 }):=by
 have FP:=fall_ok h.st
 have hk:=h.keptN
 have c4:=fun m hm=>ev_spec_StoreFall m hm w.st h.st.bd
 have c5:=fun m m' hm hm'=>ev_spec_StoreAll m m' hm hm' (storeFall w.st) w.kept FP.bd (by omega) hd
 rw [if_pos (storeOk_iff.2 h.st)] at c4
 rw [if_pos (storeOk_iff.2 FP)] at c5
 simp only [rS1] at c4
 simp only [rStA] at c5
 generalize storeAll (storeFall w.st) w.kept=z at *
 rw [ev_fn Tryz.f150 rfl Tryz.func150 rfl rfl rfl (Nat.le_of_ble_eq_true rfl)]
 simp [c4,c5,rW1]
end Go.Ev


set_option maxRecDepth 100000
set_option maxHeartbeats 8000000
namespace Go.Ev
open Go.Proofs
theorem addLate_full:∀ (qs l:List ReqT),ltI l.length 8=false→addLate l qs=l
 | [],l,_=>rfl
 | q::qs,l,h=>by
  rw [addLate,h,Bool.and_false,if_neg Bool.false_ne_true]
  exact addLate_full qs l h
theorem lp_l7Evict (w x:WorldT) (qs:List ReqT) (hq:qs.length≤600) (hd:∀ q∈qs,q.data.length≤4000000) (a:Code) (ha:a=lp Tryz.f154 0):∀ (n i:Nat) (l:List ReqT),i+n=qs.length→l.length≤8 →
  ∃ k:Int,loopC E (ev E) 154 a { V:=[(2,adc 2),(4,adc 4),(6,at1 6),(7,vi i)],H:=[pdw w,bx (.c 2) (worldL { x with late:=l }),bx (.c 4) (worldL noW),ow (.c 6) [.sl (qs.map reqL)]],ps:=[0] } =
   some (.exit 0,{ V:=[(2,adc 2),(4,adc 4),(6,at1 6),(7,vi k),(74,vb false)],H:=[pdw w,bx (.c 2) (worldL { x with late:=addLate l (qs.drop i) }),bx (.c 4) (worldL noW),ow (.c 6) [.sl (qs.map reqL)]],ps:=[0] })
 | 0,i,l,h,hl=>by
  refine ⟨qs.length,?_⟩
  rw [loopC_of _ _ _ _ ha,noW_L]
  obtain rfl:i=qs.length:=by omega
  simp [lp,loopsOf,Tryz.f154,addLate]
 | n+1,i,l,h,hl=>by
  have hlt:i<qs.length:=by omega
  have hw:=wrapN i (by omega)
  have c1:=fun m=>ev_l5Req m qs[i] (hd _ (List.getElem_mem hlt))
  cases e1:ltI l.length 8
  ·refine ⟨i,?_⟩
   rw [loopC_of _ _ _ _ ha,noW_L,addLate_full _ _ e1]
   simp [lp,loopsOf,Tryz.f154,hlt,e1]
  ·have h8:=ltI_iff.1 e1
   have h1:(l.length+1)*56≤17592186044416:=by omega
   have h2:l.length+1≤17592186044416:=by omega
   cases e2:reqOk qs[i]
   ·obtain ⟨k,ih⟩:=lp_l7Evict w x qs hq hd a ha n (i+1) l (by omega) hl
    refine ⟨k,?_⟩
    push_cast at ih
    rw [e2] at c1
    rw [loopC_of _ _ _ _ ha,List.drop_eq_getElem_cons hlt,addLate,e2]
    clear ha
    rw [noW_L] at ih ⊢
    simp [lp,loopsOf,Tryz.f154,hlt,hw,e1,c1]
    simpa [worldL_mk,storeL] using ih
   ·obtain ⟨k,ih⟩:=lp_l7Evict w x qs hq hd a ha n (i+1) (l++[qs[i]]) (by omega) (by simp;omega)
    refine ⟨k,?_⟩
    push_cast at ih
    rw [e2] at c1
    rw [loopC_of _ _ _ _ ha,List.drop_eq_getElem_cons hlt,addLate,e2,e1]
    clear ha
    rw [noW_L] at ih ⊢
    simp [lp,loopsOf,Tryz.f154,hlt,hw,e1,c1,h1,h2]
    simpa [worldL_mk,storeL] using ih
theorem ev_l7Evict (m1:M) (w:WorldT) (h:WorldP w) (i:Nat) (hi:i<3):ev E 154 [.own true (worldL w),.v m1 false [.int .i64 i]]=some (rWI .own (evictW w i).1 (evictW w i).2):=by
 have hle:i<w.epochs.length:=by have:=h.epochs;omega
 have hla:i<w.alive.length:=by have:=h.alive;omega
 have hlo:i<w.owns.length:=by have:=h.owns;omega
 have hep:w.ep i=w.epochs[i]:=getD_lt _ hle
 unfold evictW
 have hE:=h.ep i hi
 have hfl:=(h.st.nums i hi).2.2.2
 rw [hep] at hE ⊢
 cases e1:ltI w.epochs[i] 100
 ·rw [ev_fn Tryz.f154 rfl Tryz.func154 rfl rfl rfl (Nat.le_of_ble_eq_true rfl)]
  simp [hle,e1,rWI]
 ·obtain ⟨r1,r2⟩:=h.reqsB hi whole_ok
  have hw:IntKind.i64.wrap (w.epochs[i]+1)=w.epochs[i]+1:=wrap64 (by have:=ltI_iff.1 e1;omega)
  have c0:=ev_l7Whole
  have c1:=fun m m1 m2 hm=>ev_l7All m m1 m2 hm w h i hi whole whole_ok
  have c2:=fun m hm=>ev_spec_StoreSync m hm w.st h.st.bd
  rw [if_pos (storeOk_iff.2 h.st)] at c2
  have SP:=sync_ok h.st
  have c3:=fun m m' m'' hm=>ev_spec_StoreFence m m' m'' hm (storeSync w.st) i (w.epochs[i]+1) SP.bd
  have hfo:fenceOk i (w.epochs[i]+1)=true:=by
   simp only [fenceOk,who_ok hi,Bool.true_and,Bool.and_eq_true,Bool.not_eq_true',ltI_not]
   have:=ltI_iff.1 e1
   omega
  rw [if_pos (storeOk_iff.2 SP),fenceT,if_pos hfo,Int.toNat_natCast] at c3
  have c4:=fun m m1 hm=>ev_spec_LockOff m m1 hm w.locks (by have:=h.lk.len;omega) h.lk.bd i
  rw [if_pos (lockOk_iff.2 h.lk),if_pos (who_ok hi),Int.toNat_natCast] at c4
  simp only [rS1] at c2
  simp only [rStB] at c3
  simp only [rLk] at c4
  have c5:ev E 97 []=some { rs:=[.v .own true (ownL noO)],outs:=[] }:=ev_l6None
  obtain ⟨k,l0⟩:=lp_l7Evict w { w with st:=storeFence (storeSync w.st) i (w.epochs[i]+1),kept:=[],epochs:=w.epochs.set i (w.epochs[i]+1),locks:=w.locks.set i noH,owns:=w.owns.set i noO,alive:=w.alive.set i true } (w.reqs i whole) r1 r2 _ rfl (w.reqs i whole).length 0 w.late (by omega) h.lateN
  push_cast at l0
  simp only [List.drop_zero] at l0
  rw [noW_L] at l0
  generalize w.reqs i whole=qs at *
  generalize storeFence (storeSync w.st) i (w.epochs[i]+1)=sf at *
  generalize storeSync w.st=sy at *
  simp only [if_true]
  generalize addLate w.late qs=al at *
  rw [ev_fn Tryz.f154 rfl Tryz.func154 rfl rfl rfl (Nat.le_of_ble_eq_true rfl)]
  simp [c0,c1,c2,c3,c4,c5,hle,hla,hlo,hw,e1,List.map_set]
  simp [worldL_mk,storeL,List.map_set] at l0
  rw [loopC_at ?_ l0]
  ·simp [rWI,List.map_set]
  ·rfl
end Go.Ev


set_option maxRecDepth 100000
set_option maxHeartbeats 8000000
namespace Go.Ev
open Go.Proofs
theorem ev_l7Give (m m1:M) (hm:m.isOwn=false) (w:WorldT) (h:WorldP w) (k:Int):ev E 151 [.v m true (worldL w),.v m1 false [.int .i64 k]]=some (rWI m (giveW w k).1 (giveW w k).2):=by
 have hN:=h.lateN
 unfold giveW
 cases e1:ltI k 0
 ·obtain ⟨i,rfl⟩:∃ i:Nat,k=i:=⟨k.toNat,by have:=ltI_not.1 e1;omega⟩
  cases e2:ltI (i:Int) w.late.length
  ·rw [ev_fn Tryz.f151 rfl Tryz.func151 rfl rfl rfl (Nat.le_of_ble_eq_true rfl)]
   simp [e1,e2,hm,rWI]
  ·have hlt:i<w.late.length:=by have:=ltI_iff.1 e2;omega
   have hg:w.late.getD i ⟨0,0,0,0,0,[]⟩=w.late[i]:=getD_lt _ hlt
   have hq:=(h.late _ (List.getElem_mem hlt)).1
   have hqd:w.late[i].data.length≤4000000:=by have:=(wrOk_len hq.wr);omega
   have c1:=fun m m' hm=>ev_spec_StoreDo m m' hm w.st w.late[i] h.st.bd hqd
   rw [if_pos (storeOk_iff.2 h.st)] at c1
   simp only [rSt] at c1
   have hw:=wrapN i (by omega)
   rw [Int.toNat_natCast,hg]
   generalize storeDo w.st w.late[i]=z at *
   have h1:i*56≤17592186044416:=by omega
   have h2:i≤17592186044416:=by omega
   have h3:(i+(w.late.length - (i+1)))*56≤17592186044416:=by omega
   have h4:i+(w.late.length - (i+1))≤17592186044416:=by omega
   have h6:i≤w.late.length:=by omega
   have h7:i+1≤w.late.length:=by omega
   have h8:(0:Int)≤(i:Int)+1:=by omega
   have h9:(i:Int)+1≤w.late.length:=by omega
   have h5:min i w.late.length=i:=by omega
   rw [ev_fn Tryz.f151 rfl Tryz.func151 rfl rfl rfl (Nat.le_of_ble_eq_true rfl)]
   simp [-List.map_take,-List.map_drop,← List.map_take,← List.map_drop,c1,e1,e2,hlt,hw,h1,h2,h3,h4,h5,h6,h7,h8,h9,hm,rWI]
 ·rw [ev_fn Tryz.f151 rfl Tryz.func151 rfl rfl rfl (Nat.le_of_ble_eq_true rfl)]
  simp [e1,hm,rWI]
end Go.Ev


namespace Go.Ev
theorem eqI_ne {a b:Int} (h:a≠b):eqI a b=false:=by
 rw [← Bool.not_eq_true,eqI_iff]
 exact h
def Sat (P:Out→Prop) (x:Option Out):Prop:=∃ o,x=some o∧P o
def OwRo (m:M):Prop:=m=.own∨m=.ro∨m=.tn
def cln:M→M
 | .tn=>.ro
 | m=>m
theorem cln_ok {m:M} (h:OwRo m):OwRo (cln m):=by
 rcases h with rfl | rfl | rfl
 ·exact .inl rfl
 ·exact .inr (.inl rfl)
 ·exact .inr (.inl rfl)
end Go.Ev

