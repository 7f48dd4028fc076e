/- My texts joined: EvT92, EvT93. No condition. -/
import Derived.Test.YtngbcdcghbapnaaGreatDoorEn33
set_option linter.unusedVariables false
set_option linter.unusedSimpArgs false

set_option maxRecDepth 100000
set_option maxHeartbeats 8000000
namespace Go.Ev
open Go.Proofs
theorem lp_evicts (m1:M) (i:Nat) (x:WorldT) (qs:List ReqT) (hq:qs.length≤600) (hd:∀ q∈qs,q.data.length≤4000000) (a:Code) (ha:a=lp Tryz.f149 0):∀ (n k:Nat) (l:List ReqT),k+n=qs.length→l.length≤8 →
  loopC E (ev E) 149 a { V:=[(0,adp0),(1,.v m1 false [.int .i64 i]),(20,at1 20),(21,vi qs.length),(22,vi k)],H:=[bx (.p 0) (worldL { x with late:=l }),ow (.c 20) [.sl (qs.map reqL)]],ps:=[0] } =
   some (.exit 0,{ V:=[(0,adp0),(1,.v m1 false [.int .i64 i]),(20,at1 20),(21,vi qs.length),(22,vi qs.length),(23,vb false)],H:=[bx (.p 0) (worldL { x with late:=addLate l (qs.drop k) }),ow (.c 20) [.sl (qs.map reqL)]],ps:=[0] })
 | 0,k,l,h,hl=>by
  rw [loopC_of _ _ _ _ ha]
  obtain rfl:k=qs.length:=by omega
  simp [lp,loopsOf,Tryz.f149,addLate]
 | n+1,k,l,h,hl=>by
  have hlt:k<qs.length:=by omega
  have hw:=wrapN k (by omega)
  have c1:=fun m=>ev_formed m qs[k] (hd _ (List.getElem_mem hlt))
  have h1:ltI l.length 8=true→(l.length+1)*56≤17592186044416:=fun _=>by omega
  have h2:ltI l.length 8=true→l.length+1≤17592186044416:=fun _=>by omega
  rw [loopC_of _ _ _ _ ha,List.drop_eq_getElem_cons hlt,addLate]
  cases e2:reqOk qs[k]
  ·have ih:=lp_evicts m1 i x qs hq hd a ha n (k+1) l (by omega) hl
   push_cast at ih
   rw [e2] at c1
   clear ha
   simp [lp,loopsOf,Tryz.f149,hlt,hw,c1]
   simpa [worldL_mk,storeL] using ih
  ·rw [e2] at c1
   cases e1:ltI l.length 8
   ·have ih:=lp_evicts m1 i x qs hq hd a ha n (k+1) l (by omega) hl
    push_cast at ih
    clear ha
    simp [lp,loopsOf,Tryz.f149,hlt,hw,c1,e1]
    simpa [worldL_mk,storeL] using ih
   ·have h8:=ltI_iff.1 e1
    have ih:=lp_evicts m1 i x qs hq hd a ha n (k+1) (l++[qs[k]]) (by omega) (by simp;omega)
    push_cast at ih
    clear ha
    simp [lp,loopsOf,Tryz.f149,hlt,hw,c1,e1,h1 e1,h2 e1]
    simpa [worldL_mk,storeL] using ih
theorem ev_evicts (m1:M) (w:WorldT) (h:WorldP w) (i:Nat) (hi:i<3):ev E 149 [.ptr .own (worldL w),.v m1 false [.int .i64 i]]=some { rs:=[.v .own false [.int .i64 (evictW w i).2]],outs:=[(.own,worldL (evictW w i).1)] }:=by
 have hle:i<w.epochs.length:=by have:=h.epochs;omega
 have hla:i<w.alive.length:=by have:=h.alive;omega
 have hlo:i<w.owns.length:=by have:=h.owns;omega
 have hep:w.ep i=w.epochs[i]:=getD_lt _ hle
 unfold evictW
 have hE:=h.ep i hi
 have hfl:=(h.st.nums i hi).2.2.2
 rw [hep] at hE ⊢
 have e100:eqI w.epochs[i] 100=!ltI w.epochs[i] 100:=by
  cases e:ltI w.epochs[i] 100
  ·rw [ltI_not] at e
   exact eqI_iff.2 (by omega)
  ·rw [ltI_iff] at e
   exact eqI_ne (by omega)
 cases e1:ltI w.epochs[i] 100
 ·rw [e1] at e100
  rw [ev_fn Tryz.f149 rfl Tryz.func149 rfl rfl rfl (Nat.le_of_ble_eq_true rfl)]
  simp [hle,e100]
 ·rw [e1] at e100
  obtain ⟨r1,r2⟩:=h.reqsB hi whole_ok
  have hw:IntKind.i64.wrap (w.epochs[i]+1)=w.epochs[i]+1:=wrap64 (by have:=ltI_iff.1 e1;omega)
  have c1:=fun m m1 m2 hm=>ev_requests m m1 m2 hm w h i hi whole whole_ok
  have c2:=fun m hm=>ev_impl_StoreSync m hm w.st h.st.bd
  rw [if_pos (storeOk_iff.2 h.st)] at c2
  have SP:=sync_ok h.st
  have c3:=fun m m' m'' hm=>ev_impl_StoreFence m m' m'' hm (storeSync w.st) i (w.epochs[i]+1) SP.bd
  have hfo:fenceOk i (w.epochs[i]+1)=true:=by
   simp only [fenceOk,who_ok hi,Bool.true_and,Bool.and_eq_true,Bool.not_eq_true',ltI_not]
   have:=ltI_iff.1 e1
   omega
  rw [if_pos (storeOk_iff.2 SP),fenceT,if_pos hfo,Int.toNat_natCast] at c3
  have c4:=fun m m1 hm=>ev_impl_LockOff m m1 hm w.locks (by have:=h.lk.len;omega) h.lk.bd i
  rw [if_pos (lockOk_iff.2 h.lk),if_pos (who_ok hi),Int.toNat_natCast] at c4
  simp only [rS1] at c2
  simp only [rStB] at c3
  simp only [rLk] at c4
  have c5:ev E 84 []=some { rs:=[.v .own true (ownL noO)],outs:=[] }:=ev_noOwn
  have l0:=lp_evicts m1 i w (w.reqs i whole) r1 r2 _ rfl (w.reqs i whole).length 0 w.late (by omega) h.lateN
  push_cast at l0
  simp only [List.drop_zero] at l0
  have hsp:spL whole=[.int .i64 0,.int .i64 48]:=rfl
  rw [hsp] at c1
  generalize w.reqs i whole=qs at *
  generalize storeFence (storeSync w.st) i (w.epochs[i]+1)=sf at *
  generalize storeSync w.st=sy at *
  simp only [if_true]
  generalize addLate w.late qs=al at *
  rw [ev_fn Tryz.f149 rfl Tryz.func149 rfl rfl rfl (Nat.le_of_ble_eq_true rfl)]
  simp [c1,hle,e100]
  rw [loopC_at ?_ l0]
  ·simp [c2,c3,c4,c5,hle,hla,hlo,hw,List.map_set]
  ·rfl
theorem readS_fill {o:OwnT} {p:Sp} {x:Bs} (ho:o.ok=true) (h:(fillT1 o p x).2=true):readS (fillT1 o p x).1.t (fillT1 o p x).1.h (fillT1 o p x).1.d p=(subS (fillT1 o p x).1.t p,true):=by
 unfold fillT1 at h ⊢
 split at h
 ·split at h
  ·rename_i a b
   rw [if_pos a,if_pos b]
   have hp:=(fillOk_of a).1
   have sp:=spOk_iff.1 hp
   have hh:=(ownOk_t b).2.1
   dsimp only at hh ⊢
   have hv:haveS (addS o.h p) p=true:=haveS_of hh hp fun j hj=>by
    have h48:j<48:=by have:=inSp_iff.1 hj;omega
    rw [addS_get _ _ j h48,hj];rfl
   simp only [readS,b,hv,if_true]
  ·cases h
 ·cases h
theorem lockW_codes (w:WorldT) (i:Nat) (write:Bool) (s:Sp):(lockW w i write s).2=0∨20≤(lockW w i write s).2:=by
 unfold lockW
 split
 ·exact .inr (by simp)
 ·split
  ·exact .inr (by simp)
  ·split
   ·exact .inl rfl
   ·exact .inr (by simp)
def DoesR (w:WorldT) (e:EvT) (x:Option Out):Prop:=∃ (w':WorldT) (s:Bs),((doW w e).2.2<20→w'=(doW w e).1∧s=(doW w e).2.1)∧x=some { rs:=[.v .own false [.str s],.v .own false [.int .i64 (doW w e).2.2]],outs:=[(.own,worldL w')] }
theorem ev_does (me:M) (w:WorldT) (h:WorldP w) (e:EvT) (hd:e.data.length≤4000000) (k9:e.kind≠9) :
  DoesR w e (ev E 53 [.ptr .own (worldL w),.v me true (evL e)]):=by
 have n9:=eqI_ne k9
 by_cases k5:e.kind=5
 ·have hdo:doW w e=({ w with st:=storeSync w.st,kept:=[] },[],0):=by unfold doW;rw [if_pos k5]
  unfold DoesR
  rw [hdo]
  have c1:=fun m hm=>ev_impl_StoreSync m hm w.st h.st.bd
  rw [if_pos (storeOk_iff.2 h.st)] at c1
  simp only [rS1] at c1
  refine ⟨_,_,fun _=>⟨rfl,rfl⟩,?_⟩
  generalize storeSync w.st=z at *
  rw [ev_fn Tryz.f53 rfl Tryz.func53 rfl rfl rfl (Nat.le_of_ble_eq_true rfl)]
  simp [k5,c1]
 have n5:=eqI_ne k5
 by_cases k6:e.kind=6
 ·have hdo:doW w e=({ w with st:=(storeAll (storeFall w.st) w.kept).1 },[],0):=by unfold doW;rw [if_neg k5,if_pos k6]
  unfold DoesR
  rw [hdo]
  have FP:=fall_ok h.st
  have hk:=h.keptN
  have c4:=fun m hm=>ev_impl_StoreFall m hm w.st h.st.bd
  have c5:=fun m m' hm hm'=>ev_impl_StoreAll m m' hm hm' (storeFall w.st) w.kept FP.bd (by omega) h.keptD
  rw [if_pos (storeOk_iff.2 h.st)] at c4
  rw [if_pos (storeOk_iff.2 FP)] at c5
  simp only [rS1] at c4
  simp only [rStA] at c5
  refine ⟨_,_,fun _=>⟨rfl,rfl⟩,?_⟩
  generalize storeAll (storeFall w.st) w.kept=z at *
  rw [ev_fn Tryz.f53 rfl Tryz.func53 rfl rfl rfl (Nat.le_of_ble_eq_true rfl)]
  simp [k6,c4,c5]
 have n6:=eqI_ne k6
 have c2:=fun m=>ev_impl_client m e.who
 have c3:∀ m,ev E 63 [.v m true (spL e.span)]=some (rB (spOk e.span)):=fun m=>ev_impl_SpanOk m e.span
 have hf:formEv e=(ltI e.kind 1 || ltI 9 e.kind || !whoOk e.who || ((eqI e.kind 1 || eqI e.kind 2)&&!spOk e.span)):=rfl
 have hform:formEv e=true→doW w e=(w,[],20):=fun hq=>by unfold doW;rw [if_neg k5,if_neg k6,if_neg k9,if_pos hq]
 cases f1:ltI e.kind 1
 case true =>
  unfold DoesR
  rw [hform (by rw [hf,f1];rfl)]
  refine ⟨_,_,fun _=>⟨rfl,rfl⟩,?_⟩
  rw [ev_fn Tryz.f53 rfl Tryz.func53 rfl rfl rfl (Nat.le_of_ble_eq_true rfl)]
  simp [n5,n6,n9,f1]
 cases f2:ltI 9 e.kind
 case true =>
  unfold DoesR
  rw [hform (by rw [hf,f1,f2];rfl)]
  refine ⟨_,_,fun _=>⟨rfl,rfl⟩,?_⟩
  rw [ev_fn Tryz.f53 rfl Tryz.func53 rfl rfl rfl (Nat.le_of_ble_eq_true rfl)]
  simp [n5,n6,n9,f1,f2]
 cases f3:whoOk e.who
 case false =>
  unfold DoesR
  rw [hform (by rw [hf,f1,f2,f3];rfl)]
  refine ⟨_,_,fun _=>⟨rfl,rfl⟩,?_⟩
  rw [ev_fn Tryz.f53 rfl Tryz.func53 rfl rfl rfl (Nat.le_of_ble_eq_true rfl)]
  simp [n5,n6,n9,f1,f2,f3,c2]
 obtain ⟨i,hi,he⟩:=who_nat f3
 have hla:i<w.alive.length:=by have:=h.alive;omega
 have hlv:w.live i=w.alive[i]:=getD_lt _ hla
 have htn:e.who.toNat=i:=by omega
 obtain ⟨hlo,ho⟩:=h.own_get hi
 have hlk:w.locks.length≤4000000:=by have:=h.lk.len;omega
 have hwho:=who_ok hi
 rw [he] at c2
 cases f4:(eqI e.kind 1 || eqI e.kind 2)&&!spOk e.span
 case true =>
  unfold DoesR
  rw [hform (by rw [hf,f1,f2,f3,f4];rfl)]
  refine ⟨_,_,fun _=>⟨rfl,rfl⟩,?_⟩
  cases e1:eqI e.kind 1<;>cases e2:eqI e.kind 2<;>cases e3:spOk e.span<;>simp only [e1,e2,e3,Bool.or_true,Bool.true_or,Bool.or_false,Bool.not_false,Bool.not_true,Bool.and_true,Bool.and_false,Bool.false_eq_true] at f4
  all_goals
   rw [e3] at c3
   rw [ev_fn Tryz.f53 rfl Tryz.func53 rfl rfl rfl (Nat.le_of_ble_eq_true rfl)]
   simp [n5,n6,n9,f1,f2,e1,e2,e3,he,c2,c3,hwho]
 have hform':¬ formEv e=true:=by rw [hf,f1,f2,f3,f4];simp
 have hs:(e.kind=1∨e.kind=2)→spOk e.span=true:=fun hk=>by
  rcases hk with hk | hk<;>simpa [hk] using f4
 by_cases k8:e.kind=8
 ·have hdo:doW w e=((evictW w i).1,[],(evictW w i).2):=by unfold doW;rw [if_neg k5,if_neg k6,if_neg k9,if_neg hform',if_pos k8,htn]
  unfold DoesR
  rw [hdo]
  have c4:=fun m1=>ev_evicts m1 w h i hi
  refine ⟨_,_,fun _=>⟨rfl,rfl⟩,?_⟩
  generalize evictW w i=z at *
  rw [ev_fn Tryz.f53 rfl Tryz.func53 rfl rfl rfl (Nat.le_of_ble_eq_true rfl)]
  cases e4:w.alive[i]<;>simp [k8,he,hla,hlo,c2,c4,hwho,e4]
 have n8:=eqI_ne k8
 have hdo0:doW w e=if w.live i=false then (w,[],21) else whoW w e:=by unfold doW;rw [if_neg k5,if_neg k6,if_neg k9,if_neg hform',if_neg k8,htn]
 rw [hlv] at hdo0
 cases e4:w.alive[i]
 ·rw [e4,if_pos rfl] at hdo0
  unfold DoesR
  rw [hdo0]
  refine ⟨_,_,fun _=>⟨rfl,rfl⟩,?_⟩
  cases e1:eqI e.kind 1<;>cases e2:eqI e.kind 2<;>cases e3:spOk e.span<;>simp only [e1,e2,e3,Bool.or_true,Bool.true_or,Bool.or_false,Bool.not_false,Bool.not_true,Bool.and_true,Bool.and_false,Bool.true_eq_false] at f4
  all_goals
   rw [e3] at c3
   rw [ev_fn Tryz.f53 rfl Tryz.func53 rfl rfl rfl (Nat.le_of_ble_eq_true rfl)]
   simp [n5,n6,n9,n8,f1,f2,e1,e2,e3,e4,he,hla,c2,c3,hwho]
 rw [e4,if_neg (by simp)] at hdo0
 have hal:w.live i=true:=by rw [hlv,e4]
 unfold whoW at hdo0
 rw [htn] at hdo0
 unfold DoesR
 by_cases k1:e.kind=1
 ·rw [if_pos k1] at hdo0
  rw [hdo0]
  have hs1:=hs (.inl k1)
  have c4:=fun m1 m2 m3=>ev_locks m1 m2 m3 w h i hi e.write e.span hs1
  obtain ⟨q1,q2⟩:=locks_I w i e.write e.span
  dsimp only
  rw [← q1] at q2 ⊢
  refine ⟨(locksI w i e.write e.span).1,_,fun hc=>⟨?_,rfl⟩,?_⟩
  ·rcases lockW_codes w i e.write e.span with z | z
   ·exact q2 (by rw [q1];exact z)
   ·rw [q1] at hc;omega
  ·clear q1 q2 hdo0
   rw [hs1] at c3
   generalize locksI w i e.write e.span=z at *
   rw [ev_fn Tryz.f53 rfl Tryz.func53 rfl rfl rfl (Nat.le_of_ble_eq_true rfl)]
   simp [k1,he,hla,hlo,e4,c2,c3,c4,hwho,hs1]
 rw [if_neg k1] at hdo0
 have n1:=eqI_ne k1
 by_cases k2:e.kind=2
 ·rw [if_pos k2] at hdo0
  rw [hdo0]
  have hs2:=hs (.inr k2)
  rw [hs2] at c3
  have sp:=spOk_iff.1 hs2
  have q1:e.span.1≤(e.span.2.toNat:Int):=by omega
  have q3:e.span.1.toNat≤e.span.2.toNat:=by omega
  have q4:max e.span.2 0=e.span.2:=by omega
  have q5:0≤e.span.2:=by omega
  have q6:e.span.1≤e.span.2:=by omega
  have c4:=fun m m1 m2 m3 hm=>ev_impl_LockMay m m1 m2 m3 hm w.locks hlk h.lk.bd i false e.span
  rw [lockOk_iff.2 h.lk,hwho,hs2,Int.toNat_natCast] at c4
  simp only [Bool.true_and] at c4
  have c5:=fun m hm=>ev_stored m hm w (layOk_iff.2 h.lay) h.st.now
  have hfl:=file_len w
  have c6:=fun m m' m'' hm=>ev_iFill m m' m'' hm (w.own i) (h.own i hi) e.span (subS w.file e.span) (by simp [subS];omega)
  have hrd:=fun hb=>readS_fill (o:=w.own i) (p:=e.span) (x:=subS w.file e.span) (h.own i hi) hb
  have hbd:(fillT1 (w.own i) e.span (subS w.file e.span)).2=true→OwB (fillT1 (w.own i) e.span (subS w.file e.span)).1.t (fillT1 (w.own i) e.span (subS w.file e.span)).1.h (fillT1 (w.own i) e.span (subS w.file e.span)).1.d:=fun hb=>by
   refine OwnT.owB (o:=(fillT1 (w.own i) e.span (subS w.file e.span)).1) ?_
   have:=hrd hb
   unfold readS at this
   split at this
   ·assumption
   ·simp at this
  have hlg:w.lock i=w.locks.getD i noH:=rfl
  cases e5:lockMay (w.locks.getD i noH) false e.span
  ·have hr:readW w i e.span=(w,[],23):=by unfold readW;rw [hlg,e5,if_neg (by simp)]
   rw [hr]
   rw [e5] at c4
   refine ⟨w,[],fun hc=>by simp at hc,?_⟩
   rw [ev_fn Tryz.f53 rfl Tryz.func53 rfl rfl rfl (Nat.le_of_ble_eq_true rfl)]
   simp [k2,he,hla,hlo,e4,c2,c3,c4,hwho,hs2]
  ·rw [e5] at c4
   rcases Bool.eq_false_or_eq_true (fillT1 (w.own i) e.span (subS w.file e.span)).2 with hb | hb
   ·have hr:readW w i e.span=({ w with owns:=w.owns.set i (fillT1 (w.own i) e.span (subS w.file e.span)).1 },subS (fillT1 (w.own i) e.span (subS w.file e.span)).1.t e.span,0):=by unfold readW;rw [hlg,e5,if_pos rfl,if_pos hb]
    rw [hr]
    have c7:=fun m m' hm=>ev_OwnRead m m' hm _ _ _ e.span (hbd hb)
    rw [hrd hb] at c7
    rw [hb] at c6
    refine ⟨_,_,fun _=>⟨rfl,rfl⟩,?_⟩
    clear hr hrd hbd hdo0 hb
    generalize (fillT1 (w.own i) e.span (subS w.file e.span)).1=o at *
    simp only [subS] at c6 c7 ⊢
    generalize w.file=fl at *
    rw [← ho] at c6
    rw [ev_fn Tryz.f53 rfl Tryz.func53 rfl rfl rfl (Nat.le_of_ble_eq_true rfl)]
    simp [k2,he,hla,hlo,e4,c2,c3,c4,c5,c6,c7,hwho,hs2,hfl,sp,q1,q3,q4,q5,q6,List.map_set]
   ·have hr:readW w i e.span=(w,[],24):=by unfold readW;rw [hlg,e5,if_pos rfl,if_neg (by rw [hb];simp)]
    rw [hr]
    rw [hb] at c6
    refine ⟨{ w with owns:=w.owns.set i (fillT1 (w.own i) e.span (subS w.file e.span)).1 },[],fun hc=>by simp at hc,?_⟩
    clear hr hrd hbd hdo0 hb
    generalize (fillT1 (w.own i) e.span (subS w.file e.span)).1=o at *
    simp only [subS] at c6
    generalize w.file=fl at *
    rw [← ho] at c6
    rw [ev_fn Tryz.f53 rfl Tryz.func53 rfl rfl rfl (Nat.le_of_ble_eq_true rfl)]
    simp [k2,he,hla,hlo,e4,c2,c3,c4,c5,c6,hwho,hs2,hfl,sp,q1,q3,q4,q5,q6,List.map_set]
 rw [if_neg k2] at hdo0
 have n2:=eqI_ne k2
 by_cases k3:e.kind=3
 ·rw [if_pos k3] at hdo0
  rw [hdo0]
  have c4:=fun m m' m''=>ev_impl_TextWrite m m' m'' [] e.data e.pos (by simp) hd
  have htw:(twS [] e.pos e.data).2=wrOk e.pos e.data:=by
   unfold twS
   rw [if_pos (by decide)]
   cases wrOk e.pos e.data<;>rfl
  rw [htw] at c4
  generalize (twS [] e.pos e.data).1=tw at c4
  unfold writeW
  cases e5:wrOk e.pos e.data
  ·rw [e5] at c4
   refine ⟨w,[],fun hc=>by simp at hc,?_⟩
   rw [ev_fn Tryz.f53 rfl Tryz.func53 rfl rfl rfl (Nat.le_of_ble_eq_true rfl)]
   simp [k3,he,hla,hlo,e4,c2,c4,hwho]
  ·rw [e5] at c4
   have hwl:=wrOk_len e5
   have hsp:spOk (e.pos,e.pos+(e.data.length:Int))=true:=spOk_iff.2 (by dsimp only;omega)
   have hw:IntKind.i64.wrap (e.pos+(e.data.length:Int))=e.pos+(e.data.length:Int):=wrap64 (by omega)
   have c5:=fun m m1 m2 m3 hm=>ev_impl_LockMay m m1 m2 m3 hm w.locks hlk h.lk.bd i true (e.pos,e.pos+(e.data.length:Int))
   rw [lockOk_iff.2 h.lk,hwho,hsp,Int.toNat_natCast] at c5
   simp only [Bool.true_and] at c5
   have c6:=fun m m' m'' hm=>ev_iWrite m m' m'' hm (w.own i) (h.own i hi) e.pos e.data hd
   have hlg:w.lock i=w.locks.getD i noH:=rfl
   rw [hlg]
   simp only [if_true]
   cases e6:lockMay (w.locks.getD i noH) true (e.pos,e.pos+(e.data.length:Int))
   ·rw [e6] at c5
    refine ⟨w,[],fun hc=>by simp at hc,?_⟩
    rw [ev_fn Tryz.f53 rfl Tryz.func53 rfl rfl rfl (Nat.le_of_ble_eq_true rfl)]
    simp [k3,he,hla,hlo,e4,c2,c4,c5,hw,hwho]
   ·rw [e6] at c5
    simp only [if_true]
    rw [← ho] at c6 ⊢
    generalize writeT1 w.owns[i] e.pos e.data=z at *
    obtain ⟨o,b⟩:=z
    cases b
    ·refine ⟨{ w with owns:=w.owns.set i o },[],fun hc=>by simp at hc,?_⟩
     rw [ev_fn Tryz.f53 rfl Tryz.func53 rfl rfl rfl (Nat.le_of_ble_eq_true rfl)]
     simp [k3,he,hla,hlo,e4,c2,c4,c5,c6,hw,hwho,List.map_set]
    ·refine ⟨_,_,fun _=>⟨rfl,rfl⟩,?_⟩
     rw [ev_fn Tryz.f53 rfl Tryz.func53 rfl rfl rfl (Nat.le_of_ble_eq_true rfl)]
     simp [k3,he,hla,hlo,e4,c2,c4,c5,c6,hw,hwho,List.map_set]
 rw [if_neg k3] at hdo0
 have n3:=eqI_ne k3
 by_cases k4:e.kind=4
 ·rw [if_pos k4,flush_backs] at hdo0
  rw [hdo0]
  have c4:=fun m1 m2=>ev_backs m1 m2 w h i hi whole whole_ok
  have hsp:spL whole=[.int .i64 0,.int .i64 48]:=rfl
  rw [hsp] at c4
  cases hb:backsB w i whole
  ·rw [hb] at c4
   refine ⟨backsW w i whole,[],fun hc=>by simp at hc,?_⟩
   generalize backsW w i whole=z at *
   rw [ev_fn Tryz.f53 rfl Tryz.func53 rfl rfl rfl (Nat.le_of_ble_eq_true rfl)]
   simp [k4,he,hla,hlo,e4,c2,c4,hwho]
  ·rw [hb] at c4
   refine ⟨_,_,fun _=>⟨rfl,rfl⟩,?_⟩
   simp only [if_true]
   generalize backsW w i whole=z at *
   rw [ev_fn Tryz.f53 rfl Tryz.func53 rfl rfl rfl (Nat.le_of_ble_eq_true rfl)]
   simp [k4,he,hla,hlo,e4,c2,c4,hwho]
 rw [if_neg k4] at hdo0
 rw [hdo0]
 have n4:=eqI_ne k4
 have k7:e.kind=7:=by
  rw [ltI_not] at f1 f2
  omega
 have c5:ev E 84 []=some { rs:=[.v .own true (ownL noO)],outs:=[] }:=ev_noOwn
 refine ⟨_,_,fun _=>⟨rfl,rfl⟩,?_⟩
 rw [ev_fn Tryz.f53 rfl Tryz.func53 rfl rfl rfl (Nat.le_of_ble_eq_true rfl)]
 simp [k7,he,hla,hlo,e4,c2,c5,hwho,dieW,List.map_set]
set_option maxRecDepth 100000
set_option maxHeartbeats 8000000
theorem ev_impl_WorldDo (m me:M) (hm:m.isOwn=false) (w:WorldT) (C:WorldC w) (e:EvT) (hd:e.data.length≤4000000) (k9:e.kind≠9) :
  ev E 16 [.v m true (worldL w),.v me true (evL e)]=some (rWS .own (worldDo w e).1 (worldDo w e).2.1 (worldDo w e).2.2):=by
 have c1:=fun m hm=>ev_impl_WorldOk m hm w C
 have c2:=fun m hm=>ev_anew m hm w C
 unfold worldDo
 cases e1:worldOk w
 ·rw [e1] at c1
  rw [ev_fn Tryz.f16 rfl Tryz.func16 rfl rfl rfl (Nat.le_of_ble_eq_true rfl)]
  simp [c1,hm,rWS,noW,noS]
 ·rw [e1] at c1
  have P:=worldOk_iff.1 e1
  simp only [if_true]
  obtain ⟨w',s,hc,c3⟩:=ev_does .ro w P e hd k9
  have hful:=doW_full (w:=w) (e:=e)
  generalize doW w e=z at *
  obtain ⟨x,t,c⟩:=z
  dsimp only at hc c3 hful ⊢
  cases e2:ltI c 20
  ·obtain ⟨q1,q2⟩:=hful (ltI_not.1 e2)
   subst q1 q2
   rw [ev_fn Tryz.f16 rfl Tryz.func16 rfl rfl rfl (Nat.le_of_ble_eq_true rfl)]
   simp [c1,c2,c3,e2,hm,rWS]
  ·obtain ⟨q1,q2⟩:=hc (ltI_iff.1 e2)
   subst q1 q2
   rw [ev_fn Tryz.f16 rfl Tryz.func16 rfl rfl rfl (Nat.le_of_ble_eq_true rfl)]
   simp [c1,c2,c3,e2,hm,rWS]
end Go.Ev

