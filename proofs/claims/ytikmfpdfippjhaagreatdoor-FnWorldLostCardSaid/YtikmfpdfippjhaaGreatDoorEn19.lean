/- My texts joined: EvT92, EvT93, EvW12, EvT97, EvT98, EvW13, EvT99, EvT101. No condition. -/
import Derived.Test.YtikmfpdfippjhaaGreatDoorEn12
import Derived.Test.YtikmfpdfippjhaaGreatDoorEn14
import Derived.Test.YtikmfpdfippjhaaGreatDoorEn15
import Derived.Test.YtikmfpdfippjhaaGreatDoorEn16
import Derived.Test.YtikmfpdfippjhaaGreatDoorEn17
import Derived.Test.YtikmfpdfippjhaaGreatDoorEn18
set_option linter.unusedVariables false
set_option linter.unusedSimpArgs false

set_option maxRecDepth 100000
set_option maxHeartbeats 8000000
namespace Go.Ev
open Go.Proofs
theorem lp_evicts (m1:M) (i:Nat) (x:WorldT) (qs:List ReqT) (hq:qs.length≤600) (hd:∀ q∈qs,q.data.length≤4000000) (a:Code) (ha:a=lp Tryz.f91 0):∀ (n k:Nat) (l:List ReqT),k+n=qs.length→l.length≤8 →
    loopC E (ev E) 91 a { V:=[(0,adp0),(1,.v m1 false [.int .i64 i]),(20,at1 20),(21,vi qs.length),(22,vi k)],H:=[bx (.p 0) (worldL { x with late:=l }),ow (.c 20) [.sl (qs.map reqL)]],ps:=[0] } =
      some (.exit 0,{ V:=[(0,adp0),(1,.v m1 false [.int .i64 i]),(20,at1 20),(21,vi qs.length),(22,vi qs.length),(23,vb false)],H:=[bx (.p 0) (worldL { x with late:=addLate l (qs.drop k) }),ow (.c 20) [.sl (qs.map reqL)]],ps:=[0] })
  | 0,k,l,h,hl=>by
    rw [loopC_of _ _ _ _ ha]
    obtain rfl:k=qs.length:=by omega
    simp [lp,loopsOf,Tryz.f91,addLate]
  | n+1,k,l,h,hl=>by
    have hlt:k<qs.length:=by omega
    have hw:=wrapN k (by omega)
    have c1:=fun m=>ev_formed m qs[k] (hd _ (List.getElem_mem hlt))
    have h1:ltI l.length 8=true→(l.length+1)*56≤17592186044416:=fun _=>by omega
    have h2:ltI l.length 8=true→l.length+1≤17592186044416:=fun _=>by omega
    rw [loopC_of _ _ _ _ ha,List.drop_eq_getElem_cons hlt,addLate]
    cases e2:reqOk qs[k]
    · have ih:=lp_evicts m1 i x qs hq hd a ha n (k+1) l (by omega) hl
      push_cast at ih
      rw [e2] at c1
      clear ha
      simp [lp,loopsOf,Tryz.f91,hlt,hw,c1]
      simpa [worldL_mk,storeL] using ih
    · rw [e2] at c1
      cases e1:ltI l.length 8
      · have ih:=lp_evicts m1 i x qs hq hd a ha n (k+1) l (by omega) hl
        push_cast at ih
        clear ha
        simp [lp,loopsOf,Tryz.f91,hlt,hw,c1,e1]
        simpa [worldL_mk,storeL] using ih
      · have h8:=ltI_iff.1 e1
        have ih:=lp_evicts m1 i x qs hq hd a ha n (k+1) (l++[qs[k]]) (by omega) (by simp;omega)
        push_cast at ih
        clear ha
        simp [lp,loopsOf,Tryz.f91,hlt,hw,c1,e1,h1 e1,h2 e1]
        simpa [worldL_mk,storeL] using ih
theorem ev_evicts (m1:M) (w:WorldT) (h:WorldP w) (i:Nat) (hi:i<3):ev E 91 [.ptr .own (worldL w),.v m1 false [.int .i64 i]]=some { rs:=[.v .own false [.int .i64 (evictW w i).2]],outs:=[(.own,worldL (evictW w i).1)] }:=by
  have hle:i<w.epochs.length:=by have:=h.epochs;omega
  have hla:i<w.alive.length:=by have:=h.alive;omega
  have hlo:i<w.owns.length:=by have:=h.owns;omega
  have hep:w.ep i=w.epochs[i]:=getD_lt _ hle
  unfold evictW
  have hE:=h.ep i hi
  have hfl:=(h.st.nums i hi).2.2.2
  rw [hep] at hE ⊢
  have e100:eqI w.epochs[i] 100=!ltI w.epochs[i] 100:=by
    cases e:ltI w.epochs[i] 100
    · rw [ltI_not] at e
      exact eqI_iff.2 (by omega)
    · rw [ltI_iff] at e
      exact eqI_ne (by omega)
  cases e1:ltI w.epochs[i] 100
  · rw [e1] at e100
    rw [ev_fn Tryz.f91 rfl Tryz.func91 rfl rfl rfl (Nat.le_of_ble_eq_true rfl)]
    simp [hle,e100]
  · rw [e1] at e100
    obtain ⟨r1,r2⟩:=h.reqsB hi whole_ok
    have hw:IntKind.i64.wrap (w.epochs[i]+1)=w.epochs[i]+1:=wrap64 (by have:=ltI_iff.1 e1;omega)
    have c1:=fun m m1 m2 hm=>ev_requests m m1 m2 hm w h i hi whole whole_ok
    have c2:=fun m hm=>ev_impl_StoreSync m hm w.st h.st.bd
    rw [if_pos (storeOk_iff.2 h.st)] at c2
    have SP:=sync_ok h.st
    have c3:=fun m m' m'' hm=>ev_impl_StoreFence m m' m'' hm (storeSync w.st) i (w.epochs[i]+1) SP.bd
    have hfo:fenceOk i (w.epochs[i]+1)=true:=by
      simp only [fenceOk,who_ok hi,Bool.true_and,Bool.and_eq_true,Bool.not_eq_true',ltI_not]
      have:=ltI_iff.1 e1
      omega
    rw [if_pos (storeOk_iff.2 SP),fenceT,if_pos hfo,Int.toNat_natCast] at c3
    have c4:=fun m m1 hm=>ev_impl_LockOff m m1 hm w.locks (by have:=h.lk.len;omega) h.lk.bd i
    rw [if_pos (lockOk_iff.2 h.lk),if_pos (who_ok hi),Int.toNat_natCast] at c4
    simp only [rS1] at c2
    simp only [rStB] at c3
    simp only [rLk] at c4
    have c5:ev E 49 []=some { rs:=[.v .own true (ownL noO)],outs:=[] }:=ev_noOwn
    have l0:=lp_evicts m1 i w (w.reqs i whole) r1 r2 _ rfl (w.reqs i whole).length 0 w.late (by omega) h.lateN
    push_cast at l0
    simp only [List.drop_zero] at l0
    have hsp:spL whole=[.int .i64 0,.int .i64 48]:=rfl
    rw [hsp] at c1
    generalize w.reqs i whole=qs at *
    generalize storeFence (storeSync w.st) i (w.epochs[i]+1)=sf at *
    generalize storeSync w.st=sy at *
    simp only [if_true]
    generalize addLate w.late qs=al at *
    rw [ev_fn Tryz.f91 rfl Tryz.func91 rfl rfl rfl (Nat.le_of_ble_eq_true rfl)]
    simp [c1,hle,e100]
    rw [loopC_at ?_ l0]
    · simp [c2,c3,c4,c5,hle,hla,hlo,hw,List.map_set]
    · rfl
theorem readS_fill {o:OwnT} {p:Sp} {x:Bs} (ho:o.ok=true) (h:(fillT1 o p x).2=true):readS (fillT1 o p x).1.t (fillT1 o p x).1.h (fillT1 o p x).1.d p=(subS (fillT1 o p x).1.t p,true):=by
  unfold fillT1 at h ⊢
  split at h
  · split at h
    · rename_i a b
      rw [if_pos a,if_pos b]
      have hp:=(fillOk_of a).1
      have sp:=spOk_iff.1 hp
      have hh:=(ownOk_t b).2.1
      dsimp only at hh ⊢
      have hv:haveS (addS o.h p) p=true:=haveS_of hh hp fun j hj=>by
        have h48:j<48:=by have:=inSp_iff.1 hj;omega
        rw [addS_get _ _ j h48,hj];rfl
      simp only [readS,b,hv,if_true]
    · cases h
  · cases h
theorem lockW_codes (w:WorldT) (i:Nat) (write:Bool) (s:Sp):(lockW w i write s).2=0∨20≤(lockW w i write s).2:=by
  unfold lockW
  split
  · exact .inr (by simp)
  · split
    · exact .inr (by simp)
    · split
      · exact .inl rfl
      · exact .inr (by simp)
def DoesR (w:WorldT) (e:EvT) (x:Option Out):Prop:=∃ (w':WorldT) (s:Bs),((doW w e).2.2<20→w'=(doW w e).1∧s=(doW w e).2.1)∧x=some { rs:=[.v .own false [.str s],.v .own false [.int .i64 (doW w e).2.2]],outs:=[(.own,worldL w')] }
theorem ev_does (me:M) (w:WorldT) (h:WorldP w) (e:EvT) (hd:e.data.length≤4000000) (k9:e.kind≠9) :
    DoesR w e (ev E 28 [.ptr .own (worldL w),.v me true (evL e)]):=by
  have n9:=eqI_ne k9
  by_cases k5:e.kind=5
  · have hdo:doW w e=({ w with st:=storeSync w.st,kept:=[] },[],0):=by unfold doW;rw [if_pos k5]
    unfold DoesR
    rw [hdo]
    have c1:=fun m hm=>ev_impl_StoreSync m hm w.st h.st.bd
    rw [if_pos (storeOk_iff.2 h.st)] at c1
    simp only [rS1] at c1
    refine ⟨_,_,fun _=>⟨rfl,rfl⟩,?_⟩
    generalize storeSync w.st=z at *
    rw [ev_fn Tryz.f28 rfl Tryz.func28 rfl rfl rfl (Nat.le_of_ble_eq_true rfl)]
    simp [k5,c1]
  have n5:=eqI_ne k5
  by_cases k6:e.kind=6
  · have hdo:doW w e=({ w with st:=(storeAll (storeFall w.st) w.kept).1 },[],0):=by unfold doW;rw [if_neg k5,if_pos k6]
    unfold DoesR
    rw [hdo]
    have FP:=fall_ok h.st
    have hk:=h.keptN
    have c4:=fun m hm=>ev_impl_StoreFall m hm w.st h.st.bd
    have c5:=fun m m' hm hm'=>ev_impl_StoreAll m m' hm hm' (storeFall w.st) w.kept FP.bd (by omega) h.keptD
    rw [if_pos (storeOk_iff.2 h.st)] at c4
    rw [if_pos (storeOk_iff.2 FP)] at c5
    simp only [rS1] at c4
    simp only [rStA] at c5
    refine ⟨_,_,fun _=>⟨rfl,rfl⟩,?_⟩
    generalize storeAll (storeFall w.st) w.kept=z at *
    rw [ev_fn Tryz.f28 rfl Tryz.func28 rfl rfl rfl (Nat.le_of_ble_eq_true rfl)]
    simp [k6,c4,c5]
  have n6:=eqI_ne k6
  have c2:=fun m=>ev_impl_client m e.who
  have c3:∀ m,ev E 41 [.v m true (spL e.span)]=some (rB (spOk e.span)):=fun m=>ev_impl_SpanOk m e.span
  have hf:formEv e=(ltI e.kind 1 || ltI 9 e.kind || !whoOk e.who || ((eqI e.kind 1 || eqI e.kind 2)&&!spOk e.span)):=rfl
  have hform:formEv e=true→doW w e=(w,[],20):=fun hq=>by unfold doW;rw [if_neg k5,if_neg k6,if_neg k9,if_pos hq]
  cases f1:ltI e.kind 1
  case true =>
    unfold DoesR
    rw [hform (by rw [hf,f1];rfl)]
    refine ⟨_,_,fun _=>⟨rfl,rfl⟩,?_⟩
    rw [ev_fn Tryz.f28 rfl Tryz.func28 rfl rfl rfl (Nat.le_of_ble_eq_true rfl)]
    simp [n5,n6,n9,f1]
  cases f2:ltI 9 e.kind
  case true =>
    unfold DoesR
    rw [hform (by rw [hf,f1,f2];rfl)]
    refine ⟨_,_,fun _=>⟨rfl,rfl⟩,?_⟩
    rw [ev_fn Tryz.f28 rfl Tryz.func28 rfl rfl rfl (Nat.le_of_ble_eq_true rfl)]
    simp [n5,n6,n9,f1,f2]
  cases f3:whoOk e.who
  case false =>
    unfold DoesR
    rw [hform (by rw [hf,f1,f2,f3];rfl)]
    refine ⟨_,_,fun _=>⟨rfl,rfl⟩,?_⟩
    rw [ev_fn Tryz.f28 rfl Tryz.func28 rfl rfl rfl (Nat.le_of_ble_eq_true rfl)]
    simp [n5,n6,n9,f1,f2,f3,c2]
  obtain ⟨i,hi,he⟩:=who_nat f3
  have hla:i<w.alive.length:=by have:=h.alive;omega
  have hlv:w.live i=w.alive[i]:=getD_lt _ hla
  have htn:e.who.toNat=i:=by omega
  obtain ⟨hlo,ho⟩:=h.own_get hi
  have hlk:w.locks.length≤4000000:=by have:=h.lk.len;omega
  have hwho:=who_ok hi
  rw [he] at c2
  cases f4:(eqI e.kind 1 || eqI e.kind 2)&&!spOk e.span
  case true =>
    unfold DoesR
    rw [hform (by rw [hf,f1,f2,f3,f4];rfl)]
    refine ⟨_,_,fun _=>⟨rfl,rfl⟩,?_⟩
    cases e1:eqI e.kind 1<;>cases e2:eqI e.kind 2<;>cases e3:spOk e.span<;>simp only [e1,e2,e3,Bool.or_true,Bool.true_or,Bool.or_false,Bool.not_false,Bool.not_true,Bool.and_true,Bool.and_false,Bool.false_eq_true] at f4
    all_goals
      rw [e3] at c3
      rw [ev_fn Tryz.f28 rfl Tryz.func28 rfl rfl rfl (Nat.le_of_ble_eq_true rfl)]
      simp [n5,n6,n9,f1,f2,e1,e2,e3,he,c2,c3,hwho]
  have hform':¬ formEv e=true:=by rw [hf,f1,f2,f3,f4];simp
  have hs:(e.kind=1∨e.kind=2)→spOk e.span=true:=fun hk=>by
    rcases hk with hk | hk<;>simpa [hk] using f4
  by_cases k8:e.kind=8
  · have hdo:doW w e=((evictW w i).1,[],(evictW w i).2):=by unfold doW;rw [if_neg k5,if_neg k6,if_neg k9,if_neg hform',if_pos k8,htn]
    unfold DoesR
    rw [hdo]
    have c4:=fun m1=>ev_evicts m1 w h i hi
    refine ⟨_,_,fun _=>⟨rfl,rfl⟩,?_⟩
    generalize evictW w i=z at *
    rw [ev_fn Tryz.f28 rfl Tryz.func28 rfl rfl rfl (Nat.le_of_ble_eq_true rfl)]
    cases e4:w.alive[i]<;>simp [k8,he,hla,hlo,c2,c4,hwho,e4]
  have n8:=eqI_ne k8
  have hdo0:doW w e=if w.live i=false then (w,[],21) else whoW w e:=by unfold doW;rw [if_neg k5,if_neg k6,if_neg k9,if_neg hform',if_neg k8,htn]
  rw [hlv] at hdo0
  cases e4:w.alive[i]
  · rw [e4,if_pos rfl] at hdo0
    unfold DoesR
    rw [hdo0]
    refine ⟨_,_,fun _=>⟨rfl,rfl⟩,?_⟩
    cases e1:eqI e.kind 1<;>cases e2:eqI e.kind 2<;>cases e3:spOk e.span<;>simp only [e1,e2,e3,Bool.or_true,Bool.true_or,Bool.or_false,Bool.not_false,Bool.not_true,Bool.and_true,Bool.and_false,Bool.true_eq_false] at f4
    all_goals
      rw [e3] at c3
      rw [ev_fn Tryz.f28 rfl Tryz.func28 rfl rfl rfl (Nat.le_of_ble_eq_true rfl)]
      simp [n5,n6,n9,n8,f1,f2,e1,e2,e3,e4,he,hla,c2,c3,hwho]
  rw [e4,if_neg (by simp)] at hdo0
  have hal:w.live i=true:=by rw [hlv,e4]
  unfold whoW at hdo0
  rw [htn] at hdo0
  unfold DoesR
  by_cases k1:e.kind=1
  · rw [if_pos k1] at hdo0
    rw [hdo0]
    have hs1:=hs (.inl k1)
    have c4:=fun m1 m2 m3=>ev_locks m1 m2 m3 w h i hi e.write e.span hs1
    obtain ⟨q1,q2⟩:=locks_I w i e.write e.span
    dsimp only
    rw [← q1] at q2 ⊢
    refine ⟨(locksI w i e.write e.span).1,_,fun hc=>⟨?_,rfl⟩,?_⟩
    · rcases lockW_codes w i e.write e.span with z | z
      · exact q2 (by rw [q1];exact z)
      · rw [q1] at hc;omega
    · clear q1 q2 hdo0
      rw [hs1] at c3
      generalize locksI w i e.write e.span=z at *
      rw [ev_fn Tryz.f28 rfl Tryz.func28 rfl rfl rfl (Nat.le_of_ble_eq_true rfl)]
      simp [k1,he,hla,hlo,e4,c2,c3,c4,hwho,hs1]
  rw [if_neg k1] at hdo0
  have n1:=eqI_ne k1
  by_cases k2:e.kind=2
  · rw [if_pos k2] at hdo0
    rw [hdo0]
    have hs2:=hs (.inr k2)
    rw [hs2] at c3
    have sp:=spOk_iff.1 hs2
    have q1:e.span.1≤(e.span.2.toNat:Int):=by omega
    have q3:e.span.1.toNat≤e.span.2.toNat:=by omega
    have q4:max e.span.2 0=e.span.2:=by omega
    have q5:0≤e.span.2:=by omega
    have q6:e.span.1≤e.span.2:=by omega
    have c4:=fun m m1 m2 m3 hm=>ev_impl_LockMay m m1 m2 m3 hm w.locks hlk h.lk.bd i false e.span
    rw [lockOk_iff.2 h.lk,hwho,hs2,Int.toNat_natCast] at c4
    simp only [Bool.true_and] at c4
    have c5:=fun m hm=>ev_stored m hm w (layOk_iff.2 h.lay) h.st.now
    have hfl:=file_len w
    have c6:=fun m m' m'' hm=>ev_iFill m m' m'' hm (w.own i) (h.own i hi) e.span (subS w.file e.span) (by simp [subS];omega)
    have hrd:=fun hb=>readS_fill (o:=w.own i) (p:=e.span) (x:=subS w.file e.span) (h.own i hi) hb
    have hbd:(fillT1 (w.own i) e.span (subS w.file e.span)).2=true→OwB (fillT1 (w.own i) e.span (subS w.file e.span)).1.t (fillT1 (w.own i) e.span (subS w.file e.span)).1.h (fillT1 (w.own i) e.span (subS w.file e.span)).1.d:=fun hb=>by
      refine OwnT.owB (o:=(fillT1 (w.own i) e.span (subS w.file e.span)).1) ?_
      have:=hrd hb
      unfold readS at this
      split at this
      · assumption
      · simp at this
    have hlg:w.lock i=w.locks.getD i noH:=rfl
    cases e5:lockMay (w.locks.getD i noH) false e.span
    · have hr:readW w i e.span=(w,[],23):=by unfold readW;rw [hlg,e5,if_neg (by simp)]
      rw [hr]
      rw [e5] at c4
      refine ⟨w,[],fun hc=>by simp at hc,?_⟩
      rw [ev_fn Tryz.f28 rfl Tryz.func28 rfl rfl rfl (Nat.le_of_ble_eq_true rfl)]
      simp [k2,he,hla,hlo,e4,c2,c3,c4,hwho,hs2]
    · rw [e5] at c4
      rcases Bool.eq_false_or_eq_true (fillT1 (w.own i) e.span (subS w.file e.span)).2 with hb | hb
      · have hr:readW w i e.span=({ w with owns:=w.owns.set i (fillT1 (w.own i) e.span (subS w.file e.span)).1 },subS (fillT1 (w.own i) e.span (subS w.file e.span)).1.t e.span,0):=by unfold readW;rw [hlg,e5,if_pos rfl,if_pos hb]
        rw [hr]
        have c7:=fun m m' hm=>ev_OwnRead m m' hm _ _ _ e.span (hbd hb)
        rw [hrd hb] at c7
        rw [hb] at c6
        refine ⟨_,_,fun _=>⟨rfl,rfl⟩,?_⟩
        clear hr hrd hbd hdo0 hb
        generalize (fillT1 (w.own i) e.span (subS w.file e.span)).1=o at *
        simp only [subS] at c6 c7 ⊢
        generalize w.file=fl at *
        rw [← ho] at c6
        rw [ev_fn Tryz.f28 rfl Tryz.func28 rfl rfl rfl (Nat.le_of_ble_eq_true rfl)]
        simp [k2,he,hla,hlo,e4,c2,c3,c4,c5,c6,c7,hwho,hs2,hfl,sp,q1,q3,q4,q5,q6,List.map_set]
      · have hr:readW w i e.span=(w,[],24):=by unfold readW;rw [hlg,e5,if_pos rfl,if_neg (by rw [hb];simp)]
        rw [hr]
        rw [hb] at c6
        refine ⟨{ w with owns:=w.owns.set i (fillT1 (w.own i) e.span (subS w.file e.span)).1 },[],fun hc=>by simp at hc,?_⟩
        clear hr hrd hbd hdo0 hb
        generalize (fillT1 (w.own i) e.span (subS w.file e.span)).1=o at *
        simp only [subS] at c6
        generalize w.file=fl at *
        rw [← ho] at c6
        rw [ev_fn Tryz.f28 rfl Tryz.func28 rfl rfl rfl (Nat.le_of_ble_eq_true rfl)]
        simp [k2,he,hla,hlo,e4,c2,c3,c4,c5,c6,hwho,hs2,hfl,sp,q1,q3,q4,q5,q6,List.map_set]
  rw [if_neg k2] at hdo0
  have n2:=eqI_ne k2
  by_cases k3:e.kind=3
  · rw [if_pos k3] at hdo0
    rw [hdo0]
    have c4:=fun m m' m''=>ev_impl_TextWrite m m' m'' [] e.data e.pos (by simp) hd
    have htw:(twS [] e.pos e.data).2=wrOk e.pos e.data:=by
      unfold twS
      rw [if_pos (by decide)]
      cases wrOk e.pos e.data<;>rfl
    rw [htw] at c4
    generalize (twS [] e.pos e.data).1=tw at c4
    unfold writeW
    cases e5:wrOk e.pos e.data
    · rw [e5] at c4
      refine ⟨w,[],fun hc=>by simp at hc,?_⟩
      rw [ev_fn Tryz.f28 rfl Tryz.func28 rfl rfl rfl (Nat.le_of_ble_eq_true rfl)]
      simp [k3,he,hla,hlo,e4,c2,c4,hwho]
    · rw [e5] at c4
      have hwl:=wrOk_len e5
      have hsp:spOk (e.pos,e.pos+(e.data.length:Int))=true:=spOk_iff.2 (by dsimp only;omega)
      have hw:IntKind.i64.wrap (e.pos+(e.data.length:Int))=e.pos+(e.data.length:Int):=wrap64 (by omega)
      have c5:=fun m m1 m2 m3 hm=>ev_impl_LockMay m m1 m2 m3 hm w.locks hlk h.lk.bd i true (e.pos,e.pos+(e.data.length:Int))
      rw [lockOk_iff.2 h.lk,hwho,hsp,Int.toNat_natCast] at c5
      simp only [Bool.true_and] at c5
      have c6:=fun m m' m'' hm=>ev_iWrite m m' m'' hm (w.own i) (h.own i hi) e.pos e.data hd
      have hlg:w.lock i=w.locks.getD i noH:=rfl
      rw [hlg]
      simp only [if_true]
      cases e6:lockMay (w.locks.getD i noH) true (e.pos,e.pos+(e.data.length:Int))
      · rw [e6] at c5
        refine ⟨w,[],fun hc=>by simp at hc,?_⟩
        rw [ev_fn Tryz.f28 rfl Tryz.func28 rfl rfl rfl (Nat.le_of_ble_eq_true rfl)]
        simp [k3,he,hla,hlo,e4,c2,c4,c5,hw,hwho]
      · rw [e6] at c5
        simp only [if_true]
        rw [← ho] at c6 ⊢
        generalize writeT1 w.owns[i] e.pos e.data=z at *
        obtain ⟨o,b⟩:=z
        cases b
        · refine ⟨{ w with owns:=w.owns.set i o },[],fun hc=>by simp at hc,?_⟩
          rw [ev_fn Tryz.f28 rfl Tryz.func28 rfl rfl rfl (Nat.le_of_ble_eq_true rfl)]
          simp [k3,he,hla,hlo,e4,c2,c4,c5,c6,hw,hwho,List.map_set]
        · refine ⟨_,_,fun _=>⟨rfl,rfl⟩,?_⟩
          rw [ev_fn Tryz.f28 rfl Tryz.func28 rfl rfl rfl (Nat.le_of_ble_eq_true rfl)]
          simp [k3,he,hla,hlo,e4,c2,c4,c5,c6,hw,hwho,List.map_set]
  rw [if_neg k3] at hdo0
  have n3:=eqI_ne k3
  by_cases k4:e.kind=4
  · rw [if_pos k4,flush_backs] at hdo0
    rw [hdo0]
    have c4:=fun m1 m2=>ev_backs m1 m2 w h i hi whole whole_ok
    have hsp:spL whole=[.int .i64 0,.int .i64 48]:=rfl
    rw [hsp] at c4
    cases hb:backsB w i whole
    · rw [hb] at c4
      refine ⟨backsW w i whole,[],fun hc=>by simp at hc,?_⟩
      generalize backsW w i whole=z at *
      rw [ev_fn Tryz.f28 rfl Tryz.func28 rfl rfl rfl (Nat.le_of_ble_eq_true rfl)]
      simp [k4,he,hla,hlo,e4,c2,c4,hwho]
    · rw [hb] at c4
      refine ⟨_,_,fun _=>⟨rfl,rfl⟩,?_⟩
      simp only [if_true]
      generalize backsW w i whole=z at *
      rw [ev_fn Tryz.f28 rfl Tryz.func28 rfl rfl rfl (Nat.le_of_ble_eq_true rfl)]
      simp [k4,he,hla,hlo,e4,c2,c4,hwho]
  rw [if_neg k4] at hdo0
  rw [hdo0]
  have n4:=eqI_ne k4
  have k7:e.kind=7:=by
    rw [ltI_not] at f1 f2
    omega
  have c5:ev E 49 []=some { rs:=[.v .own true (ownL noO)],outs:=[] }:=ev_noOwn
  refine ⟨_,_,fun _=>⟨rfl,rfl⟩,?_⟩
  rw [ev_fn Tryz.f28 rfl Tryz.func28 rfl rfl rfl (Nat.le_of_ble_eq_true rfl)]
  simp [k7,he,hla,hlo,e4,c2,c5,hwho,dieW,List.map_set]
end Go.Ev


set_option maxRecDepth 100000
set_option maxHeartbeats 8000000
namespace Go.Ev
open Go.Proofs
theorem ev_impl_WorldDo (m me:M) (hm:m.isOwn=false) (w:WorldT) (C:WorldC w) (e:EvT) (hd:e.data.length≤4000000) (k9:e.kind≠9) :
    ev E 11 [.v m true (worldL w),.v me true (evL e)]=some (rWS .own (worldDo w e).1 (worldDo w e).2.1 (worldDo w e).2.2):=by
  have c1:=fun m hm=>ev_impl_WorldOk m hm w C
  have c2:=fun m hm=>ev_anew m hm w C
  unfold worldDo
  cases e1:worldOk w
  · rw [e1] at c1
    rw [ev_fn Tryz.f11 rfl Tryz.func11 rfl rfl rfl (Nat.le_of_ble_eq_true rfl)]
    simp [c1,hm,rWS,noW,noS]
  · rw [e1] at c1
    have P:=worldOk_iff.1 e1
    simp only [if_true]
    obtain ⟨w',s,hc,c3⟩:=ev_does .ro w P e hd k9
    have hful:=doW_full (w:=w) (e:=e)
    generalize doW w e=z at *
    obtain ⟨x,t,c⟩:=z
    dsimp only at hc c3 hful ⊢
    cases e2:ltI c 20
    · obtain ⟨q1,q2⟩:=hful (ltI_not.1 e2)
      subst q1 q2
      rw [ev_fn Tryz.f11 rfl Tryz.func11 rfl rfl rfl (Nat.le_of_ble_eq_true rfl)]
      simp [c1,c2,c3,e2,hm,rWS]
    · obtain ⟨q1,q2⟩:=hc (ltI_iff.1 e2)
      subst q1 q2
      rw [ev_fn Tryz.f11 rfl Tryz.func11 rfl rfl rfl (Nat.le_of_ble_eq_true rfl)]
      simp [c1,c2,c3,e2,hm,rWS]
end Go.Ev


namespace Go.Ev
theorem doW_who {w:WorldT} {e:EvT} (h5:e.kind≠5) (h6:e.kind≠6) (h9:e.kind≠9) (h8:e.kind≠8) (h:(doW w e).2.2=0):¬ formEv e=true∧w.live e.who.toNat=true∧doW w e=whoW w e:=by
  unfold doW at h ⊢
  rw [if_neg h5,if_neg h6,if_neg h9] at h ⊢
  by_cases hf:formEv e=true
  · rw [if_pos hf] at h;simp at h
  rw [if_neg hf,if_neg h8] at h ⊢
  by_cases hl:w.live e.who.toNat=false
  · rw [if_pos hl] at h;simp at h
  exact ⟨hf,by simpa using hl,if_neg hl⟩
structure ReadF (w:WorldT) (e:EvT) (x:WorldT) (data:Bs):Prop where
  ok:WorldP x
  sp:spOk e.span=true
  text:x.text=w.text
  file:x.file=w.file
  data:data=subS w.text e.span
theorem doW_read {w:WorldT} {e:EvT} (hw:WorldP w) (hk:e.kind=2) (h:(doW w e).2.2=0):ReadF w e (doW w e).1 (doW w e).2.1:=by
  have hok:=doW_ok hw e
  obtain ⟨hf,hl,hd⟩:=doW_who (by omega) (by omega) (by omega) (by omega) h
  obtain ⟨hi,_⟩:=form_who hf
  rw [hd] at h hok ⊢
  unfold whoW at h hok ⊢
  rw [if_neg (by omega),if_pos hk] at h hok ⊢
  obtain ⟨hs,R⟩:=readW_fine hw hi hl h
  exact ⟨hok,hs,text_eq hw hok fun j hj=>R.see hw hi hj,file_eq fun j _=>R.byte j,R.data_see hw hi hs⟩
structure WriteF (w:WorldT) (e:EvT) (x:WorldT):Prop where
  ok:WorldP x
  tw:twS w.text e.pos e.data=(x.text,true)
  file:x.file=w.file
theorem doW_writeF {w:WorldT} {e:EvT} (hw:WorldP w) (hk:e.kind=3) (h:(doW w e).2.2=0):WriteF w e (doW w e).1:=by
  obtain ⟨hi,hl,hp,R⟩:=doW_write hw hk h
  have hwr:=R.wr
  rw [show ((e.pos.toNat:Nat):Int)=e.pos by omega] at hwr
  exact ⟨R.ok,by rw [twS_of hw.text_ok hwr,R.text_eq hw hi],file_eq fun j _=>R.byte j⟩
structure FlushF (w:WorldT) (e:EvT) (x:WorldT) (i:Nat):Prop where
  ok:WorldP x
  who:e.who=i
  lt:i<3
  live:w.live i=true
  dirty:(x.own i).d=[]
  locks:x.locks=w.locks
  kept:w.kept.length≤x.kept.length
  byte:∀ j,j<48→x.byte j=if inF (w.own i).d j=true then (w.own i).t.getD j 0 else w.byte j
theorem doW_flush {w:WorldT} {e:EvT} (hw:WorldP w) (hk:e.kind=4) (h:(doW w e).2.2=0):FlushF w e (doW w e).1 e.who.toNat:=by
  have hok:=doW_ok hw e
  obtain ⟨hf,hl,hd⟩:=doW_who (by omega) (by omega) (by omega) (by omega) h
  obtain ⟨hi,h0,h3,_⟩:=form_who hf
  rw [hd] at h hok ⊢
  unfold whoW at h hok ⊢
  rw [if_neg (by omega),if_neg (by omega),if_neg (by omega),if_pos hk] at h hok ⊢
  cases hx:flushW w e.who.toNat whole with
  | none=>rw [hx] at h;simp at h
  | some x =>
    rw [hx] at hok
    dsimp only at hok ⊢
    have R:=flushW_ok hw hi hl hx
    refine ⟨hok,by omega,hi,hl,?_,R.locks,R.keptN,fun j hj=>?_⟩
    · rw [R.own _ hi,if_pos rfl]
      exact cut_whole (ownOk_bd (hw.own _ hi)).2.2.1
    · rw [R.byte j,inSp_whole hj,Bool.true_and]
structure LostF (w:WorldT) (e:EvT) (x:WorldT) (i:Nat):Prop where
  ok:WorldP x
  who:e.who=i
  lt:i<3
  live:x.live i=(eqI e.kind 8)
  file:x.file=w.file
  see:∀ j,j<48→x.see j=if inF (w.own i).d j=true then w.byte j else w.see j
theorem doW_lost {w:WorldT} {e:EvT} (hw:WorldP w) (hk:e.kind=7∨e.kind=8) (h:(doW w e).2.2=0):LostF w e (doW w e).1 e.who.toNat:=by
  have hok:=doW_ok hw e
  rcases hk with hk | hk
  · obtain ⟨hf,hl,hd⟩:=doW_who (by omega) (by omega) (by omega) (by omega) h
    obtain ⟨hi,h0,h3,_⟩:=form_who hf
    rw [hd] at hok ⊢
    unfold whoW at hok ⊢
    rw [if_neg (by omega),if_neg (by omega),if_neg (by omega),if_neg (by omega)] at hok ⊢
    dsimp only at hok ⊢
    have hb:∀ j,(dieW w e.who.toNat).byte j=w.byte j:=fun j=>rfl
    refine ⟨hok,by omega,hi,?_,file_eq fun j _=>hb j,fun j hj=>gone_see hw hok hi (fun k hk=>own_set w _ k noO hw.owns hk) hb hj⟩
    · show (w.alive.set e.who.toNat false).getD e.who.toNat false=_
      rw [getD_set,hw.alive,if_pos ⟨rfl,hi⟩,hk];rfl
  · unfold doW at h hok ⊢
    rw [if_neg (by omega),if_neg (by omega),if_neg (by omega)] at h hok ⊢
    by_cases hf:formEv e=true
    · rw [if_pos hf] at h;simp at h
    rw [if_neg hf,if_pos hk] at h hok ⊢
    dsimp only at h hok ⊢
    obtain ⟨hi,h0,h3,_⟩:=form_who hf
    obtain ⟨q1,q2,q3,q4⟩:=evict_fine h
    have hb:∀ j,(evictW w e.who.toNat).1.byte j=w.byte j:=fun j=>by
      unfold evictW
      split<;>rfl
    refine ⟨hok,by omega,hi,?_,file_eq fun j _=>hb j,fun j hj=>gone_see hw hok hi (fun k hk=>by
      show ((evictW w e.who.toNat).1.owns).getD k noO=_
      rw [q3]
      exact own_set w _ k noO hw.owns hk) hb hj⟩
    · show ((evictW w e.who.toNat).1.alive).getD e.who.toNat false=_
      rw [q2,getD_set,hw.alive,if_pos ⟨rfl,hi⟩,hk];rfl
end Go.Ev


set_option maxRecDepth 100000
set_option maxHeartbeats 8000000
namespace Go.Ev
open Go.Proofs
theorem worldDo_fine {w:WorldT} {e:EvT} (h:(worldDo w e).2.2=0):WorldP w∧worldOk w=true∧worldDo w e=doW w e:=by
  unfold worldDo at h ⊢
  cases hq:worldOk w
  · rw [hq] at h;simp at h
  · exact ⟨worldOk_iff.1 hq,rfl,rfl⟩
theorem WorldP.doIs {w:WorldT} (h:WorldP w) (e:EvT):worldDo w e=doW w e:=by
  unfold worldDo
  rw [if_pos (worldOk_iff.2 h)]
theorem law_FnWorldRead (code:List UInt8):ev E 3 [.v .ro false [.sl (rowsOfBytes code)]]=some (rB true):=by
  cases e0:ltI 1048576 code.length
  case true =>
    rw [ev_fn Tryz.f3 rfl Tryz.func3 rfl rfl rfl (Nat.le_of_ble_eq_true rfl)]
    simp [e0]
  obtain ⟨m,w,e,hm,C,hd,c1⟩:=ev_DrawWorldDo code
  have c2:=fun m me hm=>ev_impl_WorldDo m me hm w C { e with kind:=2 } (by dsimp only;omega) (by simp)
  have c3:=fun m me hm=>ev_spec_WorldDo m me hm w C { e with kind:=2 } (by dsimp only;omega)
  have hf:=worldDo_fine (w:=w) (e:={ e with kind:=2 })
  simp only [rWS,evL] at c2 c3
  cases hc:eqI (worldDo w { e with kind:=2 }).2.2 0
  · generalize worldDo w { e with kind:=2 }=z at *
    rw [ev_fn Tryz.f3 rfl Tryz.func3 rfl rfl rfl (Nat.le_of_ble_eq_true rfl)]
    rcases hm with rfl | rfl | rfl<;>simp [e0,c1,c2,c3,hc]
  · obtain ⟨P,ok,hdo⟩:=hf (eqI_iff.1 hc)
    have hc0:=eqI_iff.1 hc
    rw [hdo] at c2 c3 hc0
    have R:=doW_read P rfl hc0
    have c4:=fun m hm=>ev_iText m hm w C
    have c5:=fun m hm=>ev_iText m hm _ R.ok.wc
    have c6:=fun m hm=>ev_impl_WorldFile m hm w C
    have c7:=fun m hm=>ev_impl_WorldFile m hm _ R.ok.wc
    rw [ok] at c4
    rw [worldOk_iff.2 R.ok] at c5
    simp only [if_true] at c4 c5
    rw [R.text] at c5
    have f1:fileB w=w.file:=by unfold fileB;rw [if_pos ok]
    have f2:fileB (doW w { e with kind:=2 }).1=w.file:=by unfold fileB;rw [if_pos (worldOk_iff.2 R.ok),R.file]
    rw [f1] at c6
    rw [f2] at c7
    have hdat:=R.data
    rw [hc0] at c2 c3
    have htl:=P.textGet.1
    have sp:=spOk_iff.1 R.sp
    dsimp only at sp hdat
    have q1:e.span.1≤(e.span.2.toNat:Int):=by omega
    have q3:e.span.1.toNat≤e.span.2.toNat:=by omega
    have q4:max e.span.2 0=e.span.2:=by omega
    have q5:0≤e.span.2:=by omega
    have q6:e.span.1≤e.span.2:=by omega
    rw [hdat] at c2 c3
    simp only [subS] at c2 c3
    clear hdat R hf hdo hc hc0 ok f1 f2
    generalize (doW w { e with kind:=2 }).1=x at *
    generalize w.text=T at *
    generalize w.file=fl at *
    rw [ev_fn Tryz.f3 rfl Tryz.func3 rfl rfl rfl (Nat.le_of_ble_eq_true rfl)]
    rcases hm with rfl | rfl | rfl<;>simp [e0,c1,c2,c3,c4,c5,c6,c7,htl,sp,q1,q3,q4,q5,q6]
theorem law_FnWorldWrite (code:List UInt8):ev E 4 [.v .ro false [.sl (rowsOfBytes code)]]=some (rB true):=by
  cases e0:ltI 1048576 code.length
  case true =>
    rw [ev_fn Tryz.f4 rfl Tryz.func4 rfl rfl rfl (Nat.le_of_ble_eq_true rfl)]
    simp [e0]
  obtain ⟨m,w,e,hm,C,hd,c1⟩:=ev_DrawWorldDo code
  have c2:=fun m me hm=>ev_impl_WorldDo m me hm w C { e with kind:=3 } (by dsimp only;omega) (by simp)
  have c3:=fun m me hm=>ev_spec_WorldDo m me hm w C { e with kind:=3 } (by dsimp only;omega)
  have hf:=worldDo_fine (w:=w) (e:={ e with kind:=3 })
  simp only [rWS,evL] at c2 c3
  cases hc:eqI (worldDo w { e with kind:=3 }).2.2 0
  · generalize worldDo w { e with kind:=3 }=z at *
    rw [ev_fn Tryz.f4 rfl Tryz.func4 rfl rfl rfl (Nat.le_of_ble_eq_true rfl)]
    rcases hm with rfl | rfl | rfl<;>simp [e0,c1,c2,c3,hc]
  · obtain ⟨P,ok,hdo⟩:=hf (eqI_iff.1 hc)
    have hc0:=eqI_iff.1 hc
    rw [hdo] at c2 c3 hc0
    have R:=doW_writeF P rfl hc0
    have c4:=fun m hm=>ev_iText m hm w C
    have c5:=fun m hm=>ev_iText m hm _ R.ok.wc
    have c6:=fun m hm=>ev_impl_WorldFile m hm w C
    have c7:=fun m hm=>ev_impl_WorldFile m hm _ R.ok.wc
    rw [ok] at c4
    rw [worldOk_iff.2 R.ok] at c5
    simp only [if_true] at c4 c5
    have f1:fileB w=w.file:=by unfold fileB;rw [if_pos ok]
    have f2:fileB (doW w { e with kind:=3 }).1=w.file:=by unfold fileB;rw [if_pos (worldOk_iff.2 R.ok),R.file]
    rw [f1] at c6
    rw [f2] at c7
    rw [hc0] at c2 c3
    have htl:=P.textGet.1
    have c8:=fun m m' m''=>ev_impl_TextWrite m m' m'' w.text e.data e.pos (by omega) (by omega)
    have htw:=R.tw
    dsimp only at htw
    rw [htw] at c8
    clear R hf hdo hc hc0 ok f1 f2 htw
    generalize (doW w { e with kind:=3 }).1=x at *
    generalize x.text=T' at *
    generalize w.text=T at *
    generalize w.file=fl at *
    rw [ev_fn Tryz.f4 rfl Tryz.func4 rfl rfl rfl (Nat.le_of_ble_eq_true rfl)]
    rcases hm with rfl | rfl | rfl<;>simp [e0,c1,c2,c3,c4,c5,c6,c7,c8]
end Go.Ev


set_option maxRecDepth 100000
set_option maxHeartbeats 8000000
namespace Go.Ev
open Go.Proofs
theorem own_get {w:WorldT} {i:Nat} (h:i<w.owns.length):w.own i=w.owns[i]:=by simp [WorldT.own,h]
theorem eqL_refl {α:Type} {c:α→α→Bool} (hc:∀ x,c x x=true):∀ xs:List α,eqL c xs xs=true
  | []=>rfl
  | x::xs=>by rw [eqL,hc,eqL_refl hc xs];rfl
theorem locks_self (t:List HoldT):eqL sameHold t t=true:=eqL_refl (fun x=>by simp [sameHold]) t
theorem WorldP.locksB {w:WorldT} (h:WorldP w):w.locks.length≤4000000∧∀ y∈w.locks,holdB y:=⟨h.wc.toWorldB.locks,h.wc.toWorldB.holds⟩
theorem lp_FnWorldFlush (m m1 m2:M) (hm:OwRo m) (w x:WorldT) (k:Int) (wr:Bool) (s:Sp) (pos:Int) (dat:Bs) (i0:Nat) (h3:i0<w.owns.length) (hdl:(w.owns[i0]).d.length≤4000000) (htl:(w.owns[i0]).t.length=48) (file now:Bs) (hf:file.length=48) (hn:now.length=48)
    (hgo:∀ (j:Nat) (hj:j<48),now[j]'(by omega)=if inF (w.owns[i0]).d j=true then (w.owns[i0]).t[j]'(by omega) else file[j]'(by omega)) (a:Code) (ha:a=lp Tryz.f5 0):∀ (n i:Nat),i+n=48 →
    loopC E (ev E) 5 a { V:=[(3,adc 3),(4,adc 4),(5,adc 5),(11,.v m1 false [.str file]),(12,.v m2 false [.str now]),(13,vi i)],H:=[bxm (.c 3) m (worldL w),bx (.c 4) (evL ⟨k,i0,wr,s,pos,dat⟩),bx (.c 5) (worldL x)],ps:=[] } =
      some (.exit 0,{ V:=[(3,adc 3),(4,adc 4),(5,adc 5),(11,.v m1 false [.str file]),(12,.v m2 false [.str now]),(13,vi 48),(53,vb false)],H:=[bxm (.c 3) m (worldL w),bx (.c 4) (evL ⟨k,i0,wr,s,pos,dat⟩),bx (.c 5) (worldL x)],ps:=[] })
  | 0,i,h0=>by
    rw [loopC_of _ _ _ _ ha]
    obtain rfl:i=48:=by omega
    rcases hm with rfl | rfl | rfl<;>simp [lp,loopsOf,Tryz.f5]
  | n+1,i,h0=>by
    have hI:(i:Int)<48:=by omega
    have hw:=wrapN i (by omega)
    have q1:i<file.length:=by omega
    have q2:i<now.length:=by omega
    have q3:i<(w.owns[i0]).t.length:=by omega
    have ih:=lp_FnWorldFlush m m1 m2 hm w x k wr s pos dat i0 h3 hdl htl file now hf hn hgo a ha n (i+1) (by omega)
    push_cast at ih
    have c1:∀ m m',ev E 16 [.v m false [.sl ((w.owns[i0]).d.map spL)],.v m' false [.int .i64 i]]=some (rB (inF (w.owns[i0]).d i)):=fun m m'=>ev_laws_wpIn m m' _ i (by omega)
    have hgi:=hgo i (by omega)
    rw [loopC_of _ _ _ _ ha]
    clear ha hgo
    cases e1:inF (w.owns[i0]).d i
    · rw [e1] at hgi
      simp only [Bool.false_eq_true,if_false] at hgi
      rcases hm with rfl | rfl | rfl<;>(simp [lp,loopsOf,Tryz.f5,hI,hw,h3,q1,q2,q3,c1,e1,hgi];simpa using ih)
    · rw [e1] at hgi
      simp only [if_true] at hgi
      rcases hm with rfl | rfl | rfl<;>(simp [lp,loopsOf,Tryz.f5,hI,hw,h3,q1,q2,q3,c1,e1,hgi];simpa using ih)
theorem law_FnWorldFlush (code:List UInt8):ev E 5 [.v .ro false [.sl (rowsOfBytes code)]]=some (rB true):=by
  cases e0:ltI 1048576 code.length
  case true =>
    rw [ev_fn Tryz.f5 rfl Tryz.func5 rfl rfl rfl (Nat.le_of_ble_eq_true rfl)]
    simp [e0]
  obtain ⟨m,w,e,hm,C,hd,c1⟩:=ev_DrawWorldDo code
  obtain ⟨k,who,wr,s,pos,dat⟩:=e
  have c2:=fun m me hm=>ev_impl_WorldDo m me hm w C ⟨4,who,wr,s,pos,dat⟩ (by dsimp only at hd ⊢;omega) (by simp)
  have c3:=fun m me hm=>ev_spec_WorldDo m me hm w C ⟨4,who,wr,s,pos,dat⟩ (by dsimp only at hd ⊢;omega)
  have hf:=worldDo_fine (w:=w) (e:=⟨4,who,wr,s,pos,dat⟩)
  simp only [rWS,evL] at c2 c3
  cases hc:eqI (worldDo w ⟨4,who,wr,s,pos,dat⟩).2.2 0
  · generalize worldDo w ⟨4,who,wr,s,pos,dat⟩=z at *
    rw [ev_fn Tryz.f5 rfl Tryz.func5 rfl rfl rfl (Nat.le_of_ble_eq_true rfl)]
    rcases hm with rfl | rfl | rfl<;>simp [e0,c1,c2,c3,hc]
  · obtain ⟨P,ok,hdo⟩:=hf (eqI_iff.1 hc)
    have hc0:=eqI_iff.1 hc
    rw [hdo] at c2 c3 hc0
    have R:=doW_flush P rfl hc0
    have c6:=fun m hm=>ev_impl_WorldFile m hm w C
    have c7:=fun m hm=>ev_impl_WorldFile m hm _ R.ok.wc
    have f1:fileB w=w.file:=by unfold fileB;rw [if_pos ok]
    have f2:fileB (doW w ⟨4,who,wr,s,pos,dat⟩).1=(doW w ⟨4,who,wr,s,pos,dat⟩).1.file:=by unfold fileB;rw [if_pos (worldOk_iff.2 R.ok)]
    rw [f1] at c6
    rw [f2] at c7
    rw [hc0] at c2 c3
    have hwho:=R.who
    have hlt:=R.lt
    have hdy:=R.dirty
    have hlk:=R.locks
    have hkp:=R.kept
    have hby:=R.byte
    have Px:=R.ok
    have kb:=C.toWorldB.kept
    have kbx:=Px.wc.toWorldB.kept
    dsimp only at hwho hlt hdy hby
    have c8:=fun m m' hm hm'=>ev_impl_LockSame m m' hm hm' w.locks w.locks P.locksB.1 P.locksB.2
    rw [locks_self] at c8
    clear R hf hdo hc hc0 ok f1 f2
    generalize (doW w ⟨4,who,wr,s,pos,dat⟩).1=x at *
    generalize who.toNat=i0 at *
    subst hwho
    have ho3:=P.owns
    have ho3x:=Px.owns
    have h3:i0<w.owns.length:=by omega
    have h3x:i0<x.owns.length:=by omega
    have hoo:=own_get h3
    have hox:=own_get h3x
    rw [hoo] at hby
    rw [hox] at hdy
    have hok:=P.own i0 hlt
    rw [hoo] at hok
    have htl:(w.owns[i0]).t.length=48:=(ownOk_bd hok).1
    have hdl:(w.owns[i0]).d.length≤4000000:=by
      have:=spsOk_len (ownOk_bd hok).2.2.1
      omega
    have hgo:∀ (j:Nat) (hj:j<48),x.file[j]'(by rw [file_len];exact hj)=if inF (w.owns[i0]).d j=true then (w.owns[i0]).t[j]'(by omega) else w.file[j]'(by rw [file_len];exact hj):=fun j hj=>by
      have g1:x.file[j]'(by rw [file_len];exact hj)=x.byte j:=by simp [WorldT.file]
      have g2:w.file[j]'(by rw [file_len];exact hj)=w.byte j:=by simp [WorldT.file]
      rw [g1,g2,hby j hj,List.getD_eq_getElem?_getD,List.getElem?_eq_getElem (by omega)]
      rfl
    have hfl:=file_len w
    have hfx:=file_len x
    have hl:=fun m hm m1 m2=>lp_FnWorldFlush m m1 m2 hm w x 4 wr s pos dat i0 h3 hdl htl w.file x.file hfl hfx hgo _ rfl 48 0 (by omega)
    push_cast at hl
    clear hgo hby
    generalize w.file=fw at *
    generalize x.file=fx at *
    rw [ev_fn Tryz.f5 rfl Tryz.func5 rfl rfl rfl (Nat.le_of_ble_eq_true rfl)]
    rcases hm with rfl | rfl | rfl
    · simp [e0,c1,c2,c3,c6,c7]
      rw [loopC_at ?_ (hl .own (.inl rfl) _ _)]
      · simp [h3x,hdy,hlk,c8,kb,kbx,hkp]
      · rfl
    · simp [e0,c1,c2,c3,c6,c7]
      rw [loopC_at ?_ (hl .ro (.inr (.inl rfl)) _ _)]
      · simp [h3x,hdy,hlk,c8,kb,kbx,hkp]
      · rfl
    · simp [e0,c1,c2,c3,c6,c7]
      rw [loopC_at ?_ (hl .ro (.inr (.inl rfl)) _ _)]
      · simp [h3x,hdy,hlk,c8,kb,kbx,hkp]
      · rfl
theorem lp_FnWorldLost (m m1 m2 m3:M) (hm:OwRo m) (w x:WorldT) (k:Int) (wr:Bool) (s:Sp) (pos:Int) (dat:Bs) (i0:Nat) (h3:i0<w.owns.length) (hdl:(w.owns[i0]).d.length≤4000000) (was file now:Bs) (hf:file.length=48) (hn:now.length=48) (hw8:was.length=48)
    (hgo:∀ (j:Nat) (hj:j<48),now[j]'(by omega)=if inF (w.owns[i0]).d j=true then file[j]'(by omega) else was[j]'(by omega)) (a:Code) (ha:a=lp Tryz.f9 0):∀ (n i:Nat),i+n=48 →
    loopC E (ev E) 9 a { V:=[(3,adc 3),(4,adc 4),(5,adc 5),(11,.v m1 false [.str was]),(12,.v m2 false [.str file]),(13,.v m3 false [.str now]),(14,vi i)],H:=[bxm (.c 3) m (worldL w),bx (.c 4) (evL ⟨k,i0,wr,s,pos,dat⟩),bx (.c 5) (worldL x)],ps:=[] } =
      some (.exit 0,{ V:=[(3,adc 3),(4,adc 4),(5,adc 5),(11,.v m1 false [.str was]),(12,.v m2 false [.str file]),(13,.v m3 false [.str now]),(14,vi 48),(59,vb false)],H:=[bxm (.c 3) m (worldL w),bx (.c 4) (evL ⟨k,i0,wr,s,pos,dat⟩),bx (.c 5) (worldL x)],ps:=[] })
  | 0,i,h0=>by
    rw [loopC_of _ _ _ _ ha]
    obtain rfl:i=48:=by omega
    rcases hm with rfl | rfl | rfl<;>simp [lp,loopsOf,Tryz.f9]
  | n+1,i,h0=>by
    have hI:(i:Int)<48:=by omega
    have hw:=wrapN i (by omega)
    have q1:i<file.length:=by omega
    have q2:i<now.length:=by omega
    have q3:i<was.length:=by omega
    have ih:=lp_FnWorldLost m m1 m2 m3 hm w x k wr s pos dat i0 h3 hdl was file now hf hn hw8 hgo a ha n (i+1) (by omega)
    push_cast at ih
    have c1:∀ m m',ev E 16 [.v m false [.sl ((w.owns[i0]).d.map spL)],.v m' false [.int .i64 i]]=some (rB (inF (w.owns[i0]).d i)):=fun m m'=>ev_laws_wpIn m m' _ i (by omega)
    have hgi:=hgo i (by omega)
    rw [loopC_of _ _ _ _ ha]
    clear ha hgo
    cases e1:inF (w.owns[i0]).d i
    · rw [e1] at hgi
      simp only [Bool.false_eq_true,if_false] at hgi
      rcases hm with rfl | rfl | rfl<;>(simp [lp,loopsOf,Tryz.f9,hI,hw,h3,q1,q2,q3,c1,e1,hgi];simpa using ih)
    · rw [e1] at hgi
      simp only [if_true] at hgi
      rcases hm with rfl | rfl | rfl<;>(simp [lp,loopsOf,Tryz.f9,hI,hw,h3,q1,q2,q3,c1,e1,hgi];simpa using ih)
theorem law_FnWorldLost (code:List UInt8):ev E 9 [.v .ro false [.sl (rowsOfBytes code)]]=some (rB true):=by
  cases e0:ltI 1048576 code.length
  case true =>
    rw [ev_fn Tryz.f9 rfl Tryz.func9 rfl rfl rfl (Nat.le_of_ble_eq_true rfl)]
    simp [e0]
  obtain ⟨m,w,e,hm,C,hd,c1⟩:=ev_DrawWorldDo code
  obtain ⟨k0,who,wr,s,pos,dat⟩:=e
  obtain ⟨k,hkw,hk⟩:∃ k:Int,k=(if wr=true then 8 else 7)∧(k=7∨k=8):=⟨_,rfl,by split<;>simp⟩
  have c2:=fun m me hm=>ev_impl_WorldDo m me hm w C ⟨k,who,wr,s,pos,dat⟩ (by dsimp only at hd ⊢;omega) (by dsimp only;omega)
  have c3:=fun m me hm=>ev_spec_WorldDo m me hm w C ⟨k,who,wr,s,pos,dat⟩ (by dsimp only at hd ⊢;omega)
  have hf:=worldDo_fine (w:=w) (e:=⟨k,who,wr,s,pos,dat⟩)
  simp only [rWS,evL] at c2 c3
  cases hc:eqI (worldDo w ⟨k,who,wr,s,pos,dat⟩).2.2 0
  · generalize worldDo w ⟨k,who,wr,s,pos,dat⟩=z at *
    rw [ev_fn Tryz.f9 rfl Tryz.func9 rfl rfl rfl (Nat.le_of_ble_eq_true rfl)]
    cases wr<;>simp only [Bool.false_eq_true,if_false,if_true] at hkw<;>subst hkw<;>rcases hm with rfl | rfl | rfl<;>simp [e0,c1,c2,c3,hc]
  · obtain ⟨P,ok,hdo⟩:=hf (eqI_iff.1 hc)
    have hc0:=eqI_iff.1 hc
    rw [hdo] at c2 c3 hc0
    have R:=doW_lost P hk hc0
    have c4:=fun m hm=>ev_iText m hm w C
    have c5:=fun m hm=>ev_iText m hm _ R.ok.wc
    have c6:=fun m hm=>ev_impl_WorldFile m hm w C
    have c7:=fun m hm=>ev_impl_WorldFile m hm _ R.ok.wc
    rw [ok] at c4
    rw [worldOk_iff.2 R.ok] at c5
    simp only [if_true] at c4 c5
    have f1:fileB w=w.file:=by unfold fileB;rw [if_pos ok]
    have f2:fileB (doW w ⟨k,who,wr,s,pos,dat⟩).1=w.file:=by unfold fileB;rw [if_pos (worldOk_iff.2 R.ok),R.file]
    rw [f1] at c6
    rw [f2] at c7
    rw [hc0] at c2 c3
    have hwho:=R.who
    have hlt:=R.lt
    have hlive:=R.live
    have hsee:=R.see
    have Px:=R.ok
    have Tx:=Px.textGet
    have Tw:=P.textGet
    have hby:∀ (j:Nat) (hj:j<48),w.file[j]'(by rw [file_len];exact hj)=w.byte j:=fun j hj=>by simp [WorldT.file]
    dsimp only at hwho hlt hlive hsee
    clear R hf hdo hc hc0 ok f1 f2
    generalize (doW w ⟨k,who,wr,s,pos,dat⟩).1=x at *
    generalize who.toNat=i0 at *
    subst hwho
    have ho3:=P.owns
    have ha3:=Px.alive
    have h3:i0<w.owns.length:=by omega
    have h3a:i0<x.alive.length:=by omega
    have hoo:=own_get h3
    have hal:x.live i0=x.alive[i0]:=by simp [WorldT.live,h3a]
    rw [hoo] at hsee
    rw [hal] at hlive
    have hok:=P.own i0 hlt
    rw [hoo] at hok
    have hdl:(w.owns[i0]).d.length≤4000000:=by
      have:=spsOk_len (ownOk_bd hok).2.2.1
      omega
    have hfl:=file_len w
    have hgo:∀ (j:Nat) (hj:j<48),x.text[j]'(by rw [Tx.1];exact hj)=if inF (w.owns[i0]).d j=true then w.file[j]'(by omega) else w.text[j]'(by rw [Tw.1];exact hj):=fun j hj=>by
      have g1:=Tx.2 j hj
      have g2:=Tw.2 j hj
      rw [List.getD_eq_getElem?_getD,List.getElem?_eq_getElem (by rw [Tx.1];exact hj)] at g1
      rw [List.getD_eq_getElem?_getD,List.getElem?_eq_getElem (by rw [Tw.1];exact hj)] at g2
      simp only [Option.getD_some] at g1 g2
      rw [g1,g2,hby j hj,hsee j hj]
    have hl:=fun m hm m1 m2 m3=>lp_FnWorldLost m m1 m2 m3 hm w x k wr s pos dat i0 h3 hdl w.text w.file x.text hfl Tx.1 Tw.1 hgo _ rfl 48 0 (by omega)
    push_cast at hl
    clear hgo hsee Tx Tw hby
    generalize w.file=fw at *
    generalize x.text=tx at *
    generalize w.text=tw at *
    rw [ev_fn Tryz.f9 rfl Tryz.func9 rfl rfl rfl (Nat.le_of_ble_eq_true rfl)]
    cases wr<;>simp only [Bool.false_eq_true,if_false,if_true] at hkw<;>subst hkw<;>rcases hm with rfl | rfl | rfl
    all_goals
      simp [e0,c1,c2,c3,c4,c5,c6,c7]
      first | rw [loopC_at ?_ (hl .own (.inl rfl) _ _ _)] | rw [loopC_at ?_ (hl .ro (.inr (.inl rfl)) _ _ _)]
      · simp [c7,h3a,hlive]
      · rfl
end Go.Ev


namespace Go.Ev
theorem inSp_at {j k:Nat}:inSp j ((k:Int),(k:Int)+1)=true↔j=k:=by
  rw [inSp_iff];omega
theorem lockMay_one {h:HoldT} {write:Bool} {k:Nat} (hk:k<48):lockMay h write ((k:Int),(k:Int)+1)=mayAt h write k:=by
  rw [Bool.eq_iff_iff,lockMay_iff (by dsimp only;omega)]
  exact ⟨fun q=>q k (inSp_at.2 rfl),fun q j hj=>by rw [inSp_at.1 hj];exact q⟩
structure LockF (w:WorldT) (e:EvT) (x:WorldT) (i:Nat):Prop where
  ok:WorldP x
  who:e.who=i
  lt:i<3
  sp:spOk e.span=true
  may:lockMay (x.lock i) e.write e.span=true
  may0:lockMay (x.lock i) false e.span=true
  others:∀ k,k<3→k≠i→∀ j:Nat,inSp j e.span=true→inF (x.lock k).w j=false∧inF (x.own k).d j=false∧(e.write=true→inF (x.lock k).r j=false∧inF (x.own k).h j=false)
theorem doW_lock {w:WorldT} {e:EvT} (hw:WorldP w) (hk:e.kind=1) (h:(doW w e).2.2=0):LockF w e (doW w e).1 e.who.toNat:=by
  obtain ⟨hf,hl,hd⟩:=doW_who (by omega) (by omega) (by omega) (by omega) h
  obtain ⟨hi,h0,h3,_,_,hs⟩:=form_who hf
  have hs:=hs (.inl hk)
  rw [hd] at h ⊢
  unfold whoW at h ⊢
  rw [if_pos hk] at h ⊢
  dsimp only at h ⊢
  have R:=lockW_fine hw hi hl hs h
  generalize (lockW w e.who.toNat e.write e.span).1=x at *
  have sp:=spOk_iff.1 hs
  have hb:∀ j:Nat,inSp j e.span=true→j<48:=fun j hj=>by rw [inSp_iff] at hj;omega
  refine ⟨R.ok,by omega,hi,hs,(lockMay_iff sp).2 R.may,(lockMay_iff sp).2 fun j hj=>?_,fun k hk hne j hj=>?_⟩
  · have:=R.may j hj
    simp only [mayAt,Bool.or_eq_true,Bool.and_eq_true] at this ⊢
    rcases this with q | ⟨_,q⟩
    · exact .inl q
    · exact .inr ⟨rfl,q⟩
  · obtain ⟨q1,q2⟩:=R.alone k hk hne j hj
    refine ⟨q1,R.ok.may_sole hi hk hne (hb j hj) (R.may j hj),fun hwr=>⟨q2 hwr,?_⟩⟩
    have:=R.may j hj
    rw [hwr] at this
    simp only [mayAt,Bool.not_true,Bool.false_and,Bool.or_false] at this
    exact R.ok.write_sole hi hk hne (hb j hj) this
theorem WriteR.sub {w x:WorldT} {i lo:Nat} {data:Bs} (hw:WorldP w) (hi:i<3) (R:WriteR w i lo data x):subS x.text ((lo:Int),(lo:Int)+data.length)=data:=by
  have hl:=wrOk_len R.wr
  obtain ⟨t1,t2⟩:=R.ok.textGet
  have e1:((lo:Int)+data.length).toNat=lo+data.length:=by omega
  apply List.ext_getElem?
  intro j
  simp only [subS,Int.toNat_natCast,e1,List.getElem?_take,List.getElem?_drop]
  by_cases hj:j<data.length
  · rw [if_pos (by omega),List.getElem?_eq_getElem hj]
    have g:=t2 (lo+j) (by omega)
    rw [R.see hw hi (by omega),if_pos (by omega)] at g
    rw [List.getD_eq_getElem?_getD,List.getD_eq_getElem?_getD,List.getElem?_eq_getElem (by omega),show lo+j - lo=j by omega,List.getElem?_eq_getElem hj] at g
    simp only [Option.getD_some] at g
    rw [List.getElem?_eq_getElem (by omega),g]
  · rw [if_neg (by omega),List.getElem?_eq_none (by omega)]
theorem two_reads {w:WorldT} {e l r:EvT} (hw:WorldP w) (hk:e.kind=3) (h:(doW w e).2.2=0) (hl:l.kind=1) (hr:r.kind=2) (hrs:r.span=(e.pos,e.pos+e.data.length)) :
    WorldP (doW w e).1∧WorldP (doW (doW w e).1 l).1∧((doW (doW w e).1 l).2.2=0→(doW (doW (doW w e).1 l).1 r).2.2=0→(doW (doW (doW w e).1 l).1 r).2.1=e.data):=by
  obtain ⟨hi,hlv,hp,R⟩:=doW_write hw hk h
  have hok:=R.ok
  refine ⟨hok,doW_ok hok l,fun h1 h2=>?_⟩
  have hy:=doW_ok hok l
  have ht:=text_eq hok hy fun j hj=>still_see hok (by omega) (by omega) (by omega) hj
  have F:=doW_read hy hr h2
  rw [F.data,ht,hrs]
  have:=R.sub hw hi
  rw [show ((e.pos.toNat:Nat):Int)=e.pos by omega] at this
  exact this
end Go.Ev


set_option maxRecDepth 100000
set_option maxHeartbeats 8000000
namespace Go.Ev
open Go.Proofs
theorem lp_FnWorldLock1 (x:WorldT) (P:WorldP x) (k:Int) (wr:Bool) (lo hi:Nat) (hh:hi≤48) (pos:Int) (dat:Bs) (i0:Nat) (j:Nat) (h3j:j<3) (h3:j<x.owns.length)
    (hgo:∀ k:Nat,lo≤k→k<hi→inF (x.lock j).w k=false∧inF (x.own j).d k=false∧(wr=true→inF (x.lock j).r k=false∧inF (x.own j).h k=false)) (a:Code) (ha:a=lp Tryz.f6 1):∀ (n q:Nat),lo≤q→q+n=max lo hi →
    loopC E (ev E) 6 a { V:=[(4,adc 4),(5,adc 5),(11,vi j),(12,vi q)],H:=[bx (.c 4) (evL ⟨k,i0,wr,(lo,hi),pos,dat⟩),bx (.c 5) (worldL x)],ps:=[] } =
      some (.exit 2,{ V:=[(4,adc 4),(5,adc 5),(11,vi j),(12,vi (max lo hi:Nat)),(61,vb false)],H:=[bx (.c 4) (evL ⟨k,i0,wr,(lo,hi),pos,dat⟩),bx (.c 5) (worldL x)],ps:=[] })
  | 0,q,hq,h0=>by
    rw [loopC_of _ _ _ _ ha]
    obtain rfl:q=max lo hi:=by omega
    have hx:ltI ((max lo hi:Nat):Int) (hi:Int)=false:=by rw [ltI_not];omega
    simp [lp,loopsOf,Tryz.f6,hx]
  | n+1,q,hq,h0=>by
    have hI:(q:Int)<hi:=by omega
    have hw:=wrapN q (by omega)
    have ih:=lp_FnWorldLock1 x P k wr lo hi hh pos dat i0 j h3j h3 hgo a ha n (q+1) (by omega) (by omega)
    push_cast at ih
    obtain ⟨g1,g2,g3⟩:=hgo q hq (by omega)
    have w3:whoOk (j:Int)=true:=by simp [whoOk,ltI];omega
    have hox:=own_get h3
    rw [hox] at g2 g3
    have lk:(lockOk x.locks&&(whoOk (j:Int)&&(spOk ((q:Int),(q:Int)+1)&&lockMay (x.locks.getD (Int.toNat (j:Int)) noH) true ((q:Int),(q:Int)+1))))=false:=by
      rw [lockMay_one (by omega)]
      have:mayAt (x.locks.getD (Int.toNat (j:Int)) noH) true q=false:=by
        show mayAt (x.lock j) true q=false
        simp [mayAt,g1]
      rw [this]
      simp
    have c1:=fun m=>ev_wpAt m (q:Int) (by omega)
    have c2:=fun m m1 m2 m3 hm=>ev_impl_LockMay m m1 m2 m3 hm x.locks P.locksB.1 P.locksB.2 (j:Int) true ((q:Int),(q:Int)+1)
    rw [lk] at c2
    have c4:∀ m m',ev E 16 [.v m false [.sl ((x.owns[j]).d.map spL)],.v m' false [.int .i64 q]]=some (rB false):=fun m m'=>by
      have hh:=ev_laws_wpIn m m' (x.owns[j]).d q (by have:=spsOk_len (ownOk_bd (P.own j h3j)).2.2.1;rw [hox] at this;omega)
      rw [show (x.owns[j]).d.any (inSp (q:Int))=false from g2] at hh
      exact hh
    cases wr
    · rw [loopC_of _ _ _ _ ha]
      clear ha hgo
      (simp [lp,loopsOf,Tryz.f6,hI,hw,h3,c1,c2,c4];simpa using ih)
    · obtain ⟨g3,g4⟩:=g3 rfl
      have lk0:(lockOk x.locks&&(whoOk (j:Int)&&(spOk ((q:Int),(q:Int)+1)&&lockMay (x.locks.getD (Int.toNat (j:Int)) noH) false ((q:Int),(q:Int)+1))))=false:=by
        rw [lockMay_one (by omega)]
        have:mayAt (x.locks.getD (Int.toNat (j:Int)) noH) false q=false:=by
          show mayAt (x.lock j) false q=false
          simp [mayAt,g1,g3]
        rw [this]
        simp
      have c3:=fun m m1 m2 m3 hm=>ev_impl_LockMay m m1 m2 m3 hm x.locks P.locksB.1 P.locksB.2 (j:Int) false ((q:Int),(q:Int)+1)
      rw [lk0] at c3
      have c5:∀ m m',ev E 16 [.v m false [.sl ((x.owns[j]).h.map spL)],.v m' false [.int .i64 q]]=some (rB false):=fun m m'=>by
        have hh:=ev_laws_wpIn m m' (x.owns[j]).h q (by have:=spsOk_len (ownOk_bd (P.own j h3j)).2.1;rw [hox] at this;omega)
        rw [show (x.owns[j]).h.any (inSp (q:Int))=false from g4] at hh
        exact hh
      rw [loopC_of _ _ _ _ ha]
      clear ha hgo
      (simp [lp,loopsOf,Tryz.f6,hI,hw,h3,c1,c2,c3,c4,c5];simpa using ih)
theorem lp_FnWorldLock0 (x:WorldT) (P:WorldP x) (k:Int) (wr:Bool) (lo hi:Nat) (hh:hi≤48) (pos:Int) (dat:Bs) (i0:Nat)
    (hgo:∀ j,j<3→j≠i0→∀ k:Nat,lo≤k→k<hi→inF (x.lock j).w k=false∧inF (x.own j).d k=false∧(wr=true→inF (x.lock j).r k=false∧inF (x.own j).h k=false)) (a:Code) (ha:a=lp Tryz.f6 0):∀ (n j:Nat),j+n=3 →
    loopC E (ev E) 6 a { V:=[(4,adc 4),(5,adc 5),(11,vi j)],H:=[bx (.c 4) (evL ⟨k,i0,wr,(lo,hi),pos,dat⟩),bx (.c 5) (worldL x)],ps:=[] } =
      some (.exit 0,{ V:=[(4,adc 4),(5,adc 5),(11,vi 3),(47,vb false)],H:=[bx (.c 4) (evL ⟨k,i0,wr,(lo,hi),pos,dat⟩),bx (.c 5) (worldL x)],ps:=[] })
  | 0,j,h0=>by
    rw [loopC_of _ _ _ _ ha]
    obtain rfl:j=3:=by omega
    simp [lp,loopsOf,Tryz.f6]
  | n+1,j,h0=>by
    have hI:(j:Int)<3:=by omega
    have hw:=wrapN j (by omega)
    have ih:=lp_FnWorldLock0 x P k wr lo hi hh pos dat i0 hgo a ha n (j+1) (by omega)
    push_cast at ih
    rw [loopC_of _ _ _ _ ha]
    clear ha
    by_cases e1:j=i0
    · subst e1
      (simp [lp,loopsOf,Tryz.f6,hI,hw];simpa using ih)
    · have e2:eqI (j:Int) (i0:Int)=false:=by rw [← Bool.not_eq_true,eqI_iff];omega
      have ho3:=P.owns
      have hl:=lp_FnWorldLock1 x P k wr lo hi hh pos dat i0 j (by omega) (by omega) (hgo j (by omega) e1) _ rfl (max lo hi - lo) lo (by omega) (by omega)
      push_cast at hl
      simp [lp,loopsOf,Tryz.f6,hI,hw,e2]
      rw [loopC_at ?_ hl]
      · simp [hw]
        simpa using ih
      · rfl
theorem law_FnWorldLock (code:List UInt8):ev E 6 [.v .ro false [.sl (rowsOfBytes code)]]=some (rB true):=by
  cases e0:ltI 1048576 code.length
  case true =>
    rw [ev_fn Tryz.f6 rfl Tryz.func6 rfl rfl rfl (Nat.le_of_ble_eq_true rfl)]
    simp [e0]
  obtain ⟨m,w,e,hm,C,hd,c1⟩:=ev_DrawWorldDo code
  obtain ⟨k,who,wr,s,pos,dat⟩:=e
  have c2:=fun m me hm=>ev_impl_WorldDo m me hm w C ⟨1,who,wr,s,pos,dat⟩ (by dsimp only at hd ⊢;omega) (by simp)
  have c3:=fun m me hm=>ev_spec_WorldDo m me hm w C ⟨1,who,wr,s,pos,dat⟩ (by dsimp only at hd ⊢;omega)
  have hf:=worldDo_fine (w:=w) (e:=⟨1,who,wr,s,pos,dat⟩)
  simp only [rWS,evL] at c2 c3
  cases hc:eqI (worldDo w ⟨1,who,wr,s,pos,dat⟩).2.2 0
  · generalize worldDo w ⟨1,who,wr,s,pos,dat⟩=z at *
    rw [ev_fn Tryz.f6 rfl Tryz.func6 rfl rfl rfl (Nat.le_of_ble_eq_true rfl)]
    rcases hm with rfl | rfl | rfl<;>simp [e0,c1,c2,c3,hc]
  · obtain ⟨P,ok,hdo⟩:=hf (eqI_iff.1 hc)
    have hc0:=eqI_iff.1 hc
    rw [hdo] at c2 c3 hc0
    have R:=doW_lock P rfl hc0
    have Px:=R.ok
    have hwho:=R.who
    have hlt:=R.lt
    have hsp:=R.sp
    have hmay:=R.may
    have hmay0:=R.may0
    have hoth:=R.others
    rw [hc0] at c2 c3
    dsimp only at hwho hlt hsp hmay hmay0 hoth
    clear R hf hdo hc hc0
    generalize (doW w ⟨1,who,wr,s,pos,dat⟩).1=x at *
    generalize who.toNat=i0 at *
    subst hwho
    have w3:whoOk (i0:Int)=true:=by simp [whoOk,ltI];omega
    have lkx:lockOk x.locks=true:=lockOk_iff.2 Px.lk
    have c4:=fun m m1 m2 m3 hm=>ev_impl_LockMay m m1 m2 m3 hm x.locks Px.locksB.1 Px.locksB.2 (i0:Int) wr s
    have c5:=fun m m1 m2 m3 hm=>ev_impl_LockMay m m1 m2 m3 hm x.locks Px.locksB.1 Px.locksB.2 (i0:Int) false s
    have e4:lockMay (x.locks.getD (Int.toNat (i0:Int)) noH) wr s=true:=hmay
    have e5:lockMay (x.locks.getD (Int.toNat (i0:Int)) noH) false s=true:=hmay0
    rw [e4,lkx,w3,hsp] at c4
    rw [e5,lkx,w3,hsp] at c5
    have c6:=fun m hm=>ev_impl_WorldOk m hm x Px.wc
    rw [worldOk_iff.2 Px] at c6
    have sp:=spOk_iff.1 hsp
    obtain ⟨s1,s2⟩:=s
    dsimp only at sp
    obtain ⟨lo,rfl⟩:∃ lo:Nat,s1=lo:=⟨s1.toNat,by omega⟩
    obtain ⟨hi,rfl⟩:∃ hi:Nat,s2=hi:=⟨s2.toNat,by omega⟩
    have hl:=lp_FnWorldLock0 x Px 1 wr lo hi (by omega) pos dat i0 (fun j hj hne q h1 h2=>hoth j hj hne q (inSp_iff.2 (by dsimp only;omega))) _ rfl 3 0 (by omega)
    push_cast at hl
    clear hoth hmay hmay0
    rw [ev_fn Tryz.f6 rfl Tryz.func6 rfl rfl rfl (Nat.le_of_ble_eq_true rfl)]
    rcases hm with rfl | rfl | rfl
    all_goals
      simp [e0,c1,c2,c3]
      rw [loopC_at ?_ hl]
      · simp [c4,c5,c6]
      · rfl
end Go.Ev


set_option maxRecDepth 100000
set_option maxHeartbeats 8000000
namespace Go.Ev
open Go.Proofs
theorem law_FnWorldTwo (code more:List UInt8):ev E 8 [.v .ro false [.sl (rowsOfBytes code)],.v .ro false [.sl (rowsOfBytes more)]]=some (rB true):=by
  cases e0:ltI 1048576 code.length
  case true =>
    rw [ev_fn Tryz.f8 rfl Tryz.func8 rfl rfl rfl (Nat.le_of_ble_eq_true rfl)]
    simp [e0]
  cases e9:ltI 1048576 more.length
  case true =>
    rw [ev_fn Tryz.f8 rfl Tryz.func8 rfl rfl rfl (Nat.le_of_ble_eq_true rfl)]
    simp [e0,e9]
  obtain ⟨m,w,e,hm,C,hd,c1⟩:=ev_DrawWorldDo code
  obtain ⟨k,who,wr,s,pos,dat⟩:=e
  have c2:=fun m me hm=>ev_impl_WorldDo m me hm w C ⟨3,who,wr,s,pos,dat⟩ (by dsimp only at hd ⊢;omega) (by simp)
  have c3:=fun m me hm=>ev_spec_WorldDo m me hm w C ⟨3,who,wr,s,pos,dat⟩ (by dsimp only at hd ⊢;omega)
  have hf:=worldDo_fine (w:=w) (e:=⟨3,who,wr,s,pos,dat⟩)
  simp only [rWS,evL] at c2 c3
  cases hc:eqI (worldDo w ⟨3,who,wr,s,pos,dat⟩).2.2 0
  · generalize worldDo w ⟨3,who,wr,s,pos,dat⟩=z at *
    rw [ev_fn Tryz.f8 rfl Tryz.func8 rfl rfl rfl (Nat.le_of_ble_eq_true rfl)]
    rcases hm with rfl | rfl | rfl<;>simp [e0,e9,c1,c2,c3,hc]
  · obtain ⟨P,ok,hdo⟩:=hf (eqI_iff.1 hc)
    have hc0:=eqI_iff.1 hc
    rw [hdo] at c2 c3 hc0
    rw [hc0] at c2 c3
    obtain ⟨hi,hlv,hp,R⟩:=doW_write P rfl hc0
    dsimp only at hi hp hd
    have hwl:=wrOk_len R.wr
    have hwho:0≤who:=by
      have:=(doW_who (w:=w) (e:=⟨3,who,wr,s,pos,dat⟩) (by simp) (by simp) (by simp) (by simp) hc0).1
      exact (form_who this).2.1
    obtain ⟨i0,rfl⟩:∃ i0:Nat,who=i0:=⟨who.toNat,by omega⟩
    simp only [Int.toNat_natCast] at hi
    have T:=fun (o:Int)=>two_reads (w:=w) (e:=⟨3,i0,wr,s,pos,dat⟩) (l:=⟨1,o,false,(pos,pos+dat.length),0,[]⟩) (r:=⟨2,o,false,(pos,pos+dat.length),0,[]⟩) P rfl hc0 rfl rfl rfl
    clear R hf hdo hc hc0
    generalize (doW w ⟨3,i0,wr,s,pos,dat⟩).1=x at *
    have Px:=(T 0).1
    have c4:=fun (o:Int) m me hm=>ev_impl_WorldDo m me hm x Px.wc ⟨1,o,false,(pos,pos+dat.length),0,[]⟩ (by simp) (by simp)
    have c5:=fun (o:Int) m me hm=>ev_impl_WorldDo m me hm _ (T o).2.1.wc ⟨2,o,false,(pos,pos+dat.length),0,[]⟩ (by simp) (by simp)
    simp only [Px.doIs] at c4
    have c5':=fun (o:Int) m me hm=>(c5 o m me hm).trans (by rw [(T o).2.1.doIs])
    simp only [rWS,evL] at c4 c5'
    clear c5
    have hw1:IntKind.i64.wrap (pos+dat.length)=pos+dat.length:=wrap64 (by simp only [Int.toNat_of_nonneg hp] at hwl;omega)
    obtain ⟨o,hoo⟩:∃ o:Int,(IntKind.i64.wrap (IntKind.i64.wrap ((i0:Int)+1)+(more.length:Int).tmod 2)).tmod 3=o:=⟨_,rfl⟩
    obtain ⟨_,_,T2⟩:=T o
    have c4:=c4 o
    have c6:=c5' o
    dsimp only at T2
    clear c5' T Px P C
    generalize doW x ⟨1,o,false,(pos,pos+dat.length),0,[]⟩=z1 at *
    generalize doW z1.1 ⟨2,o,false,(pos,pos+dat.length),0,[]⟩=z2 at *
    cases e5:eqI z1.2.2 0
    · rw [ev_fn Tryz.f8 rfl Tryz.func8 rfl rfl rfl (Nat.le_of_ble_eq_true rfl)]
      rcases hm with rfl | rfl | rfl<;>simp [e0,e9,c1,c2,c3,c4,c6,hw1,hoo,e5]
    cases e6:eqI z2.2.2 0
    · rw [ev_fn Tryz.f8 rfl Tryz.func8 rfl rfl rfl (Nat.le_of_ble_eq_true rfl)]
      rcases hm with rfl | rfl | rfl<;>simp [e0,e9,c1,c2,c3,c4,c6,hw1,hoo,e5,e6]
    have hs:=T2 (eqI_iff.1 e5) (eqI_iff.1 e6)
    rw [ev_fn Tryz.f8 rfl Tryz.func8 rfl rfl rfl (Nat.le_of_ble_eq_true rfl)]
    rcases hm with rfl | rfl | rfl<;>simp [e0,e9,c1,c2,c3,c4,c6,hw1,hoo,e5,e6,hs]
end Go.Ev

