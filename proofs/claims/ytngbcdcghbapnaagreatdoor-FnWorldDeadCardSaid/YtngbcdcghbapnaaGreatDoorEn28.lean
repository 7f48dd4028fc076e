/- My texts joined: EvT74, EvT75. No condition. -/
import Derived.Test.YtngbcdcghbapnaaGreatDoorEn1
import Derived.Test.YtngbcdcghbapnaaGreatDoorEn2
import Derived.Test.YtngbcdcghbapnaaGreatDoorEn5
import Derived.Test.YtngbcdcghbapnaaGreatDoorEn6
import Derived.Test.YtngbcdcghbapnaaGreatDoorEn7
import Derived.Test.YtngbcdcghbapnaaGreatDoorEn8
import Derived.Test.YtngbcdcghbapnaaGreatDoorEn9
import Derived.Test.YtngbcdcghbapnaaGreatDoorEn11
import Derived.Test.YtngbcdcghbapnaaGreatDoorEn12
import Derived.Test.YtngbcdcghbapnaaGreatDoorEn13
import Derived.Test.YtngbcdcghbapnaaGreatDoorEn14
import Derived.Test.YtngbcdcghbapnaaGreatDoorEn16
import Derived.Test.YtngbcdcghbapnaaGreatDoorEn17
import Derived.Test.YtngbcdcghbapnaaGreatDoorEn18
import Derived.Test.YtngbcdcghbapnaaGreatDoorEn19
import Derived.Test.YtngbcdcghbapnaaGreatDoorEn20
import Derived.Test.YtngbcdcghbapnaaGreatDoorEn21
import Derived.Test.YtngbcdcghbapnaaGreatDoorEn22
import Derived.Test.YtngbcdcghbapnaaGreatDoorEn24
import Derived.Test.YtngbcdcghbapnaaGreatDoorEn25
import Derived.Test.YtngbcdcghbapnaaGreatDoorEn26
import Derived.Test.YtngbcdcghbapnaaGreatDoorEn27
set_option linter.unusedVariables false
set_option linter.unusedSimpArgs false

set_option maxRecDepth 100000
set_option maxHeartbeats 8000000
namespace Go.Ev
open Go.Proofs
theorem who_ok {k:Nat} (h:k<3):whoOk (k:Int)=true:=by simp only [whoOk,Bool.and_eq_true,Bool.not_eq_true',ltI_not,ltI_iff];omega
theorem down_I {t:List HoldT} (P:LockP t) {k:Nat} (hk:k<3) {s:Sp} (hs:spOk s=true):downI t k s=rLk (lockDown t k s).1 (lockDown t k s).2:=by
 unfold downI
 rw [if_pos (lockOk_iff.2 P),who_ok hk,hs,Int.toNat_natCast];rfl
theorem drop_I {t:List HoldT} (P:LockP t) {k:Nat} (hk:k<3) {s:Sp} (hs:spOk s=true):dropI t k s=rLk (lockDrop t k s).1 (lockDrop t k s).2:=by
 unfold dropI
 rw [if_pos (lockOk_iff.2 P),who_ok hk,hs,Int.toNat_natCast];rfl
theorem backs_ok {w:WorldT} (hw:WorldP w) {k:Nat} (hk:k<3) (ha:w.live k=true) {s:Sp} (h:backsB w k s=true):WorldP (backsW w k s) :=
 (flushW_ok hw hk ha (by rw [flush_backs,if_pos h])).ok
theorem lp_locks2 (m1 m2:M) (who:Nat) (write:Bool) (s:Sp) (hs:spOk s=true) (ks:List Nat) (bs:List Int) (hbs:bs=ks.map (fun k:Nat=>(k:Int))) (hb:bs.length≤100) (a:Code) (ha:a=lp Tryz.f143 1):∀ (n i:Nat) (w:WorldT),i+n=bs.length→WorldP w→(∀ k∈ks.drop i,k<3∧w.live k=true) →
  loopC E (ev E) 143 a { V:=[(0,adp0),(1,.v m1 false [.int .i64 who]),(2,.v m2 false [.bool write]),(7,adc 7),(38,at1 38),(39,vi bs.length),(40,vi i)],H:=[bx (.p 0) (worldL w),bx (.c 7) (spL s),ow (.c 38) [.sl (intsL bs)]],ps:=[0] } =
   if (yieldsI write s (ks.drop i) w).2=true then some (.exit 2,{ V:=[(0,adp0),(1,.v m1 false [.int .i64 who]),(2,.v m2 false [.bool write]),(7,adc 7),(38,at1 38),(39,vi bs.length),(40,vi bs.length),(41,vb false)],H:=[bx (.p 0) (worldL (yieldsI write s (ks.drop i) w).1),bx (.c 7) (spL s),ow (.c 38) [.sl (intsL bs)]],ps:=[0] })
   else some (.ret,{ V:=[(8,vi 24)],H:=[bx (.p 0) (worldL (yieldsI write s (ks.drop i) w).1)],ps:=[0] })
 | 0,i,w,h,hw,hk=>by
  rw [loopC_of _ _ _ _ ha]
  obtain rfl:i=bs.length:=by omega
  have:ks.drop bs.length=[]:=List.drop_eq_nil_of_le (by rw [hbs];simp)
  rw [this]
  simp [lp,loopsOf,Tryz.f143,yieldsI]
 | n+1,i,w,h,hw,hk=>by
  have hlt:i<bs.length:=by omega
  have hl2:i<ks.length:=by rw [hbs] at hlt;simpa using hlt
  have hwr:=wrapN i (by omega)
  have hg:bs[i]=((ks[i]:Nat):Int):=by simp [hbs]
  rw [List.drop_eq_getElem_cons hl2] at hk ⊢
  obtain ⟨hk3,hka⟩:=hk ks[i] List.mem_cons_self
  have hks:∀ k∈ks.drop (i+1),k<3∧w.live k=true:=fun k hm=>hk k (List.mem_cons_of_mem _ hm)
  have ih:∀ x,(yieldI w ks[i] write s)=(x,true)→_:=fun x hx=>lp_locks2 m1 m2 who write s hs ks bs hbs hb a ha n (i+1) x (by omega)
   (yieldW_ok hw hk3 hka (by rw [yield_I,hx];rfl)).ok (fun k hm=>⟨(hks k hm).1,by
    have:=(yieldW_ok (write:=write) (s:=s) (x:=x) hw hk3 hka (by rw [yield_I,hx];rfl)).alive
    unfold WorldT.live
    rw [this]
    exact (hks k hm).2⟩)
  rw [loopC_of _ _ _ _ ha,yieldsI]
  clear ha
  have c1:=fun m1 m2=>ev_backs m1 m2 w hw ks[i] hk3 s hs
  clear hk hks
  generalize ks[i]=k at *
  unfold yieldI at ih ⊢
  cases e1:backsB w k s
  ·rw [e1] at c1
   simp [lp,loopsOf,Tryz.f143,hlt,hg,c1]
  ·have X:=backs_ok hw hk3 hka e1
   rw [e1] at c1 ih
   simp only [if_true] at ih ⊢
   generalize backsW w k s=x at *
   obtain ⟨hl,ho⟩:=X.own_get hk3
   have LP:=X.lk
   have hll:x.locks.length≤4000000:=by have:=LP.len;omega
   cases write
   ·have c2:=fun m m1 m2 hm=>ev_impl_LockDown m m1 m2 hm x.locks hll LP.bd k s
    rw [down_I LP hk3 hs] at c2
    simp only [rLk,Bool.false_eq_true,if_false] at c2 ih ⊢
    generalize lockDown x.locks k s=z at *
    obtain ⟨t',b⟩:=z
    cases b
    ·simp [lp,loopsOf,Tryz.f143,hlt,hg,c1,c2]
    ·have ih:=ih _ rfl
     push_cast at ih
     simp [lp,loopsOf,Tryz.f143,hlt,hg,c1,c2,hwr]
     simpa [hwr] using ih
   ·have c2:=fun m m1 m2 hm=>ev_impl_LockDrop m m1 m2 hm x.locks hll LP.bd k s
    have c3:=fun m m' hm=>ev_iDrop m m' hm (x.own k) (X.own k hk3) s
    rw [drop_I LP hk3 hs] at c2
    simp only [rLk,if_true] at c2 ih ⊢
    rw [← ho] at c3 ih ⊢
    generalize lockDrop x.locks k s=z at *
    generalize dropT x.owns[k] s=y at *
    obtain ⟨t',b⟩:=z
    obtain ⟨o',b'⟩:=y
    cases b
    ·simp [lp,loopsOf,Tryz.f143,hlt,hg,c1,c2]
    ·dsimp only at c3 ih ⊢
     simp only [if_true] at ih ⊢
     cases b'
     ·simp [lp,loopsOf,Tryz.f143,hlt,hg,hl,c1,c2,c3,hwr,List.map_set]
     ·have ih:=ih _ rfl
      push_cast at ih
      have he:(List.map ownL x.owns).set k [.str o'.t,.sl (o'.h.map spL),.sl (o'.d.map spL)]=List.map ownL (x.owns.set k o'):=by rw [List.map_set]
      simp [lp,loopsOf,Tryz.f143,hlt,hg,hl,c1,c2,c3,hwr]
      rw [he]
      exact ih
def locksI (w:WorldT) (i:Nat) (write:Bool) (s:Sp):WorldT × Int :=
 if ((lockBars w.locks i write s).any fun k=>!w.live k)=true then (w,22)
 else if (yieldsI write s (lockBars w.locks i write s) w).2=true then
  ({ (yieldsI write s (lockBars w.locks i write s) w).1 with locks:=(lockGive (yieldsI write s (lockBars w.locks i write s) w).1.locks i write s).1 },if (lockGive (yieldsI write s (lockBars w.locks i write s) w).1.locks i write s).2=true then 0 else 24)
 else ((yieldsI write s (lockBars w.locks i write s) w).1,24)
theorem locks_I (w:WorldT) (i:Nat) (write:Bool) (s:Sp):(locksI w i write s).2=(lockW w i write s).2∧((lockW w i write s).2=0→(locksI w i write s).1=(lockW w i write s).1):=by
 unfold locksI lockW
 rw [yields_I]
 cases (lockBars w.locks i write s).any fun k=>!w.live k
 ·simp only [Bool.false_eq_true,if_false]
  cases (yieldsI write s (lockBars w.locks i write s) w).2
  ·exact ⟨rfl,fun h=>by simp at h⟩
  ·simp only [if_true]
   cases (lockGive (yieldsI write s (lockBars w.locks i write s) w).1.locks i write s).2
   ·exact ⟨rfl,fun h=>by simp at h⟩
   ·exact ⟨rfl,fun _=>rfl⟩
 ·exact ⟨rfl,fun _=>rfl⟩
theorem ev_locks (m1 m2 m3:M) (w:WorldT) (hw:WorldP w) (i:Nat) (hi:i<3) (write:Bool) (s:Sp) (hs:spOk s=true) :
  ev E 143 [.ptr .own (worldL w),.v m1 false [.int .i64 i],.v m2 false [.bool write],.v m3 true (spL s)]=some { rs:=[.v .own false [.int .i64 (locksI w i write s).2]],outs:=[(.own,worldL (locksI w i write s).1)] }:=by
 have LP:=hw.lk
 have hll:w.locks.length≤4000000:=by have:=LP.len;omega
 have c0:=fun m m1 m2 m3 hm=>ev_impl_LockBars m m1 m2 m3 hm w.locks hll LP.bd i write s
 have hbi:barsI w.locks i write s=(lockBars w.locks i write s).map (fun k:Nat=>(k:Int)):=by
  unfold barsI barsL
  rw [lockOk_iff.2 LP,who_ok hi,hs,Int.toNat_natCast];rfl
 rw [hbi] at c0
 have hk3:∀ k∈lockBars w.locks i write s,k<3:=fun k hk=>(bars_mem.1 hk).1
 have hbl:((lockBars w.locks i write s).map (fun k:Nat=>(k:Int))).length≤100:=by
  unfold lockBars
  rw [List.length_map]
  have:=List.length_filter_le (barsAt w.locks i write s) (List.range 3)
  simp at this;omega
 have hnd:=bars_nodup w.locks i write s
 unfold locksI
 generalize lockBars w.locks i write s=ks at *
 generalize hbs:ks.map (fun k:Nat=>(k:Int))=bs at *
 have l0:=lp_locks0 m1 m2 w hw.alive i write s ks hk3 bs hbs.symm _ rfl bs.length 0 (by omega) hbl
 push_cast at l0
 simp only [List.drop_zero] at l0
 cases e1:ks.any fun k=>!w.live k
 ·have hall:∀ k∈ks,k<3∧w.live k=true:=fun k hk=>⟨hk3 k hk,by
   simp only [List.any_eq_false,Bool.not_eq_true',Bool.not_eq_false] at e1
   exact e1 k hk⟩
  have l1:=lp_locks2 m1 m2 i write s hs ks bs hbs.symm hbl _ rfl bs.length 0 w (by omega) hw (by simpa using hall)
  push_cast at l1
  simp only [List.drop_zero] at l1
  rw [e1] at l0
  simp only [Bool.false_eq_true,if_false] at l0 ⊢
  have hY:(yieldsI write s ks w).2=true→LockP (yieldsI write s ks w).1.locks:=fun h =>
   (yieldsW_ok ks hw hall hnd (by rw [yields_I,if_pos h])).ok.lk
  generalize yieldsI write s ks w=y at *
  obtain ⟨x,b⟩:=y
  cases b
  ·simp only [Bool.false_eq_true,if_false] at l1 ⊢
   rw [ev_fn Tryz.f143 rfl Tryz.func143 rfl rfl rfl (Nat.le_of_ble_eq_true rfl)]
   simp [c0]
   rw [loopC_at ?_ l0]
   ·simp
    rw [loopC_at ?_ l1]
    ·simp
    ·rfl
   ·rfl
  ·simp only [if_true] at l1 ⊢
   have LX:=hY rfl
   have hlx:x.locks.length≤4000000:=by have:=LX.len;dsimp only at this;omega
   have c4:=fun m m1 m2 m3 hm=>ev_impl_LockGive m m1 m2 m3 hm x.locks hlx LX.bd i write s
   rw [give_I LX hi write hs] at c4
   simp only [rLk] at c4
   generalize lockGive x.locks i write s=g at *
   obtain ⟨t',b'⟩:=g
   rw [ev_fn Tryz.f143 rfl Tryz.func143 rfl rfl rfl (Nat.le_of_ble_eq_true rfl)]
   simp [c0]
   rw [loopC_at ?_ l0]
   ·simp
    rw [loopC_at ?_ l1]
    ·cases b'<;>simp [c4]
    ·rfl
   ·rfl
 ·rw [e1] at l0
  simp only [if_true] at l0 ⊢
  rw [ev_fn Tryz.f143 rfl Tryz.func143 rfl rfl rfl (Nat.le_of_ble_eq_true rfl)]
  simp [c0]
  rw [loopC_at ?_ l0]
  ·simp
  ·rfl
set_option maxRecDepth 100000
set_option maxHeartbeats 8000000
structure WorldC (w:WorldT):Prop extends WorldB w where
 stC:StoreC w.st
 ownT:∀ o∈w.owns,o.t.length≤4000000
 keptT:∀ q∈w.kept,q.data.length≤4000000
 lateT:∀ q∈w.late,q.data.length≤4000000
theorem ev_noOwn:ev E 84 []=some { rs:=[.v .own true (ownL noO)],outs:=[] }:=by
 have c:=fun m m'=>ev_Repeat m m' 48 (by omega)
 push_cast at c
 rw [ev_fn Tryz.f84 rfl Tryz.func84 rfl rfl rfl (Nat.le_of_ble_eq_true rfl)]
 simp [c,noO,-List.reduceReplicate]
 rfl
theorem storeAll_code:∀ (qs:List ReqT) (s:StoreT) (i:Nat) (h:i<(storeAll s qs).2.length) (h2:i<qs.length),(storeAll s qs).2[i]=0→ReqP qs[i]
 | [],s,i,h,h2,_=>by simp at h2
 | q::qs,s,0,h,h2,e=>by
  simp only [storeAll,List.getElem_cons_zero] at e ⊢
  exact (storeDo_fine e).1
 | q::qs,s,i+1,h,h2,e=>by
  simp only [storeAll,List.getElem_cons_succ] at e ⊢
  exact storeAll_code qs _ i _ (by simpa using h2) e
theorem lp_iWok0 (m:M) (hm:m.isOwn=false) (w:WorldT) (C:WorldC w) (h1:w.owns.length=3) (h2:w.epochs.length=3) (h3:w.alive.length=3) (h4:w.st.floors.length=3) (a:Code) (ha:a=lp Tryz.f32 0):∀ (n i:Nat),i+n=3 →
  loopC E (ev E) 32 a { V:=[(1,adc 1),(60,.v m false [.sl (w.owns.map ownL)]),(61,vi 3),(62,vi i)],H:=[bxm (.c 1) m (worldL w)],ps:=[] } =
   if allTo (ownAt w) n i=true then some (.exit 0,{ V:=[(1,adc 1),(60,.v m false [.sl (w.owns.map ownL)]),(61,vi 3),(62,vi 3),(63,vb false)],H:=[bxm (.c 1) m (worldL w)],ps:=[] })
   else some (.ret,{ V:=[(2,vb false)],H:=[],ps:=[] })
 | 0,i,h=>by
  rw [loopC_of _ _ _ _ ha]
  obtain rfl:i=3:=by omega
  simp [lp,loopsOf,Tryz.f32,allTo,hm]
 | n+1,i,h=>by
  have hI:(i:Int)<3:=by omega
  have a1:i<w.owns.length:=by omega
  have a2:i<w.epochs.length:=by omega
  have a3:i<w.alive.length:=by omega
  have a4:i<w.st.floors.length:=by omega
  have ih:=lp_iWok0 m hm w C h1 h2 h3 h4 a ha n (i+1) (by omega)
  push_cast at ih
  have hw:=wrapN i (by omega)
  have B:=C.owned _ (List.getElem_mem a1)
  have c1:∀ m,m.isOwn=false→ev E 83 [.v m true (ownL w.owns[i])]=some (rB w.owns[i].ok):=fun m hm=>ev_impl_OwnOk m hm _ _ _ (by have:=C.ownT _ (List.getElem_mem a1);omega) (by have:=B.1;omega) (by have:=B.2;omega)
  have c2:=ev_noOwn
  have c3:=fun m m' hm hm'=>ev_impl_OwnSame2 m m' hm hm' w.owns[i] noO ⟨by decide,by decide⟩
  have hg:ownAt w i=(w.owns[i].ok&&(!ltI w.epochs[i] w.st.floors[i]&&(!ltI 100 w.epochs[i]&&(w.alive[i] || sameOwn w.owns[i] noO)))):=by
   unfold ownAt WorldT.own WorldT.ep WorldT.live
   rw [getD_lt _ a1,getD_lt _ a2,getD_lt _ a3,getD_lt _ a4]
  rw [loopC_of _ _ _ _ ha,allTo,hg]
  clear ha hg
  generalize allTo (ownAt w) n (i+1)=r at ih ⊢
  cases e1:w.owns[i].ok
  ·simp [lp,loopsOf,Tryz.f32,hI,a1,hw,hm,c1,e1]
  ·cases e2:ltI w.epochs[i] w.st.floors[i]
   ·cases e3:ltI 100 w.epochs[i]
    ·cases e4:w.alive[i]
     ·cases e5:sameOwn w.owns[i] noO<;>simp [lp,loopsOf,Tryz.f32,hI,a1,a2,a3,a4,hw,hm,c1,c2,c3,e1,e2,e3,e4,e5,ih]
     ·simp [lp,loopsOf,Tryz.f32,hI,a1,a2,a3,a4,hw,hm,c1,e1,e2,e3,e4,ih]
    ·simp [lp,loopsOf,Tryz.f32,hI,a1,a2,a3,a4,hw,hm,c1,e1,e2,e3]
   ·simp [lp,loopsOf,Tryz.f32,hI,a1,a2,a3,a4,hw,hm,c1,e1,e2]
theorem lp_iWok1 (m:M) (hm:m.isOwn=false) (w:WorldT) (x:StoreT) (cs:List Int) (hc:cs.length=w.kept.length) (hb:w.kept.length≤4000000) (h2:w.epochs.length=3) (hr:∀ (i:Nat) (h:i<cs.length) (h2:i<w.kept.length),cs[i]=0→ReqP w.kept[i]) (a:Code) (ha:a=lp Tryz.f32 1):∀ (n i:Nat),i+n=w.kept.length →
  loopC E (ev E) 32 a { V:=[(1,adc 1),(5,adc 5),(6,at1 6),(117,.v m false [.sl (w.kept.map reqL)]),(118,vi w.kept.length),(119,vi i)],H:=[bxm (.c 1) m (worldL w),bx (.c 5) (storeL x),ow (.c 6) [.sl (intsL cs)]],ps:=[] } =
   if keptF w (w.kept.drop i) (cs.drop i)=true then some (.exit 2,{ V:=[(1,adc 1),(5,adc 5),(6,at1 6),(117,.v m false [.sl (w.kept.map reqL)]),(118,vi w.kept.length),(119,vi w.kept.length),(120,vb false)],H:=[bxm (.c 1) m (worldL w),bx (.c 5) (storeL x),ow (.c 6) [.sl (intsL cs)]],ps:=[] })
   else some (.ret,{ V:=[(2,vb false)],H:=[],ps:=[] })
 | 0,i,h=>by
  rw [loopC_of _ _ _ _ ha]
  obtain rfl:i=w.kept.length:=by omega
  simp [lp,loopsOf,Tryz.f32,keptF,hm]
 | n+1,i,h=>by
  have hlt:i<w.kept.length:=by omega
  have hlc:i<cs.length:=by omega
  have ih:=lp_iWok1 m hm w x cs hc hb h2 hr a ha n (i+1) (by omega)
  push_cast at ih
  have hw:=wrapN i (by omega)
  rw [loopC_of _ _ _ _ ha,List.drop_eq_getElem_cons hlt,List.drop_eq_getElem_cons hlc,keptF]
  clear ha
  have hrp:=hr i hlc hlt
  generalize keptF w (w.kept.drop (i+1)) (cs.drop (i+1))=r at ih ⊢
  cases e1:eqI cs[i] 0
  ·simp [lp,loopsOf,Tryz.f32,hlt,hlc,hw,hm,e1]
  ·have hq:=(hrp (eqI_iff.1 e1)).who
   obtain ⟨k,hk⟩:∃ k:Nat,w.kept[i].who=k:=⟨w.kept[i].who.toNat,by omega⟩
   have hk3:k<w.epochs.length:=by omega
   have hep:w.ep k=w.epochs[k]:=getD_lt _ hk3
   rw [hk,Int.toNat_natCast,hep]
   cases e2:eqI w.kept[i].epoch w.epochs[k]<;>simp [lp,loopsOf,Tryz.f32,hlt,hlc,hw,hm,hk,hk3,e1,e2,ih]
theorem lp_iWok2 (m:M) (hm:m.isOwn=false) (w:WorldT) (hb:w.late.length≤8) (hd:∀ q∈w.late,q.data.length≤4000000) (h4:w.st.floors.length=3) (a:Code) (ha:a=lp Tryz.f32 2):∀ (n i:Nat),i+n=w.late.length →
  loopC E (ev E) 32 a { V:=[(1,adc 1),(147,.v m false [.sl (w.late.map reqL)]),(148,vi w.late.length),(149,vi i)],H:=[bxm (.c 1) m (worldL w)],ps:=[] } =
   if (w.late.drop i).all (lateAt w)=true then some (.exit 4,{ V:=[(1,adc 1),(147,.v m false [.sl (w.late.map reqL)]),(148,vi w.late.length),(149,vi w.late.length),(150,vb false)],H:=[bxm (.c 1) m (worldL w)],ps:=[] })
   else some (.ret,{ V:=[(2,vb false)],H:=[],ps:=[] })
 | 0,i,h=>by
  rw [loopC_of _ _ _ _ ha]
  obtain rfl:i=w.late.length:=by omega
  simp [lp,loopsOf,Tryz.f32,hm]
 | n+1,i,h=>by
  have hlt:i<w.late.length:=by omega
  have ih:=lp_iWok2 m hm w hb hd h4 a ha n (i+1) (by omega)
  push_cast at ih
  have hw:=wrapN i (by omega)
  have c1:=fun m=>ev_formed m w.late[i] (hd _ (List.getElem_mem hlt))
  rw [loopC_of _ _ _ _ ha,List.drop_eq_getElem_cons hlt,List.all_cons,lateAt]
  clear ha
  generalize (w.late.drop (i+1)).all (lateAt w)=r at ih ⊢
  cases e1:reqOk w.late[i]
  ·simp [lp,loopsOf,Tryz.f32,hlt,hw,hm,c1,e1]
  ·have hq:=(reqOk_iff.1 e1).who
   obtain ⟨k,hk⟩:∃ k:Nat,w.late[i].who=k:=⟨w.late[i].who.toNat,by omega⟩
   have hk3:k<w.st.floors.length:=by omega
   rw [hk,Int.toNat_natCast,getD_lt _ hk3]
   simp only [reqL,hk] at c1
   cases e2:ltI w.late[i].epoch w.st.floors[k]<;>simp [lp,loopsOf,Tryz.f32,hlt,hw,hm,hk,hk3,c1,e1,e2,ih]
end Go.Ev

