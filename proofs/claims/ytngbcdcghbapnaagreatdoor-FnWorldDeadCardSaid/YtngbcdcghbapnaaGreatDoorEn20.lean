/- My texts joined: EvW10, EvT60, EvT59, EvT61. No condition. -/
import Derived.Test.YtngbcdcghbapnaaGreatDoorEn1
import Derived.Test.YtngbcdcghbapnaaGreatDoorEn2
import Derived.Test.YtngbcdcghbapnaaGreatDoorEn5
import Derived.Test.YtngbcdcghbapnaaGreatDoorEn6
import Derived.Test.YtngbcdcghbapnaaGreatDoorEn7
import Derived.Test.YtngbcdcghbapnaaGreatDoorEn8
import Derived.Test.YtngbcdcghbapnaaGreatDoorEn9
import Derived.Test.YtngbcdcghbapnaaGreatDoorEn10
import Derived.Test.YtngbcdcghbapnaaGreatDoorEn11
import Derived.Test.YtngbcdcghbapnaaGreatDoorEn12
import Derived.Test.YtngbcdcghbapnaaGreatDoorEn13
import Derived.Test.YtngbcdcghbapnaaGreatDoorEn14
import Derived.Test.YtngbcdcghbapnaaGreatDoorEn16
import Derived.Test.YtngbcdcghbapnaaGreatDoorEn17
import Derived.Test.YtngbcdcghbapnaaGreatDoorEn18
import Derived.Test.YtngbcdcghbapnaaGreatDoorEn19
set_option linter.unusedVariables false
set_option linter.unusedSimpArgs false

namespace Go.Ev
theorem whole_ok:spOk whole=true:=by decide
theorem inSp_whole {j:Nat} (h:j<48):inSp j whole=true:=inSp_iff.2 (by simp only [whole];omega)
structure EvictR (w:WorldT) (k:Nat) (x:WorldT):Prop where
 ok:WorldP x
 lock:∀ q,q<3→x.lock q=if k=q then noH else w.lock q
 live:∀ q,q<3→x.live q=if k=q then true else w.live q
theorem evict_R {w:WorldT} (hw:WorldP w) {k:Nat} (hk:k<3) (h:(evictW w k).2=0):EvictR w k (evictW w k).1:=by
 obtain ⟨h1,h2,_⟩:=evict_fine h
 refine ⟨evictW_ok hw hk,fun q hq=>?_,fun q hq=>?_⟩
 ·show ((evictW w k).1.locks).getD q noH=_
  rw [h1,lock_set _ _ _ _ hw.lk.len hq];rfl
 ·show ((evictW w k).1.alive).getD q false=_
  rw [h2,getD_set,hw.alive]
  by_cases e:k=q
  ·rw [if_pos ⟨e,hq⟩,if_pos e]
  ·rw [if_neg (fun r=>e r.1),if_neg e];rfl
def evictsW (dead:Nat→Bool):List Nat→WorldT→WorldT × Bool
 | [],w=>(w,true)
 | k::ks,w=>if dead k=true then (if (evictW w k).2=0 then evictsW dead ks (evictW w k).1 else (w,false)) else evictsW dead ks w
theorem evicts_R {dead:Nat→Bool}:∀ (ks:List Nat) {w:WorldT},WorldP w→(∀ k∈ks,k<3)→(evictsW dead ks w).2=true →
  WorldP (evictsW dead ks w).1∧∀ q,q<3→(q∈ks→dead q=true→(evictsW dead ks w).1.lock q=noH∧(evictsW dead ks w).1.live q=true) ∧
   ((q ∉ ks∨dead q=false)→(evictsW dead ks w).1.lock q=w.lock q∧(evictsW dead ks w).1.live q=w.live q)∧(w.lock q=noH→w.live q=true→(evictsW dead ks w).1.lock q=noH∧(evictsW dead ks w).1.live q=true)
 | [],w,hw,_,_=>⟨hw,fun q hq=>⟨fun h=>by simp at h,fun _=>⟨rfl,rfl⟩,fun h1 h2=>⟨h1,h2⟩⟩⟩
 | k::ks,w,hw,hk,h=>by
  rw [evictsW] at h ⊢
  by_cases hd:dead k=true
  ·rw [if_pos hd] at h ⊢
   by_cases hc:(evictW w k).2=0
   ·rw [if_pos hc] at h ⊢
    have E:=evict_R hw (hk k (by simp)) hc
    obtain ⟨g1,g2⟩:=evicts_R ks E.ok (fun q hq=>hk q (by simp [hq])) h
    refine ⟨g1,fun q hq=>?_⟩
    obtain ⟨a1,a2,a3⟩:=g2 q hq
    have el:=E.lock q hq
    have ev:=E.live q hq
    refine ⟨fun hm hdq=>?_,fun hn=>?_,fun h1 h2=>?_⟩
    ·by_cases e:k=q
     ·rw [if_pos e] at el ev
      exact a3 el ev
     ·rcases List.mem_cons.1 hm with r | r
      ·exact absurd r.symm e
      ·exact a1 r hdq
    ·have hne:k≠q:=fun e=>by
      subst e
      rcases hn with r | r
      ·simp at r
      ·rw [hd] at r;cases r
     rw [if_neg hne] at el ev
     have:=a2 (hn.imp (fun r=>by simp only [List.mem_cons,not_or] at r;exact r.2) id)
     rw [el,ev] at this
     exact this
    ·refine a3 ?_ ?_
     ·rw [el];split
      ·rfl
      ·exact h1
     ·rw [ev];split
      ·rfl
      ·exact h2
   ·rw [if_neg hc] at h;cases h
  ·rw [if_neg hd] at h ⊢
   obtain ⟨g1,g2⟩:=evicts_R ks hw (fun q hq=>hk q (by simp [hq])) h
   refine ⟨g1,fun q hq=>?_⟩
   obtain ⟨a1,a2,a3⟩:=g2 q hq
   refine ⟨fun hm hdq=>?_,fun hn=>?_,a3⟩
   ·rcases List.mem_cons.1 hm with r | r
    ·subst r;exact absurd hdq hd
    ·exact a1 r hdq
   ·by_cases e:k=q
    ·subst e
     exact a2 (.inr (by simpa using hd))
    ·exact a2 (hn.imp (fun r=>by simp only [List.mem_cons,not_or] at r;exact r.2) id)
theorem held_again {w:WorldT} {i:Nat} {write:Bool} {s:Sp} (hw:WorldP w) (h:(evictsW (fun k=>!w.live k) (lockBars w.locks i write s) w).2=true) :
  (lockW (evictsW (fun k=>!w.live k) (lockBars w.locks i write s) w).1 i write s).2≠22:=by
 obtain ⟨g1,g2⟩:=evicts_R (dead:=fun k=>!w.live k) _ hw (fun k hk=>(bars_mem.1 hk).1) h
 generalize (evictsW (fun k=>!w.live k) (lockBars w.locks i write s) w).1=y at *
 have hno:((lockBars y.locks i write s).any fun k=>!y.live k)=false:=by
  rw [← Bool.not_eq_true,List.any_eq_true]
  rintro ⟨k,hk,hd⟩
  obtain ⟨hk3,hb⟩:=bars_mem.1 hk
  rw [Bool.not_eq_true'] at hd
  obtain ⟨a1,a2,_⟩:=g2 k hk3
  by_cases hm:k∈lockBars w.locks i write s
  ·by_cases hl:w.live k=true
   ·have:=(a2 (.inr (by simp [hl]))).2
    rw [hd,hl] at this;cases this
   ·have:=(a1 hm (by simp only [Bool.not_eq_true',← Bool.not_eq_true];exact hl)).2
    rw [hd] at this;cases this
  ·have e:=(a2 (.inl hm)).1
   refine hm (bars_mem.2 ⟨hk3,?_⟩)
   unfold barsAt at hb ⊢
   have e':y.locks.getD k noH=w.locks.getD k noH:=e
   rw [e'] at hb
   exact hb
 unfold lockW
 rw [hno,if_neg (by simp)]
 split
 ·simp
 ·split<;>simp
theorem cut_whole {d:List Sp} (hd:spsOk d=true):cutS d whole=[]:=by
 refine can_eq (of_can _).1 (spsOk_can (by decide)) fun j hj=>?_
 rw [cutS_get d whole j hj,inSp_whole hj]
 rfl
end Go.Ev


set_option maxRecDepth 100000
set_option maxHeartbeats 4000000
namespace Go.Ev
open Go.Proofs
structure StoreC (s:StoreT):Prop extends StoreB s where
 nowT:∀ x∈s.now,x.length≤4000000
 sureT:∀ x∈s.sure,x.length≤4000000
theorem StoreP.bd {s:StoreT} (h:StoreP s):StoreC s :=
 ⟨⟨by have:=h.now;omega,by have:=h.sure;omega,by have:=h.last;omega,by have:=h.slast;omega,by have:=h.floors;omega⟩,fun x hx=>by have:=txtOk_len (h.nowT x hx);omega,fun x hx=>by have:=txtOk_len (h.sureT x hx);omega⟩
def txtsAt (s:StoreT) (i:Nat):Bool:=txtOk (s.now.getD i [])&&txtOk (s.sure.getD i [])
theorem all3 {α:Type} (p:α→Bool) (d:α) {xs:List α} (h:xs.length=3):xs.all p=allTo (fun i=>p (xs.getD i d)) 3 0:=by
 rw [list3 d h]
 simp [allTo]
theorem storeOk_I (s:StoreT):storeOk s=(eqI s.now.length 3&&(eqI s.sure.length 3&&(eqI s.last.length 3&&(eqI s.slast.length 3&&(eqI s.floors.length 3&&(allTo (txtsAt s) 3 0&&allTo (numsOk s) 3 0)))))):=by
 by_cases h1:s.now.length=3
 ·by_cases h2:s.sure.length=3
  ·have e:allTo (txtsAt s) 3 0=(s.now.all txtOk&&s.sure.all txtOk):=by
    rw [all3 txtOk [] h1,all3 txtOk [] h2]
    rw [Bool.eq_iff_iff]
    simp only [Bool.and_eq_true,allTo_iff,txtsAt]
    exact ⟨fun h=>⟨fun j a b=>(h j a b).1,fun j a b=>(h j a b).2⟩,fun h j a b=>⟨h.1 j a b,h.2 j a b⟩⟩
   have e1:eqI s.now.length 3=true:=eqI3.2 h1
   have e2:eqI s.sure.length 3=true:=eqI3.2 h2
   rw [e,storeOk,textsOk,textsOk,e1,e2]
   generalize s.now.all txtOk=a1
   generalize s.sure.all txtOk=a2
   generalize allTo (numsOk s) 3 0=a3
   generalize eqI s.last.length 3=a4
   generalize eqI s.slast.length 3=a5
   generalize eqI s.floors.length 3=a6
   revert a1 a2 a3 a4 a5 a6
   decide
  ·have e2:eqI s.sure.length 3=false:=by rw [← Bool.not_eq_true,eqI3];exact h2
   simp [storeOk,textsOk,e2]
 ·have e2:eqI s.now.length 3=false:=by rw [← Bool.not_eq_true,eqI3];exact h1
  simp [storeOk,textsOk,e2]
theorem getD_lt {α:Type} {xs:List α} {i:Nat} (d:α) (h:i<xs.length):xs.getD i d=xs[i]:=by
 rw [List.getD_eq_getElem?_getD,List.getElem?_eq_getElem h];rfl
theorem lp_iStoreOk0 (m:M) (hm:m.isOwn=false) (s:StoreT) (b:StoreC s) (h1:s.now.length=3) (h2:s.sure.length=3) (a:Code) (ha:a=lp Tryz.f75 0):∀ (n i:Nat),i+n=3 →
  loopC E (ev E) 75 a { V:=[(1,adc 1),(33,vi i)],H:=[bxm (.c 1) m (storeL s)],ps:=[] } =
   if allTo (txtsAt s) n i=true then some (.exit 0,{ V:=[(1,adc 1),(33,vi 3),(34,vb false)],H:=[bxm (.c 1) m (storeL s)],ps:=[] })
   else some (.ret,{ V:=[(2,vb false)],H:=[],ps:=[] })
 | 0,i,h=>by
  rw [loopC_of _ _ _ _ ha]
  obtain rfl:i=3:=by omega
  simp [lp,loopsOf,Tryz.f75,allTo,hm]
 | n+1,i,h=>by
  have hI:(i:Int)<3:=by omega
  have hn:i<s.now.length:=by omega
  have hs:i<s.sure.length:=by omega
  have ih:=lp_iStoreOk0 m hm s b h1 h2 a ha n (i+1) (by omega)
  push_cast at ih
  have hw:=wrapN i (by omega)
  have c1:∀ m,ev E 98 [.v m false [.str s.now[i]]]=some (rB (txtOk s.now[i])):=fun m=>ev_impl_TextOk m _ (by have:=b.nowT _ (List.getElem_mem hn);omega)
  have c2:∀ m,ev E 98 [.v m false [.str s.sure[i]]]=some (rB (txtOk s.sure[i])):=fun m=>ev_impl_TextOk m _ (by have:=b.sureT _ (List.getElem_mem hs);omega)
  rw [loopC_of _ _ _ _ ha,allTo]
  have hg:txtsAt s i=(txtOk s.now[i]&&txtOk s.sure[i]):=by rw [txtsAt,getD_lt _ hn,getD_lt _ hs]
  rw [hg]
  clear ha hg
  generalize allTo (txtsAt s) n (i+1)=r at ih ⊢
  cases e1:txtOk s.now[i]
  ·simp [lp,loopsOf,Tryz.f75,hI,hn,hs,hw,hm,c1,c2,e1]
  ·cases e2:txtOk s.sure[i]<;>simp [lp,loopsOf,Tryz.f75,hI,hn,hs,hw,hm,c1,c2,e1,e2,ih]
theorem lp_iStoreOk1 (m:M) (hm:m.isOwn=false) (s:StoreT) (h1:s.last.length=3) (h2:s.slast.length=3) (h3:s.floors.length=3) (a:Code) (ha:a=lp Tryz.f75 1):∀ (n i:Nat),i+n=3 →
  loopC E (ev E) 75 a { V:=[(1,adc 1),(53,vi i)],H:=[bxm (.c 1) m (storeL s)],ps:=[] } =
   if allTo (numsOk s) n i=true then some (.exit 2,{ V:=[(1,adc 1),(53,vi 3),(54,vb false)],H:=[bxm (.c 1) m (storeL s)],ps:=[] })
   else some (.ret,{ V:=[(2,vb false)],H:=[],ps:=[] })
 | 0,i,h=>by
  rw [loopC_of _ _ _ _ ha]
  obtain rfl:i=3:=by omega
  simp [lp,loopsOf,Tryz.f75,allTo,hm]
 | n+1,i,h=>by
  have hI:(i:Int)<3:=by omega
  have hl:i<s.last.length:=by omega
  have hs:i<s.slast.length:=by omega
  have hf:i<s.floors.length:=by omega
  have ih:=lp_iStoreOk1 m hm s h1 h2 h3 a ha n (i+1) (by omega)
  push_cast at ih
  have hw:=wrapN i (by omega)
  rw [loopC_of _ _ _ _ ha,allTo]
  rw [numsOk,getD_lt _ hl,getD_lt _ hs,getD_lt _ hf]
  clear ha
  generalize allTo (numsOk s) n (i+1)=r at ih ⊢
  cases e1:ltI s.slast[i] 0
  ·cases e2:ltI s.last[i] s.slast[i]
   ·cases e3:ltI 1000 s.last[i]
    ·cases e4:ltI s.floors[i] 0
     ·cases e5:ltI 100 s.floors[i]<;>simp [lp,loopsOf,Tryz.f75,hI,hl,hs,hf,hw,hm,e1,e2,e3,e4,e5,ih]
     ·simp [lp,loopsOf,Tryz.f75,hI,hl,hs,hf,hw,hm,e1,e2,e3,e4]
    ·simp [lp,loopsOf,Tryz.f75,hI,hl,hs,hf,hw,hm,e1,e2,e3]
   ·simp [lp,loopsOf,Tryz.f75,hI,hl,hs,hf,hw,hm,e1,e2]
  ·simp [lp,loopsOf,Tryz.f75,hI,hl,hs,hf,hw,hm,e1]
theorem ev_impl_StoreOk (m:M) (hm:m.isOwn=false) (s:StoreT) (b:StoreC s):ev E 75 [.v m true (storeL s)]=some (rB (storeOk s)):=by
 rw [storeOk_I]
 rw [ev_fn Tryz.f75 rfl Tryz.func75 rfl rfl rfl (Nat.le_of_ble_eq_true rfl)]
 cases e1:eqI s.now.length 3
 ·simp [e1,hm]
 ·cases e2:eqI s.sure.length 3
  ·simp [e1,e2,hm]
  ·cases e3:eqI s.last.length 3
   ·simp [e1,e2,e3,hm]
   ·cases e4:eqI s.slast.length 3
    ·simp [e1,e2,e3,e4,hm]
    ·cases e5:eqI s.floors.length 3
     ·simp [e1,e2,e3,e4,e5,hm]
     ·have l0:=lp_iStoreOk0 m hm s b (eqI3.1 e1) (eqI3.1 e2) _ rfl 3 0 (by omega)
      have l1:=lp_iStoreOk1 m hm s (eqI3.1 e3) (eqI3.1 e4) (eqI3.1 e5) _ rfl 3 0 (by omega)
      push_cast at l0 l1
      simp [e1,e2,e3,e4,e5,hm]
      rw [loopC_at ?_ l0]
      ·cases e6:allTo (txtsAt s) 3 0
       ·simp
       ·simp
        rw [loopC_at ?_ l1]
        ·cases e7:allTo (numsOk s) 3 0<;>simp
        ·rfl
      ·rfl
theorem ev_CloneI (m:M) (xs:List (Int)) (hb:xs.length≤4000000):ev E 78 [.v m false [.sl (xs.map (fun n:Int=>[L.int .i64 n]))]]=some { rs:=[.v .own false [.sl (xs.map (fun n:Int=>[L.int .i64 n]))]],outs:=[] }:=by
 have h1:xs.length*8≤17592186044416:=by omega
 have h2:xs.length≤17592186044416:=by omega
 rw [ev_eq]
 simp [cloneK,h1,h2]
theorem ev_CloneB (m:M) (xs:List (Bool)) (hb:xs.length≤4000000):ev E 139 [.v m false [.sl (xs.map (fun b:Bool=>[L.bool b]))]]=some { rs:=[.v .own false [.sl (xs.map (fun b:Bool=>[L.bool b]))]],outs:=[] }:=by
 have h1:xs.length*1≤17592186044416:=by omega
 have h2:xs.length≤17592186044416:=by omega
 rw [ev_eq]
 simp [cloneK,h1,h2]
theorem ev_CloneS (m:M) (xs:List (Bs)) (hb:xs.length≤4000000):ev E 77 [.v m false [.sl (xs.map (fun s:Bs=>[L.str s]))]]=some { rs:=[.v .own false [.sl (xs.map (fun s:Bs=>[L.str s]))]],outs:=[] }:=by
 have h1:xs.length*16≤17592186044416:=by omega
 have h2:xs.length≤17592186044416:=by omega
 rw [ev_eq]
 simp [cloneK,h1,h2]
theorem ev_CloneR (m:M) (xs:List (ReqT)) (hb:xs.length≤4000000):ev E 140 [.v m false [.sl (xs.map (reqL))]]=some { rs:=[.v .own false [.sl (xs.map (reqL))]],outs:=[] }:=by
 have h1:xs.length*56≤17592186044416:=by omega
 have h2:xs.length≤17592186044416:=by omega
 rw [ev_eq]
 simp [cloneK,h1,h2]
theorem ev_again (m:M) (hm:m.isOwn=false) (s:StoreT) (b:StoreB s):ev E 76 [.v m true (storeL s)]=some { rs:=[.v .own true (storeL s)],outs:=[] }:=by
 obtain ⟨b1,b2,b3,b4,b5⟩:=b
 have c1:=fun m=>ev_CloneS m s.now b1
 have c2:=fun m=>ev_CloneS m s.sure b2
 have c3:=fun m=>ev_CloneI m s.last b3
 have c4:=fun m=>ev_CloneI m s.slast b4
 have c5:=fun m=>ev_CloneI m s.floors b5
 rw [ev_fn Tryz.f76 rfl Tryz.func76 rfl rfl rfl (Nat.le_of_ble_eq_true rfl)]
 simp [hm,c1,c2,c3,c4,c5]
theorem ev_l5Copy (m:M) (hm:m.isOwn=false) (s:StoreT) (b:StoreB s):ev E 156 [.v m true (storeL s)]=some { rs:=[.v .own true (storeL s)],outs:=[] }:=by
 obtain ⟨b1,b2,b3,b4,b5⟩:=b
 have h1:s.now.length*16≤17592186044416:=by omega
 have h2:s.now.length≤17592186044416:=by omega
 have h3:s.sure.length*16≤17592186044416:=by omega
 have h4:s.sure.length≤17592186044416:=by omega
 have h5:s.last.length*8≤17592186044416:=by omega
 have h6:s.last.length≤17592186044416:=by omega
 have h7:s.slast.length*8≤17592186044416:=by omega
 have h8:s.slast.length≤17592186044416:=by omega
 have h9:s.floors.length*8≤17592186044416:=by omega
 have h10:s.floors.length≤17592186044416:=by omega
 rw [ev_fn Tryz.f156 rfl Tryz.func156 rfl rfl rfl (Nat.le_of_ble_eq_true rfl)]
 simp [hm,h1,h2,h3,h4,h5,h6,h7,h8,h9,h10]
theorem lp_l5Texts (m:M) (hm:m.isOwn=false) (xs:List Bs) (hb:xs.length≤4000000) (hx:∀ x∈xs,x.length≤4000000) (a:Code) (ha:a=lp Tryz.f219 0):∀ (n i:Nat),i+n=xs.length →
  loopC E (ev E) 219 a { V:=[(0,.v m false [.sl (strsL xs)]),(3,vi i)],H:=[],ps:=[] } =
   if (xs.drop i).all txtOk=true then some (.exit 0,{ V:=[(0,.v m false [.sl (strsL xs)]),(3,vi xs.length),(7,vb false)],H:=[],ps:=[] })
   else some (.ret,{ V:=[(2,vb false)],H:=[],ps:=[] })
 | 0,i,h=>by
  rw [loopC_of _ _ _ _ ha]
  obtain rfl:i=xs.length:=by omega
  simp [lp,loopsOf,Tryz.f219]
 | n+1,i,h=>by
  have hlt:i<xs.length:=by omega
  have ih:=lp_l5Texts m hm xs hb hx a ha n (i+1) (by omega)
  push_cast at ih
  have hw:=wrapN i (by omega)
  have c1:∀ m,ev E 222 [.v m false [.str xs[i]]]=some (rB (txtOk xs[i])):=fun m=>ev_spec_TextOk m _ (by have:=hx _ (List.getElem_mem hlt);omega)
  rw [loopC_of _ _ _ _ ha,List.drop_eq_getElem_cons hlt,List.all_cons]
  clear ha
  generalize (xs.drop (i+1)).all txtOk=r at ih ⊢
  cases e1:txtOk xs[i]<;>simp [lp,loopsOf,Tryz.f219,hlt,hw,hm,c1,e1,ih]
theorem ev_l5Texts (m:M) (hm:m.isOwn=false) (xs:List Bs) (hb:xs.length≤4000000) (hx:∀ x∈xs,x.length≤4000000):ev E 219 [.v m false [.sl (strsL xs)]]=some (rB (textsOk xs)):=by
 have l0:=fun a ha=>lp_l5Texts m hm xs hb hx a ha xs.length 0 (by omega)
 push_cast at l0
 simp only [List.drop_zero] at l0
 rw [ev_fn Tryz.f219 rfl Tryz.func219 rfl rfl rfl (Nat.le_of_ble_eq_true rfl)]
 rw [textsOk]
 generalize xs.all txtOk=r at l0 ⊢
 simp
 rw [l0 _ ?_]
 ·cases r<;>simp
 ·rfl
theorem lp_sStoreOk (m:M) (hm:m.isOwn=false) (s:StoreT) (h1:s.last.length=3) (h2:s.slast.length=3) (h3:s.floors.length=3) (a:Code) (ha:a=lp Tryz.f160 0):∀ (n i:Nat),i+n=3 →
  loopC E (ev E) 160 a { V:=[(1,adc 1),(3,vi i)],H:=[bxm (.c 1) m (storeL s)],ps:=[] } =
   if allTo (numsOk s) n i=true then some (.exit 0,{ V:=[(1,adc 1),(3,vi 3),(33,vb false)],H:=[bxm (.c 1) m (storeL s)],ps:=[] })
   else some (.ret,{ V:=[(2,vb false)],H:=[],ps:=[] })
 | 0,i,h=>by
  rw [loopC_of _ _ _ _ ha]
  obtain rfl:i=3:=by omega
  simp [lp,loopsOf,Tryz.f160,allTo,hm]
 | n+1,i,h=>by
  have hI:(i:Int)<3:=by omega
  have hl:i<s.last.length:=by omega
  have hs:i<s.slast.length:=by omega
  have hf:i<s.floors.length:=by omega
  have ih:=lp_sStoreOk m hm s h1 h2 h3 a ha n (i+1) (by omega)
  push_cast at ih
  have hw:=wrapN i (by omega)
  rw [loopC_of _ _ _ _ ha,allTo]
  rw [numsOk,getD_lt _ hl,getD_lt _ hs,getD_lt _ hf]
  clear ha
  generalize allTo (numsOk s) n (i+1)=r at ih ⊢
  cases e1:ltI s.slast[i] 0
  ·cases e2:ltI s.last[i] s.slast[i]
   ·cases e3:ltI 1000 s.last[i]
    ·cases e4:ltI s.floors[i] 0
     ·cases e5:ltI 100 s.floors[i]<;>simp [lp,loopsOf,Tryz.f160,hI,hl,hs,hf,hw,hm,e1,e2,e3,e4,e5,ih]
     ·simp [lp,loopsOf,Tryz.f160,hI,hl,hs,hf,hw,hm,e1,e2,e3,e4]
    ·simp [lp,loopsOf,Tryz.f160,hI,hl,hs,hf,hw,hm,e1,e2,e3]
   ·simp [lp,loopsOf,Tryz.f160,hI,hl,hs,hf,hw,hm,e1,e2]
  ·simp [lp,loopsOf,Tryz.f160,hI,hl,hs,hf,hw,hm,e1]
theorem ev_spec_StoreOk (m:M) (hm:m.isOwn=false) (s:StoreT) (b:StoreC s):ev E 160 [.v m true (storeL s)]=some (rB (storeOk s)):=by
 have c1:=fun m hm=>ev_l5Texts m hm s.now b.now b.nowT
 have c2:=fun m hm=>ev_l5Texts m hm s.sure b.sure b.sureT
 rw [storeOk]
 rw [ev_fn Tryz.f160 rfl Tryz.func160 rfl rfl rfl (Nat.le_of_ble_eq_true rfl)]
 cases e1:textsOk s.now
 ·simp [c1,c2,e1,hm]
 ·cases e2:textsOk s.sure
  ·simp [c1,c2,e1,e2,hm]
  ·cases e3:eqI s.last.length 3
   ·simp [c1,c2,e1,e2,e3,hm]
   ·cases e4:eqI s.slast.length 3
    ·simp [c1,c2,e1,e2,e3,e4,hm]
    ·cases e5:eqI s.floors.length 3
     ·simp [c1,c2,e1,e2,e3,e4,e5,hm]
     ·have l1:=lp_sStoreOk m hm s (eqI3.1 e3) (eqI3.1 e4) (eqI3.1 e5) _ rfl 3 0 (by omega)
      push_cast at l1
      simp [c1,c2,e1,e2,e3,e4,e5,hm]
      rw [loopC_at ?_ l1]
      ·cases e7:allTo (numsOk s) 3 0<;>simp
      ·rfl
end Go.Ev


set_option maxRecDepth 100000
set_option maxHeartbeats 4000000
namespace Go.Ev
open Go.Proofs
theorem ev_spec_l4Who (m:M) (k:Int):ev E 152 [.v m false [.int .i64 k]]=some (rB (whoOk k)):=by
 rw [ev_fn Tryz.f152 rfl Tryz.func152 rfl rfl rfl (Nat.le_of_ble_eq_true rfl)]
 cases e1:ltI k 0<;>simp [e1,whoOk]
theorem ev_impl_client (m:M) (k:Int):ev E 62 [.v m false [.int .i64 k]]=some (rB (whoOk k)):=by
 rw [ev_fn Tryz.f62 rfl Tryz.func62 rfl rfl rfl (Nat.le_of_ble_eq_true rfl)]
 cases e1:ltI k 0<;>simp [e1,whoOk]
theorem ev_l5Req (m:M) (q:ReqT) (hx:q.data.length≤4000000):ev E 165 [.v m true (reqL q)]=some (rB (reqOk q)):=by
 have c1:∀ m,ev E 152 [.v m false [.int .i64 q.who]]=some (rB (whoOk q.who)):=fun m=>ev_spec_l4Who m q.who
 have c2:∀ m,ev E 222 [.v m false [.str q.data]]=some (rB (txtOk q.data)):=fun m=>ev_spec_TextOk m q.data (by omega)
 have hwr:wrOk q.pos q.data=(!ltI q.pos 0&&!ltI 48 q.pos&&txtOk q.data&&!eqS q.data []&&!ltI 48 (q.pos+q.data.length)):=rfl
 rw [ev_fn Tryz.f165 rfl Tryz.func165 rfl rfl rfl (Nat.le_of_ble_eq_true rfl)]
 cases e1:whoOk q.who
 ·simp [c1,e1,reqOk]
 cases e2:ltI q.epoch 0
 case true=>simp [c1,e1,e2,reqOk]
 cases e3:ltI 100 q.epoch
 case true=>simp [c1,e1,e2,e3,reqOk]
 cases e4:ltI q.num 1
 case true=>simp [c1,e1,e2,e3,e4,reqOk]
 cases e5:ltI 1000 q.num
 case true=>simp [c1,e1,e2,e3,e4,e5,reqOk]
 cases e6:ltI q.obj 0
 case true=>simp [c1,e1,e2,e3,e4,e5,e6,reqOk]
 cases e7:ltI q.obj 3
 case false=>simp [c1,e1,e2,e3,e4,e5,e6,e7,reqOk]
 cases e8:ltI q.pos 0
 case true=>simp [c1,e1,e2,e3,e4,e5,e6,e7,e8,reqOk,hwr]
 cases e9:ltI 48 q.pos
 case true=>simp [c1,e1,e2,e3,e4,e5,e6,e7,e8,e9,reqOk,hwr]
 have h1:=ltI_not.1 e8
 have h2:=ltI_not.1 e9
 have hw:IntKind.i64.wrap (q.pos+q.data.length)=q.pos+q.data.length:=wrap64 (by omega)
 cases e10:txtOk q.data
 ·simp [c1,c2,e1,e2,e3,e4,e5,e6,e7,e8,e9,e10,reqOk,hwr]
 ·cases e11:eqS q.data []<;>simp [c1,c2,e1,e2,e3,e4,e5,e6,e7,e8,e9,e10,e11,hw,reqOk,hwr]
theorem ev_formed (m:M) (q:ReqT) (hx:q.data.length≤4000000):ev E 86 [.v m true (reqL q)]=some (rB (reqOk q)):=by
 have c1:∀ m,ev E 62 [.v m false [.int .i64 q.who]]=some (rB (whoOk q.who)):=fun m=>ev_impl_client m q.who
 have c2:∀ m m' m'',ev E 47 [.v m false [.str []],.v m' false [.int .i64 q.pos],.v m'' false [.str q.data]]=some { rs:=[.v .own false [.str (twS [] q.pos q.data).1],.v .own false [.bool (wrOk q.pos q.data)]],outs:=[] }:=fun m m' m''=>by
  rw [ev_impl_TextWrite m m' m'' [] q.data q.pos (by simp) hx]
  have e0:txtOk []=true:=by decide
  simp only [twS,e0,if_true]
  cases wrOk q.pos q.data<;>rfl
 rw [ev_fn Tryz.f86 rfl Tryz.func86 rfl rfl rfl (Nat.le_of_ble_eq_true rfl)]
 cases e1:whoOk q.who
 ·simp [c1,c2,e1,reqOk]
 cases e2:ltI q.epoch 0
 case true=>simp [c1,c2,e1,e2,reqOk]
 cases e3:ltI 100 q.epoch
 case true=>simp [c1,c2,e1,e2,e3,reqOk]
 cases e4:ltI q.num 1
 case true=>simp [c1,c2,e1,e2,e3,e4,reqOk]
 cases e5:ltI 1000 q.num
 case true=>simp [c1,c2,e1,e2,e3,e4,e5,reqOk]
 cases e6:ltI q.obj 0
 case true=>simp [c1,c2,e1,e2,e3,e4,e5,e6,reqOk]
 cases e7:ltI q.obj 3<;>simp [c1,c2,e1,e2,e3,e4,e5,e6,e7,reqOk]
end Go.Ev


set_option maxRecDepth 100000
set_option maxHeartbeats 4000000
namespace Go.Ev
open Go.Proofs
def noS:StoreT:=⟨[],[],[],[],[]⟩
theorem ev_l2Write (m m' m'':M) (s x:List UInt8) (k:Nat) (hk:k≤4000000) (hs:s.length≤4000000) (hx:x.length≤4000000):ev E 255 [.v m false [.str s],.v m' false [.int .i64 k],.v m'' false [.str x]]=some { rs:=[.v .own false [.str (wrS s k x)]],outs:=[] }:=by
 have c1:=fun m m'=>ev_l2Long m m' s k hk hs
 have hw:wrS s k x=(s++List.replicate (k - s.length) 46).take k++x++(s++List.replicate (k - s.length) 46).drop (min (s++List.replicate (k - s.length) 46).length (k+x.length)):=by
  unfold wrS
  congr 1
  simp only [List.drop_append,List.length_append,List.length_replicate]
  by_cases h:k≤s.length
  ·simp [Nat.sub_eq_zero_of_le h]
   omega
  ·rw [List.drop_of_length_le (by omega),List.drop_of_length_le (by omega)]
   simp
   omega
 rw [hw]
 have hl:(s++List.replicate (k - s.length) 46).length≤8000000∧k≤(s++List.replicate (k - s.length) 46).length:=by simp;omega
 generalize s++List.replicate (k - s.length) 46=z at *
 have hmi:minI (z.length:Int) ((k:Int)+x.length)=((min z.length (k+x.length):Nat):Int):=by simp only [minI,ltI,decide_eq_true_eq];split<;>omega
 have hwk:IntKind.i64.wrap ((k:Int)+x.length)=((k:Int)+x.length):=by rw [wrap64];omega
 have c2:=fun m m'=>ev_spec_l1Min m m' (z.length:Int) ((k:Int)+x.length)
 rw [hmi] at c2
 have h1:k+x.length≤4611686018427387904:=by omega
 have h2:k+(x.length+(z.length - min z.length (k+x.length)))≤4611686018427387904:=by omega
 have h3:k+x.length+(z.length - min z.length (k+x.length))≤4611686018427387904:=by omega
 have h4:min z.length (k+x.length)≤z.length:=by omega
 rw [ev_fn Tryz.f255 rfl Tryz.func255 rfl rfl rfl (Nat.le_of_ble_eq_true rfl)]
 simp [c1,c2,hl.2,hwk,h1,h2,h3,h4]
end Go.Ev

