/- My texts joined: EvT77, EvT58, EvT83, EvG2. No condition. -/
import Derived.Test.YtngbcdcghbapnaaGreatDoorEn1
import Derived.Test.YtngbcdcghbapnaaGreatDoorEn2
import Derived.Test.YtngbcdcghbapnaaGreatDoorEn5
import Derived.Test.YtngbcdcghbapnaaGreatDoorEn6
import Derived.Test.YtngbcdcghbapnaaGreatDoorEn7
import Derived.Test.YtngbcdcghbapnaaGreatDoorEn8
import Derived.Test.YtngbcdcghbapnaaGreatDoorEn9
import Derived.Test.YtngbcdcghbapnaaGreatDoorEn11
import Derived.Test.YtngbcdcghbapnaaGreatDoorEn12
import Derived.Test.YtngbcdcghbapnaaGreatDoorEn13
import Derived.Test.YtngbcdcghbapnaaGreatDoorEn14
import Derived.Test.YtngbcdcghbapnaaGreatDoorEn16
import Derived.Test.YtngbcdcghbapnaaGreatDoorEn17
import Derived.Test.YtngbcdcghbapnaaGreatDoorEn18
import Derived.Test.YtngbcdcghbapnaaGreatDoorEn19
import Derived.Test.YtngbcdcghbapnaaGreatDoorEn20
import Derived.Test.YtngbcdcghbapnaaGreatDoorEn21
import Derived.Test.YtngbcdcghbapnaaGreatDoorEn23
import Derived.Test.YtngbcdcghbapnaaGreatDoorEn24
import Derived.Test.YtngbcdcghbapnaaGreatDoorEn25
import Derived.Test.YtngbcdcghbapnaaGreatDoorEn26
import Derived.Test.YtngbcdcghbapnaaGreatDoorEn28
import Derived.Test.YtngbcdcghbapnaaGreatDoorEn29
set_option linter.unusedVariables false
set_option linter.unusedSimpArgs false

set_option maxRecDepth 100000
set_option maxHeartbeats 8000000
namespace Go.Ev
open Go.Proofs
theorem lp_counts (m:M) (hm:m.isOwn=false) (w:WorldT) (C:WorldC w) (SP:StoreP w.st) (h1:w.owns.length=3) (h2:w.epochs.length=3) (h3:w.alive.length=3) (a:Code) (ha:a=lp Tryz.f67 0):∀ (n i:Nat),i+n=3 →
  loopC E (ev E) 67 a { V:=[(1,adc 1),(3,vi i)],H:=[bxm (.c 1) m (worldL w)],ps:=[] } =
   if allTo (ownAt w) n i=true then some (.exit 0,{ V:=[(1,adc 1),(3,vi 3),(45,vb false)],H:=[bxm (.c 1) m (worldL w)],ps:=[] })
   else some (.ret,{ V:=[(2,vb false)],H:=[],ps:=[] })
 | 0,i,h=>by
  rw [loopC_of _ _ _ _ ha]
  obtain rfl:i=3:=by omega
  simp [lp,loopsOf,Tryz.f67,allTo,hm]
 | n+1,i,h=>by
  have hI:(i:Int)<3:=by omega
  have a1:i<w.owns.length:=by omega
  have a2:i<w.epochs.length:=by omega
  have a3:i<w.alive.length:=by omega
  have a4:i<w.st.floors.length:=by have:=SP.floors;omega
  have ih:=lp_counts m hm w C SP h1 h2 h3 a ha n (i+1) (by omega)
  push_cast at ih
  have hw:=wrapN i (by omega)
  have B:=C.owned _ (List.getElem_mem a1)
  have hfl:=(SP.nums i (by omega)).2.2.2
  rw [getD_lt _ a4] at hfl
  have c1:∀ m,m.isOwn=false→ev E 162 [.v m true (ownL w.owns[i])]=some (rB w.owns[i].ok):=fun m hm=>ev_spec_OwnOk m hm _ _ _ (by have:=C.ownT _ (List.getElem_mem a1);omega) (by have:=B.1;omega) (by have:=B.2;omega)
  have c2:ev E 97 []=some { rs:=[.v .own true (ownL noO)],outs:=[] }:=ev_l6None
  have c3:=fun m m' hm hm'=>ev_spec_OwnSame m m' hm hm' w.owns[i] noO ⟨by decide,by decide⟩
  have hg:ownAt w i=(w.owns[i].ok&&(!ltI w.epochs[i] w.st.floors[i]&&(!ltI 100 w.epochs[i]&&(w.alive[i] || sameOwn w.owns[i] noO)))):=by
   unfold ownAt WorldT.own WorldT.ep WorldT.live
   rw [getD_lt _ a1,getD_lt _ a2,getD_lt _ a3,getD_lt _ a4]
  rw [loopC_of _ _ _ _ ha,allTo,hg]
  clear ha hg
  generalize allTo (ownAt w) n (i+1)=r at ih ⊢
  cases e1:w.owns[i].ok
  ·simp [lp,loopsOf,Tryz.f67,hI,a1,hw,hm,c1,e1]
  ·cases e0:ltI w.epochs[i] 0
   ·cases e3:ltI 100 w.epochs[i]
    ·cases e2:ltI w.epochs[i] w.st.floors[i]
     ·cases e4:w.alive[i]
      ·cases e5:sameOwn w.owns[i] noO<;>simp [lp,loopsOf,Tryz.f67,hI,a1,a2,a3,a4,hw,hm,c1,c2,c3,e0,e1,e2,e3,e4,e5,ih]
      ·simp [lp,loopsOf,Tryz.f67,hI,a1,a2,a3,a4,hw,hm,c1,e0,e1,e2,e3,e4,ih]
     ·simp [lp,loopsOf,Tryz.f67,hI,a1,a2,a3,a4,hw,hm,c1,e0,e1,e2,e3]
    ·simp [lp,loopsOf,Tryz.f67,hI,a1,a2,a3,a4,hw,hm,c1,e0,e1,e3]
   ·have e2:ltI w.epochs[i] w.st.floors[i]=true:=by rw [ltI_iff] at e0 ⊢;omega
    simp [lp,loopsOf,Tryz.f67,hI,a1,a2,a3,a4,hw,hm,c1,e0,e1,e2]
theorem ev_l7Counts (m:M) (hm:m.isOwn=false) (w:WorldT) (C:WorldC w):ev E 67 [.v m true (worldL w)]=some (rB (countsOk w&&allTo (ownAt w) 3 0)):=by
 have c1:=fun m=>ev_spec_LayOk m w.size w.many
 have c2:=fun m hm=>ev_spec_StoreOk m hm w.st C.stC
 have c3:=fun m hm=>ev_spec_LockOk m hm w.locks C.locks C.holds
 unfold countsOk
 cases e1:layOk w.size w.many
 ·rw [ev_fn Tryz.f67 rfl Tryz.func67 rfl rfl rfl (Nat.le_of_ble_eq_true rfl)]
  simp [c1,e1,hm]
 ·cases e2:storeOk w.st
  ·rw [ev_fn Tryz.f67 rfl Tryz.func67 rfl rfl rfl (Nat.le_of_ble_eq_true rfl)]
   simp [c1,c2,e1,e2,hm]
  ·cases e3:lockOk w.locks
   ·rw [ev_fn Tryz.f67 rfl Tryz.func67 rfl rfl rfl (Nat.le_of_ble_eq_true rfl)]
    simp [c1,c2,c3,e1,e2,e3,hm]
   ·cases e4:eqI w.owns.length 3
    ·rw [ev_fn Tryz.f67 rfl Tryz.func67 rfl rfl rfl (Nat.le_of_ble_eq_true rfl)]
     simp [c1,c2,c3,e1,e2,e3,e4,hm]
    ·cases e5:eqI w.epochs.length 3
     ·rw [ev_fn Tryz.f67 rfl Tryz.func67 rfl rfl rfl (Nat.le_of_ble_eq_true rfl)]
      simp [c1,c2,c3,e1,e2,e3,e4,e5,hm]
     ·cases e6:eqI w.alive.length 3
      ·rw [ev_fn Tryz.f67 rfl Tryz.func67 rfl rfl rfl (Nat.le_of_ble_eq_true rfl)]
       simp [c1,c2,c3,e1,e2,e3,e4,e5,e6,hm]
      ·cases e7:ltI 8 w.late.length
       ·have l0:=lp_counts m hm w C (storeOk_iff.1 e2) (eqI3.1 e4) (eqI3.1 e5) (eqI3.1 e6) _ rfl 3 0 (by omega)
        push_cast at l0
        rw [ev_fn Tryz.f67 rfl Tryz.func67 rfl rfl rfl (Nat.le_of_ble_eq_true rfl)]
        simp [c1,c2,c3,e1,e2,e3,e4,e5,e6,e7,hm]
        rw [loopC_at ?_ l0]
        ·cases allTo (ownAt w) 3 0<;>simp
        ·rfl
       ·rw [ev_fn Tryz.f67 rfl Tryz.func67 rfl rfl rfl (Nat.le_of_ble_eq_true rfl)]
        simp [c1,c2,c3,e1,e2,e3,e4,e5,e6,e7,hm]
theorem lp_sent0 (m:M) (hm:m.isOwn=false) (w:WorldT) (x:StoreT) (cs:List Int) (hc:cs.length=w.kept.length) (hb:w.kept.length≤4000000) (h2:w.epochs.length=3) (hr:∀ (i:Nat) (h:i<cs.length) (h2:i<w.kept.length),cs[i]=0→ReqP w.kept[i]) (a:Code) (ha:a=lp Tryz.f68 0):∀ (n i:Nat),i+n=cs.length →
  loopC E (ev E) 68 a { V:=[(1,adc 1),(3,adc 3),(4,at1 4),(5,vi i)],H:=[bxm (.c 1) m (worldL w),bx (.c 3) (storeL x),ow (.c 4) [.sl (intsL cs)]],ps:=[] } =
   if keptF w (w.kept.drop i) (cs.drop i)=true then some (.exit 0,{ V:=[(1,adc 1),(3,adc 3),(4,at1 4),(5,vi cs.length),(19,vb false)],H:=[bxm (.c 1) m (worldL w),bx (.c 3) (storeL x),ow (.c 4) [.sl (intsL cs)]],ps:=[] })
   else some (.ret,{ V:=[(2,vb false)],H:=[],ps:=[] })
 | 0,i,h=>by
  rw [loopC_of _ _ _ _ ha]
  obtain rfl:i=cs.length:=by omega
  rw [hc]
  simp [lp,loopsOf,Tryz.f68,keptF,hm,hc]
 | n+1,i,h=>by
  have hlc:i<cs.length:=by omega
  have hlt:i<w.kept.length:=by omega
  have ih:=lp_sent0 m hm w x cs hc hb h2 hr a ha n (i+1) (by omega)
  push_cast at ih
  have hw:=wrapN i (by omega)
  rw [loopC_of _ _ _ _ ha,List.drop_eq_getElem_cons hlt,List.drop_eq_getElem_cons hlc,keptF]
  clear ha
  have hrp:=hr i hlc hlt
  generalize keptF w (w.kept.drop (i+1)) (cs.drop (i+1))=r at ih ⊢
  cases e1:eqI cs[i] 0
  ·simp [lp,loopsOf,Tryz.f68,hlt,hlc,hw,hm,e1]
  ·have hq:=(hrp (eqI_iff.1 e1)).who
   obtain ⟨k,hk⟩:∃ k:Nat,w.kept[i].who=k:=⟨w.kept[i].who.toNat,by omega⟩
   have hk3:k<w.epochs.length:=by omega
   have hep:w.ep k=w.epochs[k]:=getD_lt _ hk3
   rw [hk,Int.toNat_natCast,hep]
   cases e2:eqI w.kept[i].epoch w.epochs[k]<;>simp [lp,loopsOf,Tryz.f68,hlt,hlc,hw,hm,hk,hk3,e1,e2,ih]
theorem lp_sent1 (m:M) (hm:m.isOwn=false) (w:WorldT) (x:StoreT) (hb:w.late.length≤8) (hd:∀ q∈w.late,q.data.length≤4000000) (h4:w.st.floors.length=3) (a:Code) (ha:a=lp Tryz.f68 1):∀ (n i:Nat),i+n=w.late.length →
  loopC E (ev E) 68 a { V:=[(1,adc 1),(3,adc 3),(6,vi i)],H:=[bxm (.c 1) m (worldL w),bx (.c 3) (storeL x)],ps:=[] } =
   if (w.late.drop i).all (lateAt w)=true then some (.exit 2,{ V:=[(1,adc 1),(3,adc 3),(6,vi w.late.length),(50,vb false)],H:=[bxm (.c 1) m (worldL w),bx (.c 3) (storeL x)],ps:=[] })
   else some (.ret,{ V:=[(2,vb false)],H:=[],ps:=[] })
 | 0,i,h=>by
  rw [loopC_of _ _ _ _ ha]
  obtain rfl:i=w.late.length:=by omega
  simp [lp,loopsOf,Tryz.f68,hm]
 | n+1,i,h=>by
  have hlt:i<w.late.length:=by omega
  have ih:=lp_sent1 m hm w x hb hd h4 a ha n (i+1) (by omega)
  push_cast at ih
  have hw:=wrapN i (by omega)
  have c1:=fun m=>ev_l5Req m w.late[i] (hd _ (List.getElem_mem hlt))
  rw [loopC_of _ _ _ _ ha,List.drop_eq_getElem_cons hlt,List.all_cons,lateAt]
  clear ha
  generalize (w.late.drop (i+1)).all (lateAt w)=r at ih ⊢
  cases e1:reqOk w.late[i]
  ·simp [lp,loopsOf,Tryz.f68,hlt,hw,hm,c1,e1]
  ·have hq:=(reqOk_iff.1 e1).who
   obtain ⟨k,hk⟩:∃ k:Nat,w.late[i].who=k:=⟨w.late[i].who.toNat,by omega⟩
   have hk3:k<w.st.floors.length:=by omega
   rw [hk,Int.toNat_natCast,getD_lt _ hk3]
   simp only [reqL,hk] at c1
   cases e2:ltI w.late[i].epoch w.st.floors[k]<;>simp [lp,loopsOf,Tryz.f68,hlt,hw,hm,hk,hk3,c1,e1,e2,ih]
theorem ev_l7Sent (m:M) (hm:m.isOwn=false) (w:WorldT) (C:WorldC w) (SP:StoreP w.st) (h2:w.epochs.length=3) (h8:w.late.length≤8):ev E 68 [.v m true (worldL w)]=some (rB (keptF w w.kept (storeAll (storeFall w.st) w.kept).2&&(w.late.all (lateAt w)&&sameStore (storeAll (storeFall w.st) w.kept).1 w.st))):=by
 have FP:=fall_ok SP
 have c4:=fun m hm=>ev_spec_StoreFall m hm w.st C.stC
 have c5:=fun m m' hm hm'=>ev_spec_StoreAll m m' hm hm' (storeFall w.st) w.kept FP.bd C.kept C.keptT
 rw [if_pos (storeOk_iff.2 SP)] at c4
 rw [if_pos (storeOk_iff.2 FP)] at c5
 simp only [rS1] at c4
 simp only [rStA] at c5
 have c6:=fun m m' hm hm'=>ev_spec_StoreSame m m' hm hm' (storeAll (storeFall w.st) w.kept).1 w.st C.st
 have hcl:=storeAll_len w.kept (storeFall w.st)
 have hcode:=storeAll_code w.kept (storeFall w.st)
 have l0:=fun a ha=>lp_sent0 m hm w (storeAll (storeFall w.st) w.kept).1 (storeAll (storeFall w.st) w.kept).2 hcl C.kept h2 hcode a ha (storeAll (storeFall w.st) w.kept).2.length 0 (by omega)
 have l1:=fun a ha=>lp_sent1 m hm w (storeAll (storeFall w.st) w.kept).1 h8 C.lateT SP.floors a ha w.late.length 0 (by omega)
 push_cast at l0 l1
 simp only [List.drop_zero] at l0 l1
 clear hcode
 generalize storeAll (storeFall w.st) w.kept=z at *
 generalize keptF w w.kept z.2=g1 at *
 generalize sameStore z.1 w.st=g2 at *
 generalize w.late.all (lateAt w)=g3 at *
 rw [ev_fn Tryz.f68 rfl Tryz.func68 rfl rfl rfl (Nat.le_of_ble_eq_true rfl)]
 simp [c4,c5,hm]
 rw [l0 _ ?_]
 ·cases g1
  ·simp
  ·simp
   rw [l1 _ ?_]
   ·cases g3<;>simp [c6,hm]
   ·rfl
 ·rfl
theorem lp_l7Held (m mf m2:M) (hm:m.isOwn=false) (w:WorldT) (i:Nat) (h1:i<w.locks.length) (hB:holdB w.locks[i]) (o:OwnT) (ho:w.own i=o) (ht:o.t.length=48) (ob:ownB o) (a:Code) (ha:a=lp Tryz.f70 0):∀ (n j:Nat),j+n=48 →
  loopC E (ev E) 70 a { V:=[(1,.v mf false [.str w.file]),(2,.v m2 false [.int .i64 i]),(3,adc 3),(7,adc 7),(8,vi j)],H:=[bxm (.c 3) m (worldL w),bxm (.c 7) m (ownL o)],ps:=[] } =
   if allTo (heldAt w i) n j=true then some (.exit 0,{ V:=[(1,.v mf false [.str w.file]),(2,.v m2 false [.int .i64 i]),(3,adc 3),(7,adc 7),(8,vi 48),(17,vb false)],H:=[bxm (.c 3) m (worldL w),bxm (.c 7) m (ownL o)],ps:=[] })
   else some (.ret,{ V:=[(6,vb false)],H:=[],ps:=[] })
 | 0,j,h=>by
  rw [loopC_of _ _ _ _ ha]
  obtain rfl:j=48:=by omega
  simp [lp,loopsOf,Tryz.f70,allTo,hm]
 | n+1,j,h=>by
  have hj:j<48:=by omega
  have hJ:(j:Int)<48:=by omega
  have hw:=wrapN j (by omega)
  have hfl:=file_len w
  have hjt:j<o.t.length:=by omega
  have hjf:j<w.file.length:=by omega
  have ih:=lp_l7Held m mf m2 hm w i h1 hB o ho ht ob a ha n (j+1) (by omega)
  push_cast at ih
  have hl:w.lock i=w.locks[i]:=getD_lt _ h1
  have hg:heldAt w i j=(!inF o.h j || ((inF w.locks[i].w j || (!inF o.d j&&inF w.locks[i].r j))&&(inF o.d j || eqI o.t[j].toNat w.file[j].toNat))):=by
   unfold heldAt
   rw [ho,hl,getD_lt _ hjt,getD_lt _ hjf]
  have c1:∀ m m',ev E 167 [.v m false [.sl (o.d.map spL)],.v m' false [.int .i64 j]]=some (rB (inF o.d j)):=fun m m'=>ev_spec_l1In m m' o.d j (by have:=ob.2;omega)
  have c2:∀ m m',ev E 167 [.v m false [.sl (o.h.map spL)],.v m' false [.int .i64 j]]=some (rB (inF o.h j)):=fun m m'=>ev_spec_l1In m m' o.h j (by have:=ob.1;omega)
  have c3:∀ (d:Bool) (m m1 m2:M),m.isOwn=false→ev E 168 [.v m true (holdL w.locks[i]),.v m1 false [.bool d],.v m2 true [.int .i64 j,.int .i64 ((j:Int)+1)]]=some (rB (inF w.locks[i].w j || (!d&&inF w.locks[i].r j))):=fun d m m1 m2 hm=>by
   have:=ev_l4May m m1 m2 hm w.locks[i] hB d ((j:Int),(j:Int)+1) (by dsimp only;omega) (by dsimp only;omega) (by dsimp only;omega)
   have e:lockMay w.locks[i] d ((j:Int),(j:Int)+1)=(inF w.locks[i].w j || (!d&&inF w.locks[i].r j)):=by
    unfold lockMay
    have:((j:Int)+1 - (j:Int)).toNat=1:=by omega
    dsimp only
    rw [this,Int.toNat_natCast]
    simp only [allTo,mayAt,Bool.and_true]
   rw [e] at this
   exact this
  rw [loopC_of _ _ _ _ ha,allTo,hg]
  clear ha hg
  generalize allTo (heldAt w i) n (j+1)=r at ih ⊢
  cases e1:inF o.h j
  ·cases e4:inF o.d j<;>simp [lp,loopsOf,Tryz.f70,hJ,hw,hm,c1,c2,e1,e4,ih]
  ·cases e4:inF o.d j
   ·have c3:=c3 false
    cases e2:(inF w.locks[i].w j || (!false&&inF w.locks[i].r j))
    ·rw [e2] at c3
     have e2':(inF w.locks[i].w j || inF w.locks[i].r j)=false:=by simpa using e2
     simp [-Bool.or_eq_false_iff,lp,loopsOf,Tryz.f70,hJ,hw,hm,h1,c1,c2,c3,e1,e4,e2,e2']
    ·rw [e2] at c3
     have e2':(inF w.locks[i].w j || inF w.locks[i].r j)=true:=by simpa using e2
     cases e5:eqI o.t[j].toNat w.file[j].toNat<;>simp [-Bool.or_eq_true,lp,loopsOf,Tryz.f70,hJ,hw,hm,h1,hjt,hjf,c1,c2,c3,e1,e4,e2',e5,ih]
   ·have c3:=c3 true
    simp only [Bool.not_true,Bool.false_and,Bool.or_false] at c3
    cases e2:inF w.locks[i].w j<;>rw [e2] at c3<;>simp [lp,loopsOf,Tryz.f70,hJ,hw,hm,h1,c1,c2,c3,e1,e4,e2,ih]
theorem ev_l7Held (m mf m2:M) (hm:m.isOwn=false) (w:WorldT) (i:Nat) (h1:i<w.locks.length) (hB:holdB w.locks[i]) (h2:i<w.owns.length) (ob:ownB w.owns[i]) (ok:w.owns[i].ok=true):ev E 70 [.v m true (worldL w),.v mf false [.str w.file],.v m2 false [.int .i64 i]]=some (rB (allTo (heldAt w i) 48 0)):=by
 have ho:w.own i=w.owns[i]:=getD_lt _ h2
 have l0:=fun a ha=>lp_l7Held m mf m2 hm w i h1 hB w.owns[i] ho (ownOk_bd ok).1 ob a ha 48 0 (by omega)
 push_cast at l0
 rw [ev_fn Tryz.f70 rfl Tryz.func70 rfl rfl rfl (Nat.le_of_ble_eq_true rfl)]
 generalize allTo (heldAt w i) 48 0=r at *
 simp [hm,h2]
 rw [l0 _ ?_]
 ·cases r<;>simp
 ·rfl
theorem lp_sWok (m:M) (hm:m.isOwn=false) (w:WorldT) (C:WorldC w) (LP:LockP w.locks) (h1:w.owns.length=3) (hok:∀ i,i<3→(w.own i).ok=true) (a:Code) (ha:a=lp Tryz.f21 0):∀ (n i:Nat),i+n=3 →
  loopC E (ev E) 21 a { V:=[(1,adc 1),(3,.v .own false [.str w.file]),(4,vi i)],H:=[bxm (.c 1) m (worldL w)],ps:=[] } =
   if allTo (fun i=>allTo (heldAt w i) 48 0) n i=true then some (.exit 0,{ V:=[(1,adc 1),(3,.v .own false [.str w.file]),(4,vi 3),(16,vb false)],H:=[bxm (.c 1) m (worldL w)],ps:=[] })
   else some (.ret,{ V:=[(2,vb false)],H:=[],ps:=[] })
 | 0,i,h=>by
  rw [loopC_of _ _ _ _ ha]
  obtain rfl:i=3:=by omega
  simp [lp,loopsOf,Tryz.f21,allTo,hm]
 | n+1,i,h=>by
  have hi:i<3:=by omega
  have hI:(i:Int)<3:=by omega
  have hw:=wrapN i (by omega)
  have a1:i<w.owns.length:=by omega
  have a2:i<w.locks.length:=by have:=LP.len;omega
  have ho:w.own i=w.owns[i]:=getD_lt _ a1
  have ok:=hok i hi
  rw [ho] at ok
  have c1:=fun m mf m2 hm=>ev_l7Held m mf m2 hm w i a2 (C.holds _ (List.getElem_mem a2)) a1 (C.owned _ (List.getElem_mem a1)) ok
  have ih:=lp_sWok m hm w C LP h1 hok a ha n (i+1) (by omega)
  push_cast at ih
  rw [loopC_of _ _ _ _ ha,allTo]
  clear ha
  generalize allTo (fun i=>allTo (heldAt w i) 48 0) n (i+1)=r at ih ⊢
  cases e:allTo (heldAt w i) 48 0<;>simp [lp,loopsOf,Tryz.f21,hI,hw,hm,c1,e,ih]
theorem ev_spec_WorldOk (m:M) (hm:m.isOwn=false) (w:WorldT) (C:WorldC w):ev E 21 [.v m true (worldL w)]=some (rB (worldOk w)):=by
 have c1:=fun m hm=>ev_l7Counts m hm w C
 unfold worldOk
 cases e1:countsOk w
 ·rw [e1] at c1
  rw [ev_fn Tryz.f21 rfl Tryz.func21 rfl rfl rfl (Nat.le_of_ble_eq_true rfl)]
  simp [c1,hm]
 ·cases f1:allTo (ownAt w) 3 0
  ·rw [e1,f1] at c1
   rw [ev_fn Tryz.f21 rfl Tryz.func21 rfl rfl rfl (Nat.le_of_ble_eq_true rfl)]
   simp [c1,hm]
  ·rw [e1,f1] at c1
   simp only [countsOk,Bool.and_eq_true,storeOk_iff,lockOk_iff,eqI3,Bool.not_eq_true',ltI_not] at e1
   obtain ⟨hl,SP,LP,h1,h2,h3,h8⟩:=e1
   have hok:∀ i,i<3→(w.own i).ok=true:=fun i hi=>by
    have:=(allTo_iff _ 3 0).1 f1 i (by omega) (by omega)
    simp only [ownAt,Bool.and_eq_true] at this
    exact this.1
   have c2:=fun m hm=>ev_l7Sent m hm w C SP h2 (by omega)
   have c3:=fun m hm=>ev_l7File m hm w hl SP.now
   have l0:=fun a ha=>lp_sWok m hm w C LP h1 hok a ha 3 0 (by omega)
   push_cast at l0
   generalize storeAll (storeFall w.st) w.kept=z at *
   generalize keptF w w.kept z.2=g1 at *
   generalize sameStore z.1 w.st=g2 at *
   generalize w.late.all (lateAt w)=g3 at *
   generalize allTo (fun i=>allTo (heldAt w i) 48 0) 3 0=g4 at *
   cases g1
   ·rw [ev_fn Tryz.f21 rfl Tryz.func21 rfl rfl rfl (Nat.le_of_ble_eq_true rfl)]
    simp [c1,c2,hm]
   ·cases g3
    ·rw [ev_fn Tryz.f21 rfl Tryz.func21 rfl rfl rfl (Nat.le_of_ble_eq_true rfl)]
     simp [c1,c2,hm]
    ·cases g2
     ·rw [ev_fn Tryz.f21 rfl Tryz.func21 rfl rfl rfl (Nat.le_of_ble_eq_true rfl)]
      simp [c1,c2,hm]
     ·rw [ev_fn Tryz.f21 rfl Tryz.func21 rfl rfl rfl (Nat.le_of_ble_eq_true rfl)]
      simp [c1,c2,c3,hm]
      rw [l0 _ ?_]
      ·cases g4<;>simp
      ·rfl
end Go.Ev


set_option maxRecDepth 100000
set_option maxHeartbeats 8000000
namespace Go.Ev
open Go.Proofs
def sameLay (a b:WorldT):Bool:=eqI a.size b.size&&eqI a.many b.many
def sameWorld (a b:WorldT):Bool:=sameLay a b&&(sameStore a.st b.st&&(eqL sameHold a.locks b.locks&&(eqL sameOwn a.owns b.owns&&(eqL eqI a.epochs b.epochs&&(eqL sameB a.alive b.alive&&(eqL sameReq a.kept b.kept&&eqL sameReq a.late b.late))))))
@[simp] theorem eqAgg_Lay:eqAgg Tryz.prog 24=true:=by kernel_rfl
theorem ev_impl_WorldSame (m m':M) (hm:m.isOwn=false) (hm':m'.isOwn=false) (a b:WorldT) (hb:WorldB b):ev E 18 [.v m true (worldL a),.v m' true (worldL b)]=some (rB (sameWorld a b)):=by
 have c1:=fun m m' hm hm'=>ev_impl_StoreSame m m' hm hm' a.st b.st hb.st
 have c2:=fun m m' hm hm'=>ev_impl_LockSame m m' hm hm' a.locks b.locks hb.locks hb.holds
 have c3:=fun m m' mf hm hm'=>ev_Fowns m m' mf hm hm' a.owns b.owns hb.owns hb.owned
 have c4:=fun m m'=>ev_Eints m m' a.epochs b.epochs (by have:=hb.epochs;omega)
 have c5:=fun m m'=>ev_Ebools m m' a.alive b.alive (by have:=hb.alive;omega)
 have c6:=fun m m'=>ev_Ereqs m m' a.kept b.kept (by have:=hb.kept;omega)
 have c7:=fun m m'=>ev_Ereqs m m' a.late b.late (by have:=hb.late;omega)
 simp only [sameWorld]
 generalize sameStore a.st b.st=x1 at *
 generalize eqL sameHold a.locks b.locks=x2 at *
 generalize eqL sameOwn a.owns b.owns=x3 at *
 generalize eqL eqI a.epochs b.epochs=x4 at *
 generalize eqL sameB a.alive b.alive=x5 at *
 generalize eqL sameReq a.kept b.kept=x6 at *
 generalize eqL sameReq a.late b.late=x7 at *
 rw [ev_fn Tryz.f18 rfl Tryz.func18 rfl rfl rfl (Nat.le_of_ble_eq_true rfl)]
 cases e0:sameLay a b<;>simp only [sameLay] at e0
 ·simp [e0,hm,hm']
 cases x1
 ·simp [e0,hm,hm',c1]
 cases x2
 ·simp [e0,hm,hm',c1,c2]
 cases x3
 ·simp [e0,hm,hm',c1,c2,c3]
 cases x4
 ·simp [e0,hm,hm',c1,c2,c3,c4]
 cases x5
 ·simp [e0,hm,hm',c1,c2,c3,c4,c5]
 cases x6<;>simp [e0,hm,hm',c1,c2,c3,c4,c5,c6,c7]
end Go.Ev


set_option maxRecDepth 100000
set_option maxHeartbeats 4000000
namespace Go.Ev
open Go.Proofs
def fileB (w:WorldT):Bs:=if worldOk w=true then w.file else []
theorem ev_impl_WorldFile (m:M) (hm:m.isOwn=false) (w:WorldT) (C:WorldC w):ev E 23 [.v m true (worldL w)]=some { rs:=[.v .own false [.str (fileB w)]],outs:=[] }:=by
 have c1:=fun m hm=>ev_impl_WorldOk m hm w C
 unfold fileB
 cases e:worldOk w
 ·rw [ev_fn Tryz.f23 rfl Tryz.func23 rfl rfl rfl (Nat.le_of_ble_eq_true rfl)]
  simp [c1,e,hm]
 ·have P:=worldOk_iff.1 e
  have c2:=fun m hm=>ev_stored m hm w (layOk_iff.2 P.lay) P.st.now
  rw [ev_fn Tryz.f23 rfl Tryz.func23 rfl rfl rfl (Nat.le_of_ble_eq_true rfl)]
  simp [c1,c2,e,hm]
end Go.Ev


namespace Go.Ev
@[simp] theorem opnd_global (E:Env) (s:St) (g:Nat):opnd E s (.global g)=match E.glob g with | some ls=>.v .ro false [.ref ls] | none=>.dead:=rfl
end Go.Ev

