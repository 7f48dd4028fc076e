/- My texts joined: EvT76. No condition. -/
import Derived.Test.YtngbcdcghbapnaaGreatDoorEn1
import Derived.Test.YtngbcdcghbapnaaGreatDoorEn2
import Derived.Test.YtngbcdcghbapnaaGreatDoorEn5
import Derived.Test.YtngbcdcghbapnaaGreatDoorEn6
import Derived.Test.YtngbcdcghbapnaaGreatDoorEn7
import Derived.Test.YtngbcdcghbapnaaGreatDoorEn8
import Derived.Test.YtngbcdcghbapnaaGreatDoorEn9
import Derived.Test.YtngbcdcghbapnaaGreatDoorEn11
import Derived.Test.YtngbcdcghbapnaaGreatDoorEn12
import Derived.Test.YtngbcdcghbapnaaGreatDoorEn13
import Derived.Test.YtngbcdcghbapnaaGreatDoorEn14
import Derived.Test.YtngbcdcghbapnaaGreatDoorEn16
import Derived.Test.YtngbcdcghbapnaaGreatDoorEn17
import Derived.Test.YtngbcdcghbapnaaGreatDoorEn18
import Derived.Test.YtngbcdcghbapnaaGreatDoorEn19
import Derived.Test.YtngbcdcghbapnaaGreatDoorEn20
import Derived.Test.YtngbcdcghbapnaaGreatDoorEn21
import Derived.Test.YtngbcdcghbapnaaGreatDoorEn24
import Derived.Test.YtngbcdcghbapnaaGreatDoorEn25
import Derived.Test.YtngbcdcghbapnaaGreatDoorEn26
import Derived.Test.YtngbcdcghbapnaaGreatDoorEn28
set_option linter.unusedVariables false
set_option linter.unusedSimpArgs false

set_option maxRecDepth 100000
set_option maxHeartbeats 8000000
namespace Go.Ev
open Go.Proofs
theorem lp_iWok4 (m:M) (hm:m.isOwn=false) (w:WorldT) (i:Nat) (hi:i<3) (o:OwnT) (ho:w.own i=o) (ht:o.t.length=48) (a:Code) (ha:a=lp Tryz.f32 4):∀ (n j:Nat),j+n=48 →
  loopC E (ev E) 32 a { V:=[(1,adc 1),(11,.v .own false [.str w.file]),(13,adc 13),(14,adc 14),(15,adc 15),(16,adc 16),(17,adc 17),(172,.v m false [.sl (w.owns.map ownL)]),(173,vi 3),(174,vi i),(201,vi j)],H:=[bxm (.c 1) m (worldL w),bxm (.c 13) m (ownL o),bx (.c 14) (pl (inF o.h)),bx (.c 15) (pl (inF o.d)),bx (.c 16) (pl (inF (w.lock i).w)),bx (.c 17) (pl (orP (inF (w.lock i).w) (inF (w.lock i).r)))],ps:=[] } =
   if allTo (heldAt w i) n j=true then some (.exit 8,{ V:=[(1,adc 1),(11,.v .own false [.str w.file]),(13,adc 13),(14,adc 14),(15,adc 15),(16,adc 16),(17,adc 17),(172,.v m false [.sl (w.owns.map ownL)]),(173,vi 3),(174,vi i),(201,vi 48),(202,vb false)],H:=[bxm (.c 1) m (worldL w),bxm (.c 13) m (ownL o),bx (.c 14) (pl (inF o.h)),bx (.c 15) (pl (inF o.d)),bx (.c 16) (pl (inF (w.lock i).w)),bx (.c 17) (pl (orP (inF (w.lock i).w) (inF (w.lock i).r)))],ps:=[] })
   else some (.ret,{ V:=[(2,vb false)],H:=[],ps:=[] })
 | 0,j,h=>by
  rw [loopC_of _ _ _ _ ha]
  obtain rfl:j=48:=by omega
  simp [lp,loopsOf,Tryz.f32,allTo,hm]
 | n+1,j,h=>by
  have hj:j<48:=by omega
  have hJ:(j:Int)<48:=by omega
  have hw:=wrapN j (by omega)
  have h1:1≤48 - j:=by omega
  have hfl:=file_len w
  have hjt:j<o.t.length:=by omega
  have hjf:j<w.file.length:=by omega
  have p1:=pl_take (inF o.h) hj
  have p2:=pl_take (inF o.d) hj
  have p3:=pl_take (inF (w.lock i).w) hj
  have p4:=pl_take (orP (inF (w.lock i).w) (inF (w.lock i).r)) hj
  rw [orP_eq] at p4
  have ih:=lp_iWok4 m hm w i hi o ho ht a ha n (j+1) (by omega)
  push_cast at ih
  have hg:heldAt w i j=(!inF o.h j || ((inF (w.lock i).w j || (!inF o.d j&&inF (w.lock i).r j))&&(inF o.d j || eqI o.t[j].toNat w.file[j].toNat))):=by
   unfold heldAt
   rw [ho,getD_lt _ hjt,getD_lt _ hjf]
  rw [loopC_of _ _ _ _ ha,allTo,hg]
  clear ha hg
  generalize allTo (heldAt w i) n (j+1)=r at ih ⊢
  cases e1:inF o.h j
  ·rw [e1] at p1
   simp [lp,loopsOf,Tryz.f32,hJ,hw,hm,h1,show j≤48 by omega,p1,ih]
  ·rw [e1] at p1
   cases e2:inF (w.lock i).w j<;>cases e3:inF (w.lock i).r j<;>cases e4:inF o.d j<;>rw [e4] at p2<;>rw [e2] at p3<;>rw [e2,e3] at p4
   ·simp [lp,loopsOf,Tryz.f32,hJ,hw,hm,h1,show j≤48 by omega,p1,p2,p3,p4]
   ·simp [lp,loopsOf,Tryz.f32,hJ,hw,hm,h1,show j≤48 by omega,p1,p2,p3,p4]
   ·cases e5:eqI o.t[j].toNat w.file[j].toNat<;>simp [lp,loopsOf,Tryz.f32,hJ,hw,hm,h1,show j≤48 by omega,hjt,hjf,p1,p2,p3,p4,e5,ih]
   ·simp [lp,loopsOf,Tryz.f32,hJ,hw,hm,h1,show j≤48 by omega,p1,p2,p3,p4]
   ·cases e5:eqI o.t[j].toNat w.file[j].toNat<;>simp [lp,loopsOf,Tryz.f32,hJ,hw,hm,h1,show j≤48 by omega,hjt,hjf,p1,p2,p3,p4,e5,ih]
   ·simp [lp,loopsOf,Tryz.f32,hJ,hw,hm,h1,show j≤48 by omega,p1,p2,p3,p4,ih]
   ·cases e5:eqI o.t[j].toNat w.file[j].toNat<;>simp [lp,loopsOf,Tryz.f32,hJ,hw,hm,h1,show j≤48 by omega,hjt,hjf,p1,p2,p3,p4,e5,ih]
   ·simp [lp,loopsOf,Tryz.f32,hJ,hw,hm,h1,show j≤48 by omega,p1,p2,p3,p4,ih]
theorem lp_iWok3 (m:M) (hm:m.isOwn=false) (w:WorldT) (LP:LockP w.locks) (h1:w.owns.length=3) (hok:∀ i,i<3→(w.own i).ok=true) (a:Code) (ha:a=lp Tryz.f32 3):∀ (n i:Nat),i+n=3 →
  loopC E (ev E) 32 a { V:=[(1,adc 1),(11,.v .own false [.str w.file]),(172,.v m false [.sl (w.owns.map ownL)]),(173,vi 3),(174,vi i)],H:=[bxm (.c 1) m (worldL w)],ps:=[] } =
   if allTo (fun i=>allTo (heldAt w i) 48 0) n i=true then some (.exit 6,{ V:=[(1,adc 1),(11,.v .own false [.str w.file]),(172,.v m false [.sl (w.owns.map ownL)]),(173,vi 3),(174,vi 3),(175,vb false)],H:=[bxm (.c 1) m (worldL w)],ps:=[] })
   else some (.ret,{ V:=[(2,vb false)],H:=[],ps:=[] })
 | 0,i,h=>by
  rw [loopC_of _ _ _ _ ha]
  obtain rfl:i=3:=by omega
  simp [lp,loopsOf,Tryz.f32,allTo,hm]
 | n+1,i,h=>by
  have hi:i<3:=by omega
  have hI:(i:Int)<3:=by omega
  have hw:=wrapN i (by omega)
  have a1:i<w.owns.length:=by omega
  have a2:i<w.locks.length:=by have:=LP.len;omega
  have ho:w.own i=w.owns[i]:=getD_lt _ a1
  have hl:w.lock i=w.locks[i]:=getD_lt _ a2
  have ok:=ownOk_bd (hok i hi)
  have l1:=LP.r i hi
  have l2:=LP.w i hi
  have e1:w.locks.getD i noH=w.locks[i]:=getD_lt _ a2
  rw [e1] at l1 l2
  rw [ho] at ok
  have c1:=fun m=>of_sps m ok.2.1
  have c2:=fun m=>of_sps m ok.2.2.1
  have c3:=fun m=>of_sps m l2
  have c4:=fun m=>of_sps m l1
  have c5:=fun m m' m''=>put_or m m' m'' (inF w.locks[i].w) (inF w.locks[i].r)
  have ih:=lp_iWok3 m hm w LP h1 hok a ha n (i+1) (by omega)
  push_cast at ih
  have hin:=fun a ha=>lp_iWok4 m hm w i hi w.owns[i] ho ok.1 a ha 48 0 (by omega)
  push_cast at hin
  rw [hl] at hin
  rw [loopC_of _ _ _ _ ha,allTo]
  clear ha
  generalize allTo (fun i=>allTo (heldAt w i) 48 0) n (i+1)=r at ih ⊢
  generalize allTo (heldAt w i) 48 0=z at *
  simp [-shapeT,lp,loopsOf,Tryz.f32,hI,hw,hm,a1,a2,c1,c2,c3,c4,c5,pl_ff]
  rw [hin _ ?_]
  ·cases z<;>simp [hw,hm,ih]
  ·rfl
theorem ev_impl_WorldOk (m:M) (hm:m.isOwn=false) (w:WorldT) (C:WorldC w):ev E 32 [.v m true (worldL w)]=some (rB (worldOk w)):=by
 have c1:=fun m=>ev_impl_LayOk m w.size w.many
 have c2:=fun m hm=>ev_impl_StoreOk m hm w.st C.stC
 have c3:=fun m hm=>ev_impl_LockOk m hm w.locks C.locks C.holds
 have c4:=fun m hm=>ev_impl_StoreFall m hm w.st C.stC
 unfold worldOk countsOk
 cases e1:layOk w.size w.many
 ·rw [ev_fn Tryz.f32 rfl Tryz.func32 rfl rfl rfl (Nat.le_of_ble_eq_true rfl)]
  simp [c1,e1,hm]
 ·cases e2:storeOk w.st
  ·rw [ev_fn Tryz.f32 rfl Tryz.func32 rfl rfl rfl (Nat.le_of_ble_eq_true rfl)]
   simp [c1,c2,e1,e2,hm]
  ·cases e3:lockOk w.locks
   ·rw [ev_fn Tryz.f32 rfl Tryz.func32 rfl rfl rfl (Nat.le_of_ble_eq_true rfl)]
    simp [c1,c2,c3,e1,e2,e3,hm]
   ·cases e4:eqI w.owns.length 3
    ·rw [ev_fn Tryz.f32 rfl Tryz.func32 rfl rfl rfl (Nat.le_of_ble_eq_true rfl)]
     simp [c1,c2,c3,e1,e2,e3,e4,hm]
    ·cases e5:eqI w.epochs.length 3
     ·rw [ev_fn Tryz.f32 rfl Tryz.func32 rfl rfl rfl (Nat.le_of_ble_eq_true rfl)]
      simp [c1,c2,c3,e1,e2,e3,e4,e5,hm]
     ·cases e6:eqI w.alive.length 3
      ·rw [ev_fn Tryz.f32 rfl Tryz.func32 rfl rfl rfl (Nat.le_of_ble_eq_true rfl)]
       simp [c1,c2,c3,e1,e2,e3,e4,e5,e6,hm]
      ·cases e7:ltI 8 w.late.length
       ·have SP:=storeOk_iff.1 e2
        have LP:=lockOk_iff.1 e3
        have h1:=eqI3.1 e4
        have h2:=eqI3.1 e5
        have h3:=eqI3.1 e6
        have h1I:(w.owns.length:Int)=3:=by omega
        have h8:w.late.length≤8:=by rw [ltI_not] at e7;omega
        have FP:=fall_ok SP
        have c5:=fun m m' hm hm'=>ev_impl_StoreAll m m' hm hm' (storeFall w.st) w.kept FP.bd C.kept C.keptT
        rw [if_pos e2] at c4
        rw [if_pos (storeOk_iff.2 FP)] at c5
        simp only [rS1] at c4
        simp only [rStA] at c5
        have c6:=fun m m' hm hm'=>ev_impl_StoreSame m m' hm hm' (storeAll (storeFall w.st) w.kept).1 w.st C.st
        have c7:=fun m hm=>ev_stored m hm w e1 SP.now
        have hcl:=storeAll_len w.kept (storeFall w.st)
        have hcode:=storeAll_code w.kept (storeFall w.st)
        have l0:=lp_iWok0 m hm w C h1 h2 h3 SP.floors _ rfl 3 0 (by omega)
        push_cast at l0
        cases f1:allTo (ownAt w) 3 0
        ·rw [f1] at l0
         rw [ev_fn Tryz.f32 rfl Tryz.func32 rfl rfl rfl (Nat.le_of_ble_eq_true rfl)]
         simp [c1,c2,c3,e1,e2,e3,e4,e5,e6,e7,hm,h1I]
         rw [loopC_at ?_ l0]
         ·simp
         ·rfl
        ·have hok:∀ i,i<3→(w.own i).ok=true:=fun i hi=>by
          have:=(allTo_iff _ 3 0).1 f1 i (by omega) (by omega)
          simp only [ownAt,Bool.and_eq_true] at this
          exact this.1
         rw [f1] at l0
         have l1:=fun a ha=>lp_iWok1 m hm w (storeAll (storeFall w.st) w.kept).1 (storeAll (storeFall w.st) w.kept).2 hcl C.kept h2 hcode a ha w.kept.length 0 (by omega)
         have l2:=fun a ha=>lp_iWok2 m hm w h8 C.lateT SP.floors a ha w.late.length 0 (by omega)
         have l3:=fun a ha=>lp_iWok3 m hm w LP h1 hok a ha 3 0 (by omega)
         push_cast at l1 l2 l3
         simp only [List.drop_zero] at l1 l2
         clear hcode
         generalize storeAll (storeFall w.st) w.kept=z at *
         generalize keptF w w.kept z.2=g1 at *
         generalize sameStore z.1 w.st=g2 at *
         generalize w.late.all (lateAt w)=g3 at *
         generalize allTo (fun i=>allTo (heldAt w i) 48 0) 3 0=g4 at *
         rw [ev_fn Tryz.f32 rfl Tryz.func32 rfl rfl rfl (Nat.le_of_ble_eq_true rfl)]
         simp [c1,c2,c3,e1,e2,e3,e4,e5,e6,e7,hm,h1I]
         rw [loopC_at ?_ l0]
         ·simp [c4,c5,hm]
          rw [l1 _ ?_]
          ·cases g1
           ·simp
           ·simp [c6,hm]
            cases g2
            ·simp [c6,hm]
            ·simp [c6,hm]
             rw [l2 _ ?_]
             ·cases g3
              ·simp
              ·simp [c7,hm,h1I]
               rw [l3 _ ?_]
               ·cases g4<;>simp
               ·rfl
             ·rfl
          ·rfl
         ·rfl
       ·rw [ev_fn Tryz.f32 rfl Tryz.func32 rfl rfl rfl (Nat.le_of_ble_eq_true rfl)]
        simp [c1,c2,c3,e1,e2,e3,e4,e5,e6,e7,hm]
end Go.Ev

