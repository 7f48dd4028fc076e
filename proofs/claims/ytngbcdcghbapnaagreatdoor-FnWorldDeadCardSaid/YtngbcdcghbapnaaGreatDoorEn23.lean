/- My texts joined: EvT66. No condition. -/
import Derived.Test.YtngbcdcghbapnaaGreatDoorEn1
import Derived.Test.YtngbcdcghbapnaaGreatDoorEn2
import Derived.Test.YtngbcdcghbapnaaGreatDoorEn5
import Derived.Test.YtngbcdcghbapnaaGreatDoorEn6
import Derived.Test.YtngbcdcghbapnaaGreatDoorEn7
import Derived.Test.YtngbcdcghbapnaaGreatDoorEn8
import Derived.Test.YtngbcdcghbapnaaGreatDoorEn9
import Derived.Test.YtngbcdcghbapnaaGreatDoorEn11
import Derived.Test.YtngbcdcghbapnaaGreatDoorEn12
import Derived.Test.YtngbcdcghbapnaaGreatDoorEn13
import Derived.Test.YtngbcdcghbapnaaGreatDoorEn14
import Derived.Test.YtngbcdcghbapnaaGreatDoorEn16
import Derived.Test.YtngbcdcghbapnaaGreatDoorEn18
import Derived.Test.YtngbcdcghbapnaaGreatDoorEn19
import Derived.Test.YtngbcdcghbapnaaGreatDoorEn20
import Derived.Test.YtngbcdcghbapnaaGreatDoorEn22
set_option linter.unusedVariables false
set_option linter.unusedSimpArgs false

set_option maxRecDepth 100000
set_option maxHeartbeats 4000000
namespace Go.Ev
open Go.Proofs
def clr1 (x:Sp) (ys:List Sp):Bool:=ys.all fun y=>!ltI (meetS x y).1 (meetS x y).2
theorem lp_clear1 (m m':M) (xs ys:List Sp) (hx:xs.length≤4000000) (hy:ys.length≤4000000) (i:Nat) (hi:i<xs.length) (a:Code) (ha:a=lp Tryz.f221 1):∀ (n k:Nat),k+n=ys.length →
  loopC E (ev E) 221 a { V:=[(0,.v m false [.sl (xs.map spL)]),(1,.v m' false [.sl (ys.map spL)]),(5,vi i),(6,vi k)],H:=[],ps:=[] } =
   if clr1 xs[i] (ys.drop k)=true then some (.exit 2,{ V:=[(0,.v m false [.sl (xs.map spL)]),(1,.v m' false [.sl (ys.map spL)]),(5,vi i),(6,vi ys.length),(18,vb false)],H:=[],ps:=[] })
   else some (.ret,{ V:=[(4,vb false)],H:=[],ps:=[] })
 | 0,k,h=>by
  rw [loopC_of _ _ _ _ ha]
  obtain rfl:k=ys.length:=by omega
  simp [lp,loopsOf,Tryz.f221,clr1]
 | n+1,k,h=>by
  have hk:k<ys.length:=by omega
  have ih:=lp_clear1 m m' xs ys hx hy i hi a ha n (k+1) (by omega)
  push_cast at ih
  have hw:=wrapN k (by omega)
  have c1:=fun m m'=>ev_l1Meet m m' xs[i] ys[k]
  have hc:clr1 xs[i] (ys.drop k)=(!ltI (meetS xs[i] ys[k]).1 (meetS xs[i] ys[k]).2&&clr1 xs[i] (ys.drop (k+1))):=by
   rw [List.drop_eq_getElem_cons hk];rfl
  rw [loopC_of _ _ _ _ ha,hc]
  clear ha
  generalize clr1 xs[i] (ys.drop (k+1))=r at ih ⊢
  cases e1:ltI (meetS xs[i] ys[k]).1 (meetS xs[i] ys[k]).2
  ·simp only [e1,Bool.false_eq_true,if_false] at c1
   simp [lp,loopsOf,Tryz.f221,hi,hk,hw,c1,ih]
  ·simp only [e1,if_true] at c1
   simp [lp,loopsOf,Tryz.f221,hi,hk,hw,c1]
theorem lp_clear0 (m m':M) (xs ys:List Sp) (hx:xs.length≤4000000) (hy:ys.length≤4000000) (a:Code) (ha:a=lp Tryz.f221 0):∀ (n i:Nat),i+n=xs.length →
  loopC E (ev E) 221 a { V:=[(0,.v m false [.sl (xs.map spL)]),(1,.v m' false [.sl (ys.map spL)]),(5,vi i)],H:=[],ps:=[] } =
   if clearS (xs.drop i) ys=true then some (.exit 0,{ V:=[(0,.v m false [.sl (xs.map spL)]),(1,.v m' false [.sl (ys.map spL)]),(5,vi xs.length),(12,vb false)],H:=[],ps:=[] })
   else some (.ret,{ V:=[(4,vb false)],H:=[],ps:=[] })
 | 0,i,h=>by
  rw [loopC_of _ _ _ _ ha]
  obtain rfl:i=xs.length:=by omega
  simp [lp,loopsOf,Tryz.f221,clearS]
 | n+1,i,h=>by
  have hi:i<xs.length:=by omega
  have ih:=lp_clear0 m m' xs ys hx hy a ha n (i+1) (by omega)
  push_cast at ih
  have hw:=wrapN i (by omega)
  have hin:=fun a ha=>lp_clear1 m m' xs ys hx hy i hi a ha ys.length 0 (by omega)
  push_cast at hin
  have hc:clearS (xs.drop i) ys=(clr1 xs[i] ys&&clearS (xs.drop (i+1)) ys):=by
   rw [List.drop_eq_getElem_cons hi];rfl
  rw [loopC_of _ _ _ _ ha,hc]
  clear ha
  simp only [List.drop_zero] at hin
  generalize clearS (xs.drop (i+1)) ys=r at ih ⊢
  simp [lp,loopsOf,Tryz.f221,hi,hw]
  rw [hin _ ?_]
  ·cases clr1 xs[i] ys<;>simp [hw,ih]
  ·rfl
theorem ev_l4Clear (m m':M) (xs ys:List Sp) (hx:xs.length≤4000000) (hy:ys.length≤4000000):ev E 221 [.v m false [.sl (xs.map spL)],.v m' false [.sl (ys.map spL)]]=some (rB (clearS xs ys)):=by
 have l0:=fun a ha=>lp_clear0 m m' xs ys hx hy a ha xs.length 0 (by omega)
 push_cast at l0
 simp only [List.drop_zero] at l0
 rw [ev_fn Tryz.f221 rfl Tryz.func221 rfl rfl rfl (Nat.le_of_ble_eq_true rfl)]
 simp
 rw [l0 _ ?_]
 ·cases clearS xs ys<;>simp
 ·rfl
theorem lp_sLock1 (m:M) (hm:m.isOwn=false) (t:List HoldT) (hl:t.length=3) (hk:∀ h∈t,holdB h) (i:Nat) (hi:i<3) (a:Code) (ha:a=lp Tryz.f161 1):∀ (n k:Nat),k+n=3 →
  loopC E (ev E) 161 a { V:=[(0,.v m false [.sl (t.map holdL)]),(3,vi i),(4,vi k)],H:=[],ps:=[] } =
   if allTo (fun k=>(k==i) || (clearS (t.getD i noH).w (t.getD k noH).w&&clearS (t.getD i noH).w (t.getD k noH).r)) n k=true then some (.exit 2,{ V:=[(0,.v m false [.sl (t.map holdL)]),(3,vi i),(4,vi 3),(47,vb false)],H:=[],ps:=[] })
   else some (.ret,{ V:=[(2,vb false)],H:=[],ps:=[] })
 | 0,k,h=>by
  rw [loopC_of _ _ _ _ ha]
  obtain rfl:k=3:=by omega
  simp [lp,loopsOf,Tryz.f161,allTo,hl]
 | n+1,k,h=>by
  have hkt:k<t.length:=by omega
  have hit:i<t.length:=by omega
  have hK:(k:Int)<3:=by omega
  have hk3:k<3:=by omega
  have ih:=lp_sLock1 m hm t hl hk i hi a ha n (k+1) (by omega)
  push_cast at ih
  have hw:=wrapN k (by omega)
  have hB:=hk _ (List.getElem_mem hkt)
  have hB2:=hk _ (List.getElem_mem hit)
  have c1:=fun m m'=>ev_l4Clear m m' t[i].w t[k].w hB2.2 hB.2
  have c2:=fun m m'=>ev_l4Clear m m' t[i].w t[k].r hB2.2 hB.1
  have hin:eqI (k:Int) i=(k==i):=by rw [Bool.eq_iff_iff,eqI_iff,beq_iff_eq];omega
  rw [loopC_of _ _ _ _ ha,allTo]
  clear ha
  have hg:((k==i) || (clearS (t.getD i noH).w (t.getD k noH).w&&clearS (t.getD i noH).w (t.getD k noH).r))=(eqI (k:Int) i || (clearS t[i].w t[k].w&&clearS t[i].w t[k].r)):=by rw [hin,getD_lt _ hit,getD_lt _ hkt]
  rw [hg]
  generalize allTo (fun k=>(k==i) || (clearS (t.getD i noH).w (t.getD k noH).w&&clearS (t.getD i noH).w (t.getD k noH).r)) n (k+1)=r at ih ⊢
  clear hg hin
  have hl3:(t.length:Int)=3:=by omega
  cases e1:eqI (k:Int) i
  ·cases e2:clearS t[i].w t[k].w
   ·simp [lp,loopsOf,Tryz.f161,hl,hl3,hK,hk3,hkt,hit,hi,hw,hm,c1,e1,e2]
   ·cases e3:clearS t[i].w t[k].r<;>simp [lp,loopsOf,Tryz.f161,hl,hl3,hK,hk3,hkt,hit,hi,hw,hm,c1,c2,e1,e2,e3,ih]
  ·simp [lp,loopsOf,Tryz.f161,hl,hl3,hK,hk3,hkt,hit,hi,hw,hm,e1,ih]
theorem lp_sLock0 (m:M) (hm:m.isOwn=false) (t:List HoldT) (hl:t.length=3) (hk:∀ h∈t,holdB h) (a:Code) (ha:a=lp Tryz.f161 0):∀ (n i:Nat),i+n=3 →
  loopC E (ev E) 161 a { V:=[(0,.v m false [.sl (t.map holdL)]),(3,vi i)],H:=[],ps:=[] } =
   if allTo (lockAt t) n i=true then some (.exit 0,{ V:=[(0,.v m false [.sl (t.map holdL)]),(3,vi 3),(11,vb false)],H:=[],ps:=[] })
   else some (.ret,{ V:=[(2,vb false)],H:=[],ps:=[] })
 | 0,i,h=>by
  rw [loopC_of _ _ _ _ ha]
  obtain rfl:i=3:=by omega
  simp [lp,loopsOf,Tryz.f161,allTo,hl]
 | n+1,i,h=>by
  have hi:i<3:=by omega
  have hI:(i:Int)<3:=by omega
  have hit:i<t.length:=by omega
  have ih:=lp_sLock0 m hm t hl hk a ha n (i+1) (by omega)
  push_cast at ih
  have hw:=wrapN i (by omega)
  have hB:=hk _ (List.getElem_mem hit)
  have c1:=fun m=>ev_spec_SpansOk m t[i].r (by have:=hB.1;omega)
  have c2:=fun m=>ev_spec_SpansOk m t[i].w (by have:=hB.2;omega)
  have c3:=fun m m'=>ev_l4Clear m m' t[i].r t[i].w hB.1 hB.2
  have hin:=fun a ha=>lp_sLock1 m hm t hl hk i hi a ha 3 0 (by omega)
  push_cast at hin
  rw [loopC_of _ _ _ _ ha,allTo]
  clear ha
  have hg:lockAt t i=(spsOk t[i].r&&spsOk t[i].w&&clearS t[i].r t[i].w&&allTo (fun k=>(k==i) || (clearS (t.getD i noH).w (t.getD k noH).w&&clearS (t.getD i noH).w (t.getD k noH).r)) 3 0):=by rw [lockAt,getD_lt _ hit]
  rw [hg]
  clear hg
  generalize allTo (lockAt t) n (i+1)=r at ih ⊢
  generalize allTo (fun k=>(k==i) || (clearS (t.getD i noH).w (t.getD k noH).w&&clearS (t.getD i noH).w (t.getD k noH).r)) 3 0=z at hin ⊢
  cases e1:spsOk t[i].r
  ·simp [lp,loopsOf,Tryz.f161,hl,hI,hi,hit,hw,hm,c1,e1]
  ·cases e2:spsOk t[i].w
   ·simp [lp,loopsOf,Tryz.f161,hl,hI,hi,hit,hw,hm,c1,c2,e1,e2]
   ·cases e3:clearS t[i].r t[i].w
    ·simp [lp,loopsOf,Tryz.f161,hl,hI,hi,hit,hw,hm,c1,c2,c3,e1,e2,e3]
    ·simp [lp,loopsOf,Tryz.f161,hl,hI,hi,hit,hw,hm,c1,c2,c3,e1,e2,e3]
     rw [hin _ ?_]
     ·cases z<;>simp [hw,ih]
     ·rfl
theorem ev_spec_LockOk (m:M) (hm:m.isOwn=false) (t:List HoldT) (hb:t.length≤4000000) (hk:∀ h∈t,holdB h):ev E 161 [.v m false [.sl (t.map holdL)]]=some (rB (lockOk t)):=by
 rw [ev_fn Tryz.f161 rfl Tryz.func161 rfl rfl rfl (Nat.le_of_ble_eq_true rfl)]
 rw [lockOk]
 cases e1:eqI t.length 3
 ·simp [e1]
 ·have l0:=fun a ha=>lp_sLock0 m hm t (eqI3.1 e1) hk a ha 3 0 (by omega)
  push_cast at l0
  simp [e1]
  rw [l0 _ ?_]
  ·cases allTo (lockAt t) 3 0<;>simp
  ·rfl
theorem lp_l4Copy (m:M) (hm:m.isOwn=false) (t:List HoldT) (hb:t.length≤4000000) (hk:∀ h∈t,holdB h) (a:Code) (ha:a=lp Tryz.f157 0):∀ (n i:Nat) (out:List HoldT),i+n=t.length→out.length=i →
  loopC E (ev E) 157 a { V:=[(0,.v m false [.sl (t.map holdL)]),(3,at1 3),(4,vi i)],H:=[ow (.c 3) [.sl (out.map holdL)]],ps:=[] } =
   some (.exit 0,{ V:=[(0,.v m false [.sl (t.map holdL)]),(3,at1 3),(4,vi t.length),(9,vb false)],H:=[ow (.c 3) [.sl ((out++t.drop i).map holdL)]],ps:=[] })
 | 0,i,out,h,ho=>by
  rw [loopC_of _ _ _ _ ha]
  obtain rfl:i=t.length:=by omega
  simp [lp,loopsOf,Tryz.f157]
 | n+1,i,out,h,ho=>by
  have hlt:i<t.length:=by omega
  have hw:=wrapN i (by omega)
  have ih:=lp_l4Copy m hm t hb hk a ha n (i+1) (out++[t[i]]) (by omega) (by simp;omega)
  push_cast at ih
  have hB:=hk _ (List.getElem_mem hlt)
  have b1:=hB.1
  have b2:=hB.2
  have h1:(out.length+1)*48≤17592186044416:=by omega
  have h2:out.length+1≤17592186044416:=by omega
  have h3:t[i].r.length*16≤17592186044416:=by omega
  have h4:t[i].r.length≤17592186044416:=by omega
  have h5:t[i].w.length*16≤17592186044416:=by omega
  have h6:t[i].w.length≤17592186044416:=by omega
  rw [loopC_of _ _ _ _ ha,List.drop_eq_getElem_cons hlt]
  clear ha
  simp [lp,loopsOf,Tryz.f157,hlt,hw,hm,h1,h2,h3,h4,h5,h6]
  simpa using ih
theorem ev_l4Copy (m:M) (hm:m.isOwn=false) (t:List HoldT) (hb:t.length≤4000000) (hk:∀ h∈t,holdB h):ev E 157 [.v m false [.sl (t.map holdL)]]=some { rs:=[.v .own false [.sl (t.map holdL)]],outs:=[] }:=by
 have l0:=lp_l4Copy m hm t hb hk _ rfl t.length 0 [] (by omega) rfl
 push_cast at l0
 simp only [List.drop_zero,List.nil_append,List.map_nil] at l0
 rw [ev_fn Tryz.f157 rfl Tryz.func157 rfl rfl rfl (Nat.le_of_ble_eq_true rfl)]
 simp
 rw [loopC_at ?_ l0]
 ·simp
 ·rfl
theorem set_bd {t:List HoldT} (hk:∀ h∈t,holdB h) (i:Nat) {h:HoldT} (hh:holdB h):∀ x∈t.set i h,holdB x:=fun x hx=>by
 rcases List.mem_or_eq_of_mem_set hx with hx | rfl
 ·exact hk x hx
 ·exact hh
theorem ev_l4Put (m m1 m2:M) (hm:m.isOwn=false) (hm2:m2.isOwn=false) (t:List HoldT) (hb:t.length≤4000000) (hk:∀ h∈t,holdB h) (i:Nat) (hi:i<t.length) (h:HoldT) (hh:holdB h) :
  ev E 249 [.v m false [.sl (t.map holdL)],.v m1 false [.int .i64 i],.v m2 true (holdL h)]=some (rLk (putL t i h).1 (putL t i h).2):=by
 have c1:=fun m hm=>ev_l4Copy m hm t hb hk
 have c2:=fun m hm=>ev_l4Copy m hm (t.set i h) (by simpa using hb) (set_bd hk i hh)
 have c3:=fun m hm=>ev_spec_LockOk m hm (t.set i h) (by simpa using hb) (set_bd hk i hh)
 simp only [List.map_set] at c2 c3
 rw [putL_or]
 rw [ev_fn Tryz.f249 rfl Tryz.func249 rfl rfl rfl (Nat.le_of_ble_eq_true rfl)]
 cases e1:lockOk (t.set i h)<;>simp [c1,c2,c3,e1,hm,hm2,hi,rLk,List.map_set]
theorem lp_l4May (m m1:M) (hm:m.isOwn=false) (h:HoldT) (hb:holdB h) (write:Bool) (s:Sp) (hi:Nat) (hs:s.2=hi) (h48:hi≤48) (a:Code) (ha:a=lp Tryz.f168 0):∀ (n i:Nat),i+n=hi →
  loopC E (ev E) 168 a { V:=[(1,.v m1 false [.bool write]),(3,adc 3),(5,adc 5),(7,vi i)],H:=[bxm (.c 3) m (holdL h),bx (.c 5) (spL s)],ps:=[] } =
   if allTo (mayAt h write) n i=true then some (.exit 0,{ V:=[(1,.v m1 false [.bool write]),(3,adc 3),(5,adc 5),(7,vi hi),(13,vb false)],H:=[bxm (.c 3) m (holdL h),bx (.c 5) (spL s)],ps:=[] })
   else some (.ret,{ V:=[(6,vb false)],H:=[],ps:=[] })
 | 0,i,h0=>by
  rw [loopC_of _ _ _ _ ha]
  obtain rfl:i=hi:=by omega
  simp [lp,loopsOf,Tryz.f168,allTo,hs]
 | n+1,i,h0=>by
  have hlt:i<hi:=by omega
  have ih:=lp_l4May m m1 hm h hb write s hi hs h48 a ha n (i+1) (by omega)
  push_cast at ih
  have hw:=wrapN i (by omega)
  have c1:∀ m m',ev E 167 [.v m false [.sl (h.w.map spL)],.v m' false [.int .i64 i]]=some (rB (inF h.w i)):=fun m m'=>ev_spec_l1In m m' h.w i (by have:=hb.2;omega)
  have c2:∀ m m',ev E 167 [.v m false [.sl (h.r.map spL)],.v m' false [.int .i64 i]]=some (rB (inF h.r i)):=fun m m'=>ev_spec_l1In m m' h.r i (by have:=hb.1;omega)
  rw [loopC_of _ _ _ _ ha,allTo,mayAt]
  clear ha
  generalize allTo (mayAt h write) n (i+1)=r at ih ⊢
  cases e1:inF h.w i
  ·cases write
   ·cases e2:inF h.r i<;>simp [lp,loopsOf,Tryz.f168,hs,hlt,hw,hm,c1,c2,e1,e2,ih]
   ·simp [lp,loopsOf,Tryz.f168,hs,hlt,hw,hm,c1,c2,e1,ih]
  ·simp [lp,loopsOf,Tryz.f168,hs,hlt,hw,hm,c1,c2,e1,ih]
theorem ev_l4May (m m1 m2:M) (hm:m.isOwn=false) (h:HoldT) (hb:holdB h) (write:Bool) (s:Sp) (h1:0≤s.1) (h2:s.1≤s.2) (h3:s.2≤48) :
  ev E 168 [.v m true (holdL h),.v m1 false [.bool write],.v m2 true (spL s)]=some (rB (lockMay h write s)):=by
 obtain ⟨lo,hlo⟩:∃ lo:Nat,s.1=lo:=⟨s.1.toNat,by omega⟩
 obtain ⟨hi,hhi⟩:∃ hi:Nat,s.2=hi:=⟨s.2.toNat,by omega⟩
 have l0:=lp_l4May m m1 hm h hb write s hi hhi (by omega) _ rfl (hi - lo) lo (by omega)
 have e:lockMay h write s=allTo (mayAt h write) (hi - lo) lo:=by
  unfold lockMay
  rw [hlo,hhi]
  congr 1
  omega
 rw [e]
 rw [ev_fn Tryz.f168 rfl Tryz.func168 rfl rfl rfl (Nat.le_of_ble_eq_true rfl)]
 simp [hm,hlo]
 rw [loopC_at ?_ l0]
 ·cases allTo (mayAt h write) (hi - lo) lo<;>simp
 ·rfl
theorem lp_l4Bars (m m1 m2:M) (hm:m.isOwn=false) (t:List HoldT) (hl:t.length=3) (hk:∀ h∈t,holdB h) (who:Nat) (write:Bool) (s:Sp) (a:Code) (ha:a=lp Tryz.f250 0):∀ (n i:Nat) (out:List Int),i+n=3→out.length≤i →
  loopC E (ev E) 250 a { V:=[(0,.v m false [.sl (t.map holdL)]),(1,.v m1 false [.int .i64 who]),(2,.v m2 false [.bool write]),(9,at1 9),(10,at1 10),(11,vi i)],H:=[ow (.c 9) [.sl (intsL out)],ow (.c 10) [.sl [spL s]]],ps:=[] } =
   some (.exit 0,{ V:=[(0,.v m false [.sl (t.map holdL)]),(1,.v m1 false [.int .i64 who]),(2,.v m2 false [.bool write]),(9,at1 9),(10,at1 10),(11,vi 3),(18,vb false)],H:=[ow (.c 9) [.sl (intsL (out++barsF (barsAt t who write s) n i))],ow (.c 10) [.sl [spL s]]],ps:=[] })
 | 0,i,out,h,ho=>by
  rw [loopC_of _ _ _ _ ha]
  obtain rfl:i=3:=by omega
  simp [lp,loopsOf,Tryz.f250,barsF,hl]
 | n+1,i,out,h,ho=>by
  have hi:i<3:=by omega
  have hI:(i:Int)<3:=by omega
  have hit:i<t.length:=by omega
  have hw:=wrapN i (by omega)
  have hB:=hk _ (List.getElem_mem hit)
  have c1:=fun m m'=>ev_l4Clear m m' t[i].w [s] hB.2 (by simp)
  have c2:=fun m m'=>ev_l4Clear m m' t[i].r [s] hB.1 (by simp)
  simp only [List.map_cons,List.map_nil] at c1 c2
  have hin:eqI (i:Int) who=(i==who):=by rw [Bool.eq_iff_iff,eqI_iff,beq_iff_eq];omega
  have hba:barsAt t who write s i=(!eqI (i:Int) who&&(!clearS t[i].w [s] || (write&&!clearS t[i].r [s]))):=by rw [barsAt,hin,getD_lt _ hit]
  have h1:(out.length+1)*8≤17592186044416:=by omega
  have h2:out.length+1≤17592186044416:=by omega
  rw [barsF]
  have ih0:=lp_l4Bars m m1 m2 hm t hl hk who write s a ha n (i+1) out (by omega) (by omega)
  have ih1:=lp_l4Bars m m1 m2 hm t hl hk who write s a ha n (i+1) (out++[(i:Int)]) (by omega) (by simp;omega)
  push_cast at ih0 ih1
  rw [loopC_of _ _ _ _ ha]
  clear ha
  generalize barsF (barsAt t who write s) n (i+1)=tl at *
  generalize barsAt t who write s i=ba at *
  clear hin
  subst hba
  cases e1:eqI (i:Int) who
  ·cases e2:clearS t[i].w [s]
   ·simp [lp,loopsOf,Tryz.f250,hl,hI,hi,hit,hw,hm,c1,e1,e2,h1,h2]
    simpa using ih1
   ·cases write
    ·simp [lp,loopsOf,Tryz.f250,hl,hI,hi,hit,hw,hm,c1,c2,e1,e2,h1,h2]
     simpa using ih0
    ·cases e3:clearS t[i].r [s]
     ·simp [lp,loopsOf,Tryz.f250,hl,hI,hi,hit,hw,hm,c1,c2,e1,e2,e3,h1,h2]
      simpa using ih1
     ·simp [lp,loopsOf,Tryz.f250,hl,hI,hi,hit,hw,hm,c1,c2,e1,e2,e3,h1,h2]
      simpa using ih0
  ·simp [lp,loopsOf,Tryz.f250,hl,hI,hi,hit,hw,hm,e1,h1,h2]
   simpa using ih0
theorem ev_l4Bars (m m1 m2 m3:M) (hm:m.isOwn=false) (t:List HoldT) (hl:t.length=3) (hk:∀ h∈t,holdB h) (who:Int) (hw:whoOk who=true) (write:Bool) (s:Sp) :
  ev E 250 [.v m false [.sl (t.map holdL)],.v m1 false [.int .i64 who],.v m2 false [.bool write],.v m3 true (spL s)]=some { rs:=[.v .own false [.sl (intsL (barsL t who write s))]],outs:=[] }:=by
 obtain ⟨i,hi,rfl⟩:=who_nat hw
 have l0:=lp_l4Bars m m1 m2 hm t hl hk i write s _ rfl 3 0 [] (by omega) (by simp)
 push_cast at l0
 rw [barsF_eq] at l0
 simp only [List.nil_append,List.map_nil] at l0
 rw [ev_fn Tryz.f250 rfl Tryz.func250 rfl rfl rfl (Nat.le_of_ble_eq_true rfl)]
 simp
 rw [loopC_at ?_ l0]
 ·simp [barsL,lockBars]
 ·rfl
end Go.Ev

