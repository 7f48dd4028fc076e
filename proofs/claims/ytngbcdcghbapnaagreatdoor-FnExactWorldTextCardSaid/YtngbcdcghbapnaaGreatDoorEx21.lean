/- My texts joined: EvT96, EvT44, EvT89, EvT91, EvT94, EvT103. No condition. -/
import Derived.Test.YtngbcdcghbapnaaGreatDoorEx1
import Derived.Test.YtngbcdcghbapnaaGreatDoorEx2
import Derived.Test.YtngbcdcghbapnaaGreatDoorEx5
import Derived.Test.YtngbcdcghbapnaaGreatDoorEx6
import Derived.Test.YtngbcdcghbapnaaGreatDoorEx7
import Derived.Test.YtngbcdcghbapnaaGreatDoorEx8
import Derived.Test.YtngbcdcghbapnaaGreatDoorEx9
import Derived.Test.YtngbcdcghbapnaaGreatDoorEx10
import Derived.Test.YtngbcdcghbapnaaGreatDoorEx11
import Derived.Test.YtngbcdcghbapnaaGreatDoorEx13
import Derived.Test.YtngbcdcghbapnaaGreatDoorEx14
import Derived.Test.YtngbcdcghbapnaaGreatDoorEx15
import Derived.Test.YtngbcdcghbapnaaGreatDoorEx16
import Derived.Test.YtngbcdcghbapnaaGreatDoorEx18
import Derived.Test.YtngbcdcghbapnaaGreatDoorEx19
import Derived.Test.YtngbcdcghbapnaaGreatDoorEx20
set_option linter.unusedVariables false
set_option linter.unusedSimpArgs false

set_option maxRecDepth 100000
set_option maxHeartbeats 8000000
namespace Go.Ev
open Go.Proofs
theorem overAll_len (t:Bs):∀ (ds:List Sp) (s:Bs),(∀ d∈ds,0≤d.1∧d.1<d.2∧d.2≤48)→t.length=48→s.length=48→(overAll t ds s).length=48:=fun ds s hd ht hs=>(overAll_get t ht ds s hd hs).1
theorem lp_l7Text1 (m:M) (hm:m.isOwn=false) (w:WorldT) (i:Nat) (hi:i<w.owns.length) (hd:∀ d∈w.owns[i].d,0≤d.1∧d.1<d.2∧d.2≤48) (hN:w.owns[i].d.length≤4000000) (ht:w.owns[i].t.length=48) (a:Code) (ha:a=lp Tryz.f73 1):∀ (n k:Nat) (m0:M) (s:Bs),k+n=w.owns[i].d.length→s.length=48 →
  ∃ m0',loopC E (ev E) 73 a { V:=[(1,adc 1),(3,.v m0 false [.str s]),(4,vi i),(5,vi k)],H:=[bxm (.c 1) m (worldL w)],ps:=[] } =
   some (.exit 2,{ V:=[(1,adc 1),(3,.v m0' false [.str (overAll w.owns[i].t (w.owns[i].d.drop k) s)]),(4,vi i),(5,vi w.owns[i].d.length),(24,vb false)],H:=[bxm (.c 1) m (worldL w)],ps:=[] })
 | 0,k,m0,s,h,hs=>by
  refine ⟨m0,?_⟩
  rw [loopC_of _ _ _ _ ha]
  obtain rfl:k=w.owns[i].d.length:=by omega
  simp [lp,loopsOf,Tryz.f73,overAll,hm,hi]
 | n+1,k,m0,s,h,hs=>by
  have hlt:k<w.owns[i].d.length:=by omega
  have hw:=wrapN k (by omega)
  have h0:=hd _ (List.getElem_mem hlt)
  have hov:(overS s w.owns[i].d[k] (subS w.owns[i].t w.owns[i].d[k])).length=48:=by
   have:=overAll_len w.owns[i].t [w.owns[i].d[k]] s (fun d hd=>by rw [List.mem_singleton.1 hd];exact h0) ht hs
   simpa [overAll] using this
  obtain ⟨m0',ih⟩:=lp_l7Text1 m hm w i hi hd hN ht a ha n (k+1) .own _ (by omega) hov
  refine ⟨m0',?_⟩
  push_cast at ih
  have hsl:(subS w.owns[i].t w.owns[i].d[k]).length≤4000000:=by simp [subS];omega
  have c1:=fun m m' m''=>ev_l6Over m m' m'' s (subS w.owns[i].t w.owns[i].d[k]) w.owns[i].d[k] (by omega) (by omega) (by omega) (by omega) (by omega) hsl
  rw [loopC_of _ _ _ _ ha,List.drop_eq_getElem_cons hlt,overAll]
  clear ha hov hsl
  have q1:w.owns[i].d[k].1≤(w.owns[i].d[k].2.toNat:Int):=by omega
  have q3:w.owns[i].d[k].1.toNat≤w.owns[i].d[k].2.toNat:=by omega
  have q4:max w.owns[i].d[k].2 0=w.owns[i].d[k].2:=by omega
  have q5:0≤w.owns[i].d[k].2:=by omega
  have q6:w.owns[i].d[k].1≤w.owns[i].d[k].2:=by omega
  simp only [subS] at c1 ih ⊢
  simp [lp,loopsOf,Tryz.f73,hm,hi,hlt,hw,ht,h0,c1,q1,q3,q4,q5,q6]
  exact ih
theorem lp_l7Text0 (m:M) (hm:m.isOwn=false) (w:WorldT) (hw3:w.owns.length=3) (hok:∀ i,i<3→(w.own i).ok=true) (a:Code) (ha:a=lp Tryz.f73 0):∀ (n i:Nat) (m0:M) (s:Bs),i+n=w.owns.length→s.length=48 →
  ∃ m0',loopC E (ev E) 73 a { V:=[(1,adc 1),(3,.v m0 false [.str s]),(4,vi i)],H:=[bxm (.c 1) m (worldL w)],ps:=[] } =
   some (.exit 0,{ V:=[(1,adc 1),(3,.v m0' false [.str (textF (w.owns.drop i) s)]),(4,vi w.owns.length),(13,vb false)],H:=[bxm (.c 1) m (worldL w)],ps:=[] })
 | 0,i,m0,s,h,hs=>by
  refine ⟨m0,?_⟩
  rw [loopC_of _ _ _ _ ha]
  obtain rfl:i=w.owns.length:=by omega
  simp [lp,loopsOf,Tryz.f73,textF,hm]
 | n+1,i,m0,s,h,hs=>by
  have hi:i<w.owns.length:=by omega
  have hwr:=wrapN i (by omega)
  have ok:=hok i (by omega)
  rw [show w.own i=w.owns[i] from getD_lt _ hi] at ok
  have b:=ownOk_bd ok
  have hd:=spsOk_sp b.2.2.1
  have hN:=spsOk_len b.2.2.1
  have hov:=overAll_len w.owns[i].t w.owns[i].d s (fun d hq=>hd d hq) b.1 hs
  obtain ⟨m1,l1⟩:=lp_l7Text1 m hm w i hi (fun d hq=>hd d hq) (by omega) b.1 _ rfl w.owns[i].d.length 0 m0 s (by omega) hs
  obtain ⟨m0',ih⟩:=lp_l7Text0 m hm w hw3 hok a ha n (i+1) m1 _ (by omega) hov
  refine ⟨m0',?_⟩
  push_cast at ih l1
  simp only [List.drop_zero] at l1
  rw [loopC_of _ _ _ _ ha,List.drop_eq_getElem_cons hi,textF]
  clear ha
  simp [lp,loopsOf,Tryz.f73,hm,hi]
  rw [loopC_at ?_ l1]
  ·simp [hwr,hm]
   exact ih
  ·rfl
theorem ev_l7Text (m:M) (hm:m.isOwn=false) (w:WorldT) (h:WorldP w):ev E 73 [.v m true (worldL w)]=some { rs:=[.v .own false [.str w.text]],outs:=[] }:=by
 have c1:=fun m hm=>ev_l7File m hm w (layOk_iff.2 h.lay) h.st.now
 obtain ⟨m0',l0⟩:=lp_l7Text0 m hm w h.owns h.own _ rfl w.owns.length 0 .own w.file (by omega) (file_len w)
 push_cast at l0
 simp only [List.drop_zero] at l0
 unfold WorldT.text
 generalize textF w.owns w.file=r at *
 rw [ev_fn Tryz.f73 rfl Tryz.func73 rfl rfl rfl (Nat.le_of_ble_eq_true rfl)]
 simp [hm,c1]
 rw [loopC_at ?_ l0]
 ·simp
 ·rfl
theorem lp_iText1 (m:M) (w:WorldT) (i:Nat) (t:Bs) (ht:t.length=48) (ds:List Sp) (hd:∀ d∈ds,0≤d.1∧d.1<d.2∧d.2≤48) (hN:ds.length≤4000000) (a:Code) (ha:a=lp Tryz.f24 1):∀ (n k:Nat) (s:Bs),k+n=ds.length→s.length=48 →
  loopC E (ev E) 24 a { V:=[(3,at1 3),(15,.v m false [.sl (w.owns.map ownL)]),(16,vi w.owns.length),(17,vi i),(23,at1 23),(24,vi ds.length),(25,vi k)],H:=[ow (.c 3) [.sl (rowsOfBytes s)],ow (.c 23) [.sl ((ds.map fun d=>(d.1,subS t d)).map ptL)]],ps:=[] } =
   some (.exit 2,{ V:=[(3,at1 3),(15,.v m false [.sl (w.owns.map ownL)]),(16,vi w.owns.length),(17,vi i),(23,at1 23),(24,vi ds.length),(25,vi ds.length),(26,vb false)],H:=[ow (.c 3) [.sl (rowsOfBytes (overAll t (ds.drop k) s))],ow (.c 23) [.sl ((ds.map fun d=>(d.1,subS t d)).map ptL)]],ps:=[] })
 | 0,k,s,h,hs=>by
  rw [loopC_of _ _ _ _ ha]
  obtain rfl:k=ds.length:=by omega
  simp [lp,loopsOf,Tryz.f24,overAll]
 | n+1,k,s,h,hs=>by
  have hlt:k<ds.length:=by omega
  have hw:=wrapN k (by omega)
  have h0:=hd _ (List.getElem_mem hlt)
  have hov:(overS s ds[k] (subS t ds[k])).length=48:=by
   have:=overAll_len t [ds[k]] s (fun d hd=>by rw [List.mem_singleton.1 hd];exact h0) ht hs
   simpa [overAll] using this
  have ih:=lp_iText1 m w i t ht ds hd hN a ha n (k+1) _ (by omega) hov
  push_cast at ih
  rw [loopC_of _ _ _ _ ha,List.drop_eq_getElem_cons hlt,overAll]
  clear ha hov
  obtain ⟨lo,hlo⟩:∃ lo:Nat,ds[k].1=lo:=⟨ds[k].1.toNat,by omega⟩
  have hxl:(subS t ds[k]).length=(ds[k].2 - ds[k].1).toNat:=by simp [subS];omega
  have hp:ds[k]=((lo:Int),(lo:Int)+(subS t ds[k]).length):=by
   apply Prod.ext
   ·exact hlo
   ·dsimp only;omega
  have hgp:((ds.map fun d=>(d.1,subS t d)).map ptL)[k]?=some [.int .i64 lo,.str (subS t ds[k])]:=by
   rw [List.getElem?_map,List.getElem?_map,List.getElem?_eq_getElem hlt]
   simp only [Option.map_some,ptL,hlo]
  have ho:=rows_over s (subS t ds[k]) lo
  rw [← hp] at ho
  have hr:=rows_one s
  have hl:=rows_len s
  have hlx:=rows_len (subS t ds[k])
  have hxt:(subS t ds[k]).take (48 - lo)=subS t ds[k]:=List.take_of_length_le (by omega)
  have q1:lo<48:=by omega
  have q2:(lo:Int)≤48:=by omega
  generalize overS s ds[k] (subS t ds[k])=z at *
  generalize subS t ds[k]=x at *
  have hll:((ds.map fun d=>(d.1,subS t d)).map ptL).length=ds.length:=by simp
  generalize (ds.map fun d=>(d.1,subS t d)).map ptL=ps at *
  generalize rowsOfBytes s=ys at *
  have hx0:0<x.length:=by omega
  have hks:k<ps.length:=by omega
  have hgp':ps[k]=[.int .i64 lo,.str x]:=by
   rw [List.getElem?_eq_getElem hks] at hgp
   exact Option.some.inj hgp
  simp [lp,loopsOf,Tryz.f24,hlt,hks,hgp',hw,hl,hs,hxt,hlx,q1,q2,ho,eq_true hr,Nat.le_of_lt q1]
  exact ih
theorem lp_iText0 (m:M) (hm:m.isOwn=false) (w:WorldT) (hw3:w.owns.length=3) (hok:∀ i,i<3→(w.own i).ok=true) (a:Code) (ha:a=lp Tryz.f24 0):∀ (n i:Nat) (s:Bs),i+n=w.owns.length→s.length=48 →
  loopC E (ev E) 24 a { V:=[(3,at1 3),(15,.v m false [.sl (w.owns.map ownL)]),(16,vi w.owns.length),(17,vi i)],H:=[ow (.c 3) [.sl (rowsOfBytes s)]],ps:=[] } =
   some (.exit 0,{ V:=[(3,at1 3),(15,.v m false [.sl (w.owns.map ownL)]),(16,vi w.owns.length),(17,vi w.owns.length),(18,vb false)],H:=[ow (.c 3) [.sl (rowsOfBytes (textF (w.owns.drop i) s))]],ps:=[] })
 | 0,i,s,h,hs=>by
  rw [loopC_of _ _ _ _ ha]
  obtain rfl:i=w.owns.length:=by omega
  simp [lp,loopsOf,Tryz.f24,textF]
 | n+1,i,s,h,hs=>by
  have hi:i<w.owns.length:=by omega
  have hwr:=wrapN i (by omega)
  have ok:=hok i (by omega)
  rw [show w.own i=w.owns[i] from getD_lt _ hi] at ok
  have b:=ownOk_bd ok
  have hd:=spsOk_sp b.2.2.1
  have hN:=spsOk_len b.2.2.1
  have hov:=overAll_len w.owns[i].t w.owns[i].d s (fun d hq=>hd d hq) b.1 hs
  have c1:=fun m m' hm=>ev_OwnPatches m m' hm w.owns[i].t w.owns[i].h w.owns[i].d whole (OwnT.owB ok)
  have hpt:patI w.owns[i].t w.owns[i].h w.owns[i].d whole=w.owns[i].d.map fun d=>(d.1,subS w.owns[i].t d):=by
   have ok':ownOk w.owns[i].t w.owns[i].h w.owns[i].d=true:=ok
   simp only [patI,ok',whole_ok,if_true]
   exact patF_self _ _ hd
  rw [hpt] at c1
  have hsp:spL whole=[.int .i64 0,.int .i64 48]:=rfl
  rw [hsp] at c1
  have l1:=lp_iText1 m w i w.owns[i].t b.1 w.owns[i].d (fun d hq=>hd d hq) (by omega) _ rfl w.owns[i].d.length 0 s (by omega) hs
  have ih:=lp_iText0 m hm w hw3 hok a ha n (i+1) _ (by omega) hov
  push_cast at ih l1
  simp only [List.drop_zero] at l1
  have hpl:((w.owns[i].d.map fun d=>(d.1,subS w.owns[i].t d)).map ptL).length=w.owns[i].d.length:=by simp
  rw [loopC_of _ _ _ _ ha,List.drop_eq_getElem_cons hi,textF]
  clear ha
  generalize (w.owns[i].d.map fun d=>(d.1,subS w.owns[i].t d)).map ptL=ps at *
  simp [lp,loopsOf,Tryz.f24,hm,hi,c1,hpl]
  rw [loopC_at ?_ l1]
  ·simp [hwr,hm]
   exact ih
  ·rfl
theorem ev_iText (m:M) (hm:m.isOwn=false) (w:WorldT) (C:WorldC w):ev E 24 [.v m true (worldL w)]=some { rs:=[.v .own false [.str (if worldOk w=true then w.text else [])]],outs:=[] }:=by
 have c0:=fun m hm=>ev_impl_WorldOk m hm w C
 cases e:worldOk w
 ·rw [ev_fn Tryz.f24 rfl Tryz.func24 rfl rfl rfl (Nat.le_of_ble_eq_true rfl)]
  simp [c0,e,hm]
 ·have h:=worldOk_iff.1 e
  have c1:=fun m hm=>ev_stored m hm w (layOk_iff.2 h.lay) h.st.now
  have l0:=lp_iText0 m hm w h.owns h.own _ rfl w.owns.length 0 w.file (by omega) (file_len w)
  push_cast at l0
  simp only [List.drop_zero] at l0
  have hfl:=file_len w
  have hfn:¬ w.file=[]:=fun q=>by rw [q] at hfl;simp at hfl
  have htl:=h.textGet.1
  unfold WorldT.text at htl ⊢
  simp only [if_true]
  generalize textF w.owns w.file=r at *
  generalize w.file=fl at *
  rw [ev_fn Tryz.f24 rfl Tryz.func24 rfl rfl rfl (Nat.le_of_ble_eq_true rfl)]
  simp [c0,c1,e,hm,hfl,hfn]
  rw [loopC_at ?_ l0]
  ·simp [htl,bytes_rows]
  ·rfl
theorem ev_sText (m:M) (hm:m.isOwn=false) (w:WorldT) (C:WorldC w):ev E 26 [.v m true (worldL w)]=some { rs:=[.v .own false [.str (if worldOk w=true then w.text else [])]],outs:=[] }:=by
 have c0:=fun m hm=>ev_spec_WorldOk m hm w C
 cases e:worldOk w
 ·rw [ev_fn Tryz.f26 rfl Tryz.func26 rfl rfl rfl (Nat.le_of_ble_eq_true rfl)]
  simp [c0,e,hm]
 ·have h:=worldOk_iff.1 e
  have c1:=fun m hm=>ev_l7Text m hm w h
  rw [ev_fn Tryz.f26 rfl Tryz.func26 rfl rfl rfl (Nat.le_of_ble_eq_true rfl)]
  simp [c0,c1,e,hm]
end Go.Ev


namespace Go.Ev
def OwRo (m:M):Prop:=m=.own∨m=.ro∨m=.tn
end Go.Ev


set_option maxRecDepth 100000
set_option maxHeartbeats 40000000
namespace Go.Ev
open Go.Proofs
structure StoreK (n:Nat) (s:StoreT):Prop where
 now:s.now.length≤n
 sure:s.sure.length≤n
 last:s.last.length≤n
 slast:s.slast.length≤n
 floors:s.floors.length≤n
 nowT:∀ x∈s.now,x.length≤n
 sureT:∀ x∈s.sure,x.length≤n
theorem StoreK.c {n:Nat} {s:StoreT} (h:StoreK n s) (hn:n≤4000000):StoreC s :=
 ⟨⟨by have:=h.now;omega,by have:=h.sure;omega,by have:=h.last;omega,by have:=h.slast;omega,by have:=h.floors;omega⟩,fun x hx=>by have:=h.nowT x hx;omega,fun x hx=>by have:=h.sureT x hx;omega⟩
end Go.Ev


set_option maxRecDepth 100000
set_option maxHeartbeats 8000000
namespace Go.Ev
open Go.Proofs
def OwR2 (m:M):Prop:=m=.own∨m=.ro
theorem OwR2.o {m:M} (h:OwR2 m):OwRo m:=h.imp_right .inl
end Go.Ev


set_option maxRecDepth 100000
set_option maxHeartbeats 40000000
namespace Go.Ev
open Go.Proofs
structure WorldK (n lo:Nat) (w:WorldT):Prop where
 st:StoreK n w.st
 locks:lo≤w.locks.length∧w.locks.length≤n
 holds:∀ h∈w.locks,h.r.length≤n∧h.w.length≤n
 owns:w.owns.length=3
 owned:∀ o∈w.owns,o.t.length≤n∧o.h.length≤n∧o.d.length≤n
 epochs:w.epochs.length=3
 alive:w.alive.length≤n
 kept:w.kept.length≤n
 late:w.late.length≤n
 keptT:∀ q∈w.kept,q.data.length≤n
 lateT:∀ q∈w.late,q.data.length≤n
theorem StoreK.mono {n n':Nat} {s:StoreT} (h:StoreK n s) (hn:n≤n'):StoreK n' s :=
 ⟨by have:=h.now;omega,by have:=h.sure;omega,by have:=h.last;omega,by have:=h.slast;omega,by have:=h.floors;omega,fun x hx=>by have:=h.nowT x hx;omega,fun x hx=>by have:=h.sureT x hx;omega⟩
theorem WorldK.mono {n n' lo:Nat} {w:WorldT} (h:WorldK n lo w) (hn:n≤n'):WorldK n' lo w :=
 ⟨h.st.mono hn,⟨h.locks.1,by have:=h.locks.2;omega⟩,fun x hx=>by have:=h.holds x hx;omega,h.owns,fun x hx=>by have:=h.owned x hx;omega,h.epochs,by have:=h.alive;omega,by have:=h.kept;omega,by have:=h.late;omega,fun x hx=>by have:=h.keptT x hx;omega,fun x hx=>by have:=h.lateT x hx;omega⟩
theorem WorldK.c {n lo:Nat} {w:WorldT} (h:WorldK n lo w) (hn:n≤4000000):WorldC w :=
 ⟨⟨(h.st.c hn).toStoreB,by have:=h.locks.2;omega,fun x hx=>by have:=h.holds x hx;exact ⟨by omega,by omega⟩,by have:=h.owns;omega,fun x hx=>by have:=h.owned x hx;exact ⟨by omega,by omega⟩,by have:=h.epochs;omega,by have:=h.alive;omega,by have:=h.kept;omega,by have:=h.late;omega⟩,h.st.c hn,fun x hx=>by have:=h.owned x hx;omega,fun x hx=>by have:=h.keptT x hx;omega,fun x hx=>by have:=h.lateT x hx;omega⟩
theorem StoreP.k {s:StoreT} (h:StoreP s):StoreK 10000 s :=
 ⟨by have:=h.now;omega,by have:=h.sure;omega,by have:=h.last;omega,by have:=h.slast;omega,by have:=h.floors;omega,fun x hx=>by have:=txtOk_len (h.nowT x hx);omega,fun x hx=>by have:=txtOk_len (h.sureT x hx);omega⟩
theorem WorldP.k {w:WorldT} (h:WorldP w):WorldK 10000 3 w:=by
 have h1:=h.lk.len
 have h2:=h.keptN
 have h3:=h.lateN
 have h4:=h.alive
 refine ⟨h.st.k,by omega,fun x hx=>?_,h.owns,fun x hx=>?_,h.epochs,by omega,by omega,by omega,fun q hq=>?_,fun q hq=>?_⟩
 ·obtain ⟨i,hi,rfl⟩:=List.getElem_of_mem hx
  have e:w.locks.getD i noH=w.locks[i]:=getD_lt _ hi
  have a:=spsOk_len (h.lk.r i (by omega))
  have b:=spsOk_len (h.lk.w i (by omega))
  rw [e] at a b
  omega
 ·obtain ⟨i,hi,rfl⟩:=List.getElem_of_mem hx
  have ho:=h.own i (by have:=h.owns;omega)
  rw [show w.own i=w.owns[i] from getD_lt _ hi] at ho
  have b:=ownOk_bd ho
  have b1:=spsOk_len b.2.1
  have b2:=spsOk_len b.2.2.1
  omega
 ·obtain ⟨i,hi,rfl⟩:=List.getElem_of_mem hq
  have hc:=storeAll_code w.kept (storeFall w.st) i (by rw [h.kept];simp [zeros];exact hi) hi (by simp [h.kept,zeros])
  have:=wrOk_len hc.wr
  omega
 ·have:=wrOk_len (h.late q hq).1.wr
  omega
end Go.Ev


set_option maxRecDepth 100000
set_option maxHeartbeats 8000000
namespace Go.Ev
open Go.Proofs
theorem text_len {w:WorldT}:(if worldOk w=true then w.text else []).length≤48:=by
 split
 ·rename_i h
  rw [(worldOk_iff.1 h).textGet.1]
  exact Nat.le_refl _
 ·simp
theorem law_FnExactWorldText (a:WorldT) (ha:worldM a):ev E 13 [.v .ro true (worldL a)]=some (rB true):=by
 have c1:=fun m m' hm=>ev_szWorld m m' hm a 1048576 (by omega) ha
 cases e1:ltI (1048576 - (worldSz a:Nat)) 0
 case true =>
  rw [less_neg e1] at c1
  rw [ev_fn Tryz.f13 rfl Tryz.func13 rfl rfl rfl (Nat.le_of_ble_eq_true rfl)]
  simp [c1]
 rw [less_pos e1] at c1
 have g1:=ltI_not.1 e1
 have A:=worldB_of (w:=a) (n:=1048576) (by omega) (by omega)
 have C:=worldC_of (w:=a) (n:=1048576) (by omega) (by omega)
 have c3:=fun m hm=>ev_toWorld m hm a A
 have c5:=fun m hm=>ev_sText m hm a C
 have c6:=fun m hm=>ev_iText m hm a C
 have c7:=fun m m' hm hm'=>ev_eqWorld m m' hm hm' a A
 have hl:=text_len (w:=a)
 generalize (if worldOk a=true then a.text else [])=r at *
 rw [ev_fn Tryz.f13 rfl Tryz.func13 rfl rfl rfl (Nat.le_of_ble_eq_true rfl)]
 simp [c1,c3,c5,c6,c7,e1]
end Go.Ev

