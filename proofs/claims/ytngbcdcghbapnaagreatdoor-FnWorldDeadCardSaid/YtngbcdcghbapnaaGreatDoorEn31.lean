/- My texts joined: EvT96, EvT80, EvT81. No condition. -/
import Derived.Test.YtngbcdcghbapnaaGreatDoorEn1
import Derived.Test.YtngbcdcghbapnaaGreatDoorEn2
import Derived.Test.YtngbcdcghbapnaaGreatDoorEn5
import Derived.Test.YtngbcdcghbapnaaGreatDoorEn6
import Derived.Test.YtngbcdcghbapnaaGreatDoorEn7
import Derived.Test.YtngbcdcghbapnaaGreatDoorEn8
import Derived.Test.YtngbcdcghbapnaaGreatDoorEn9
import Derived.Test.YtngbcdcghbapnaaGreatDoorEn10
import Derived.Test.YtngbcdcghbapnaaGreatDoorEn11
import Derived.Test.YtngbcdcghbapnaaGreatDoorEn12
import Derived.Test.YtngbcdcghbapnaaGreatDoorEn13
import Derived.Test.YtngbcdcghbapnaaGreatDoorEn14
import Derived.Test.YtngbcdcghbapnaaGreatDoorEn16
import Derived.Test.YtngbcdcghbapnaaGreatDoorEn17
import Derived.Test.YtngbcdcghbapnaaGreatDoorEn18
import Derived.Test.YtngbcdcghbapnaaGreatDoorEn19
import Derived.Test.YtngbcdcghbapnaaGreatDoorEn20
import Derived.Test.YtngbcdcghbapnaaGreatDoorEn21
import Derived.Test.YtngbcdcghbapnaaGreatDoorEn22
import Derived.Test.YtngbcdcghbapnaaGreatDoorEn23
import Derived.Test.YtngbcdcghbapnaaGreatDoorEn24
import Derived.Test.YtngbcdcghbapnaaGreatDoorEn25
import Derived.Test.YtngbcdcghbapnaaGreatDoorEn26
import Derived.Test.YtngbcdcghbapnaaGreatDoorEn27
import Derived.Test.YtngbcdcghbapnaaGreatDoorEn28
import Derived.Test.YtngbcdcghbapnaaGreatDoorEn29
import Derived.Test.YtngbcdcghbapnaaGreatDoorEn30
set_option linter.unusedVariables false
set_option linter.unusedSimpArgs false

set_option maxRecDepth 100000
set_option maxHeartbeats 8000000
namespace Go.Ev
open Go.Proofs
theorem overAll_len (t:Bs):∀ (ds:List Sp) (s:Bs),(∀ d∈ds,0≤d.1∧d.1<d.2∧d.2≤48)→t.length=48→s.length=48→(overAll t ds s).length=48:=fun ds s hd ht hs=>(overAll_get t ht ds s hd hs).1
theorem lp_iText1 (m:M) (w:WorldT) (i:Nat) (t:Bs) (ht:t.length=48) (ds:List Sp) (hd:∀ d∈ds,0≤d.1∧d.1<d.2∧d.2≤48) (hN:ds.length≤4000000) (a:Code) (ha:a=lp Tryz.f24 1):∀ (n k:Nat) (s:Bs),k+n=ds.length→s.length=48 →
  loopC E (ev E) 24 a { V:=[(3,at1 3),(15,.v m false [.sl (w.owns.map ownL)]),(16,vi w.owns.length),(17,vi i),(23,at1 23),(24,vi ds.length),(25,vi k)],H:=[ow (.c 3) [.sl (rowsOfBytes s)],ow (.c 23) [.sl ((ds.map fun d=>(d.1,subS t d)).map ptL)]],ps:=[] } =
   some (.exit 2,{ V:=[(3,at1 3),(15,.v m false [.sl (w.owns.map ownL)]),(16,vi w.owns.length),(17,vi i),(23,at1 23),(24,vi ds.length),(25,vi ds.length),(26,vb false)],H:=[ow (.c 3) [.sl (rowsOfBytes (overAll t (ds.drop k) s))],ow (.c 23) [.sl ((ds.map fun d=>(d.1,subS t d)).map ptL)]],ps:=[] })
 | 0,k,s,h,hs=>by
  rw [loopC_of _ _ _ _ ha]
  obtain rfl:k=ds.length:=by omega
  simp [lp,loopsOf,Tryz.f24,overAll]
 | n+1,k,s,h,hs=>by
  have hlt:k<ds.length:=by omega
  have hw:=wrapN k (by omega)
  have h0:=hd _ (List.getElem_mem hlt)
  have hov:(overS s ds[k] (subS t ds[k])).length=48:=by
   have:=overAll_len t [ds[k]] s (fun d hd=>by rw [List.mem_singleton.1 hd];exact h0) ht hs
   simpa [overAll] using this
  have ih:=lp_iText1 m w i t ht ds hd hN a ha n (k+1) _ (by omega) hov
  push_cast at ih
  rw [loopC_of _ _ _ _ ha,List.drop_eq_getElem_cons hlt,overAll]
  clear ha hov
  obtain ⟨lo,hlo⟩:∃ lo:Nat,ds[k].1=lo:=⟨ds[k].1.toNat,by omega⟩
  have hxl:(subS t ds[k]).length=(ds[k].2 - ds[k].1).toNat:=by simp [subS];omega
  have hp:ds[k]=((lo:Int),(lo:Int)+(subS t ds[k]).length):=by
   apply Prod.ext
   ·exact hlo
   ·dsimp only;omega
  have hgp:((ds.map fun d=>(d.1,subS t d)).map ptL)[k]?=some [.int .i64 lo,.str (subS t ds[k])]:=by
   rw [List.getElem?_map,List.getElem?_map,List.getElem?_eq_getElem hlt]
   simp only [Option.map_some,ptL,hlo]
  have ho:=rows_over s (subS t ds[k]) lo
  rw [← hp] at ho
  have hr:=rows_one s
  have hl:=rows_len s
  have hlx:=rows_len (subS t ds[k])
  have hxt:(subS t ds[k]).take (48 - lo)=subS t ds[k]:=List.take_of_length_le (by omega)
  have q1:lo<48:=by omega
  have q2:(lo:Int)≤48:=by omega
  generalize overS s ds[k] (subS t ds[k])=z at *
  generalize subS t ds[k]=x at *
  have hll:((ds.map fun d=>(d.1,subS t d)).map ptL).length=ds.length:=by simp
  generalize (ds.map fun d=>(d.1,subS t d)).map ptL=ps at *
  generalize rowsOfBytes s=ys at *
  have hx0:0<x.length:=by omega
  have hks:k<ps.length:=by omega
  have hgp':ps[k]=[.int .i64 lo,.str x]:=by
   rw [List.getElem?_eq_getElem hks] at hgp
   exact Option.some.inj hgp
  simp [lp,loopsOf,Tryz.f24,hlt,hks,hgp',hw,hl,hs,hxt,hlx,q1,q2,ho,eq_true hr,Nat.le_of_lt q1]
  exact ih
theorem lp_iText0 (m:M) (hm:m.isOwn=false) (w:WorldT) (hw3:w.owns.length=3) (hok:∀ i,i<3→(w.own i).ok=true) (a:Code) (ha:a=lp Tryz.f24 0):∀ (n i:Nat) (s:Bs),i+n=w.owns.length→s.length=48 →
  loopC E (ev E) 24 a { V:=[(3,at1 3),(15,.v m false [.sl (w.owns.map ownL)]),(16,vi w.owns.length),(17,vi i)],H:=[ow (.c 3) [.sl (rowsOfBytes s)]],ps:=[] } =
   some (.exit 0,{ V:=[(3,at1 3),(15,.v m false [.sl (w.owns.map ownL)]),(16,vi w.owns.length),(17,vi w.owns.length),(18,vb false)],H:=[ow (.c 3) [.sl (rowsOfBytes (textF (w.owns.drop i) s))]],ps:=[] })
 | 0,i,s,h,hs=>by
  rw [loopC_of _ _ _ _ ha]
  obtain rfl:i=w.owns.length:=by omega
  simp [lp,loopsOf,Tryz.f24,textF]
 | n+1,i,s,h,hs=>by
  have hi:i<w.owns.length:=by omega
  have hwr:=wrapN i (by omega)
  have ok:=hok i (by omega)
  rw [show w.own i=w.owns[i] from getD_lt _ hi] at ok
  have b:=ownOk_bd ok
  have hd:=spsOk_sp b.2.2.1
  have hN:=spsOk_len b.2.2.1
  have hov:=overAll_len w.owns[i].t w.owns[i].d s (fun d hq=>hd d hq) b.1 hs
  have c1:=fun m m' hm=>ev_OwnPatches m m' hm w.owns[i].t w.owns[i].h w.owns[i].d whole (OwnT.owB ok)
  have hpt:patI w.owns[i].t w.owns[i].h w.owns[i].d whole=w.owns[i].d.map fun d=>(d.1,subS w.owns[i].t d):=by
   have ok':ownOk w.owns[i].t w.owns[i].h w.owns[i].d=true:=ok
   simp only [patI,ok',whole_ok,if_true]
   exact patF_self _ _ hd
  rw [hpt] at c1
  have hsp:spL whole=[.int .i64 0,.int .i64 48]:=rfl
  rw [hsp] at c1
  have l1:=lp_iText1 m w i w.owns[i].t b.1 w.owns[i].d (fun d hq=>hd d hq) (by omega) _ rfl w.owns[i].d.length 0 s (by omega) hs
  have ih:=lp_iText0 m hm w hw3 hok a ha n (i+1) _ (by omega) hov
  push_cast at ih l1
  simp only [List.drop_zero] at l1
  have hpl:((w.owns[i].d.map fun d=>(d.1,subS w.owns[i].t d)).map ptL).length=w.owns[i].d.length:=by simp
  rw [loopC_of _ _ _ _ ha,List.drop_eq_getElem_cons hi,textF]
  clear ha
  generalize (w.owns[i].d.map fun d=>(d.1,subS w.owns[i].t d)).map ptL=ps at *
  simp [lp,loopsOf,Tryz.f24,hm,hi,c1,hpl]
  rw [loopC_at ?_ l1]
  ·simp [hwr,hm]
   exact ih
  ·rfl
theorem ev_iText (m:M) (hm:m.isOwn=false) (w:WorldT) (C:WorldC w):ev E 24 [.v m true (worldL w)]=some { rs:=[.v .own false [.str (if worldOk w=true then w.text else [])]],outs:=[] }:=by
 have c0:=fun m hm=>ev_impl_WorldOk m hm w C
 cases e:worldOk w
 ·rw [ev_fn Tryz.f24 rfl Tryz.func24 rfl rfl rfl (Nat.le_of_ble_eq_true rfl)]
  simp [c0,e,hm]
 ·have h:=worldOk_iff.1 e
  have c1:=fun m hm=>ev_stored m hm w (layOk_iff.2 h.lay) h.st.now
  have l0:=lp_iText0 m hm w h.owns h.own _ rfl w.owns.length 0 w.file (by omega) (file_len w)
  push_cast at l0
  simp only [List.drop_zero] at l0
  have hfl:=file_len w
  have hfn:¬ w.file=[]:=fun q=>by rw [q] at hfl;simp at hfl
  have htl:=h.textGet.1
  unfold WorldT.text at htl ⊢
  simp only [if_true]
  generalize textF w.owns w.file=r at *
  generalize w.file=fl at *
  rw [ev_fn Tryz.f24 rfl Tryz.func24 rfl rfl rfl (Nat.le_of_ble_eq_true rfl)]
  simp [c0,c1,e,hm,hfl,hfn]
  rw [loopC_at ?_ l0]
  ·simp [htl,bytes_rows]
  ·rfl
set_option maxRecDepth 100000
set_option maxHeartbeats 8000000
def noW:WorldT:=⟨0,0,noS,[],[],[],[],[],[]⟩
theorem noW_L:worldL noW=[.int .i64 0,.int .i64 0,.sl [],.sl [],.sl [],.sl [],.sl [],.sl [],.sl [],.sl [],.sl [],.sl [],.sl []]:=rfl
theorem worldL_mk (a b:Int) (s:StoreT) (l:List HoldT) (o:List OwnT) (e:List Int) (v:List Bool) (k q:List ReqT):worldL ⟨a,b,s,l,o,e,v,k,q⟩=[.int .i64 a,.int .i64 b]++storeL s++[.sl (l.map holdL),.sl (o.map ownL),.sl (intsL e),.sl (boolsL v),.sl (k.map reqL),.sl (q.map reqL)]:=by rfl
theorem lp_l7Copy (m:M) (hm:m.isOwn=false) (w:WorldT) (B:WorldB w) (a:Code) (ha:a=lp Tryz.f55 0):∀ (n i:Nat) (out:List OwnT),i+n=w.owns.length→out.length=i →
  loopC E (ev E) 55 a { V:=[(1,adc 1),(2,adc 2),(3,adc 3),(4,vi i)],H:=[bxm (.c 1) m (worldL w),bx (.c 2) (worldL noW),bx (.c 3) (worldL { w with owns:=out })],ps:=[] } =
   some (.exit 0,{ V:=[(1,adc 1),(2,adc 2),(3,adc 3),(4,vi w.owns.length),(34,vb false)],H:=[bxm (.c 1) m (worldL w),bx (.c 2) (worldL noW),bx (.c 3) (worldL { w with owns:=out++w.owns.drop i })],ps:=[] })
 | 0,i,out,h,ho=>by
  rw [loopC_of _ _ _ _ ha]
  obtain rfl:i=w.owns.length:=by omega
  simp [lp,loopsOf,Tryz.f55,hm,noW_L]
 | n+1,i,out,h,ho=>by
  have hlt:i<w.owns.length:=by omega
  have hb:=B.owns
  have hw:=wrapN i (by omega)
  have hB:=B.owned _ (List.getElem_mem hlt)
  have ih:=lp_l7Copy m hm w B a ha n (i+1) (out++[w.owns[i]]) (by omega) (by simp;omega)
  push_cast at ih
  have c1:∀ m,m.isOwn=false→ev E 158 [.v m true (ownL w.owns[i])]=some { rs:=[.v .own true (ownL w.owns[i])],outs:=[] }:=fun m hm=>ev_l6Copy m hm _ _ _ (by have:=hB.1;omega) (by have:=hB.2;omega)
  have h1:(out.length+1)*64≤17592186044416:=by omega
  have h2:out.length+1≤17592186044416:=by omega
  rw [loopC_of _ _ _ _ ha,List.drop_eq_getElem_cons hlt]
  clear ha
  rw [noW_L] at ih ⊢
  simp [lp,loopsOf,Tryz.f55,hlt,hw,hm,c1,h1,h2]
  simpa [worldL_mk,storeL,ownL] using ih
theorem ev_l7Copy (m:M) (hm:m.isOwn=false) (w:WorldT) (B:WorldB w):ev E 55 [.v m true (worldL w)]=some { rs:=[.v .own true (worldL w)],outs:=[] }:=by
 have c1:=fun m hm=>ev_l5Copy m hm w.st B.st
 have c2:=fun m hm=>ev_l4Copy m hm w.locks B.locks B.holds
 have b1:=B.epochs
 have b2:=B.alive
 have b3:=B.kept
 have b4:=B.late
 have h1:w.epochs.length*8≤17592186044416:=by omega
 have h2:w.epochs.length≤17592186044416:=by omega
 have h3:w.alive.length*1≤17592186044416:=by omega
 have h4:w.alive.length≤17592186044416:=by omega
 have h5:w.kept.length*56≤17592186044416:=by omega
 have h6:w.kept.length≤17592186044416:=by omega
 have h7:w.late.length*56≤17592186044416:=by omega
 have h8:w.late.length≤17592186044416:=by omega
 have l0:=lp_l7Copy m hm w B _ rfl w.owns.length 0 [] (by omega) rfl
 push_cast at l0
 simp only [List.drop_zero,List.nil_append,List.map_nil] at l0
 rw [noW_L,worldL_mk w.size w.many w.st w.locks []] at l0
 simp only [storeL,List.cons_append,List.nil_append,List.map_nil] at l0
 rw [ev_fn Tryz.f55 rfl Tryz.func55 rfl rfl rfl (Nat.le_of_ble_eq_true rfl)]
 simp [hm,c1,c2,h1,h2,h3,h4,h5,h6,h7,h8]
 rw [loopC_at ?_ l0]
 ·simp
 ·rfl
theorem lp_anew (m:M) (hm:m.isOwn=false) (w:WorldT) (B:WorldC w) (a:Code) (ha:a=lp Tryz.f52 0):∀ (n i:Nat) (out:List OwnT),i+n=w.owns.length→out.length=i →
  loopC E (ev E) 52 a { V:=[(1,adc 1),(2,adc 2),(3,at1 3),(8,.v m false [.sl (w.owns.map ownL)]),(9,vi w.owns.length),(10,vi i)],H:=[bxm (.c 1) m (worldL w),bx (.c 2) (worldL noW),ow (.c 3) [.sl (out.map ownL)]],ps:=[] } =
   some (.exit 0,{ V:=[(1,adc 1),(2,adc 2),(3,at1 3),(8,.v m false [.sl (w.owns.map ownL)]),(9,vi w.owns.length),(10,vi w.owns.length),(11,vb false)],H:=[bxm (.c 1) m (worldL w),bx (.c 2) (worldL noW),ow (.c 3) [.sl ((out++w.owns.drop i).map ownL)]],ps:=[] })
 | 0,i,out,h,ho=>by
  rw [loopC_of _ _ _ _ ha]
  obtain rfl:i=w.owns.length:=by omega
  simp [lp,loopsOf,Tryz.f52,hm,noW_L]
 | n+1,i,out,h,ho=>by
  have hlt:i<w.owns.length:=by omega
  have hb:=B.owns
  have hw:=wrapN i (by omega)
  have hB:=B.owned _ (List.getElem_mem hlt)
  have ih:=lp_anew m hm w B a ha n (i+1) (out++[w.owns[i]]) (by omega) (by simp;omega)
  push_cast at ih
  have c1:∀ m,m.isOwn=false→ev E 137 [.v m true (ownL w.owns[i])]=some { rs:=[.v .own true (ownL w.owns[i])],outs:=[] }:=fun m hm=>ev_kept m hm _ _ _ ⟨by have:=B.ownT _ (List.getElem_mem hlt);omega,by have:=hB.1;omega,by have:=hB.2;omega⟩
  have h1:(out.length+1)*64≤17592186044416:=by omega
  have h2:out.length+1≤17592186044416:=by omega
  rw [loopC_of _ _ _ _ ha,List.drop_eq_getElem_cons hlt]
  clear ha
  rw [noW_L] at ih ⊢
  simp [lp,loopsOf,Tryz.f52,hlt,hw,hm,c1,h1,h2]
  simpa [worldL_mk,storeL,ownL] using ih
theorem ev_anew (m:M) (hm:m.isOwn=false) (w:WorldT) (B:WorldC w):ev E 52 [.v m true (worldL w)]=some { rs:=[.v .own true (worldL w)],outs:=[] }:=by
 have c1:=fun m hm=>ev_again m hm w.st B.st
 have c2:=fun m hm=>ev_copied m hm w.locks B.locks B.holds
 have c3:=fun m=>ev_CloneI m w.epochs B.epochs
 have c4:=fun m=>ev_CloneB m w.alive B.alive
 have c5:=fun m=>ev_CloneR m w.kept B.kept
 have c6:=fun m=>ev_CloneR m w.late B.late
 have l0:=lp_anew m hm w B _ rfl w.owns.length 0 [] (by omega) rfl
 push_cast at l0
 simp only [List.drop_zero,List.nil_append,List.map_nil] at l0
 rw [noW_L] at l0
 rw [ev_fn Tryz.f52 rfl Tryz.func52 rfl rfl rfl (Nat.le_of_ble_eq_true rfl)]
 simp [hm]
 rw [loopC_at ?_ l0]
 ·simp [hm,c1,c2,c3,c4,c5,c6]
 ·rfl
def rWB (m:M) (w:WorldT) (b:Bool):Out:={ rs:=[.v m true (worldL w),.v .own false [.bool b]],outs:=[] }
abbrev pdw (w:WorldT):Root × HC:=(.p 0,{ box:=false,wr:=true,m:=.own,ls:=[.int .i64 w.size,.int .i64 w.many,.dead,.dead,.dead,.dead,.dead,.dead,.dead,.dead,.dead,.dead,.dead],e0:=0,e1:=0 })
theorem lp_flush_own  (m1:M) (w:WorldT) (i:Nat) (s:Sp) (qs:List ReqT) (x:StoreT) (cs:List Int) (hc:cs.length≤4000000) (a:Code) (ha:a=lp Tryz.f218 0):∀ (n k:Nat),k+n=cs.length →
  loopC E (ev E) 218 a { V:=[(1,.v m1 false [.int .i64 i]),(3,adc 3),(5,adc 5),(6,adc 6),(8,at1 8),(9,adc 9),(10,at1 10),(11,vi k)],H:=[pdw w,bxm (.c 3) .own (worldL w),bx (.c 5) (spL s),bx (.c 6) (worldL noW),ow (.c 8) [.sl (qs.map reqL)],bx (.c 9) (storeL x),ow (.c 10) [.sl (intsL cs)]],ps:=[0] } =
   if ((cs.drop k).all fun c=>eqI c 0)=true then some (.exit 0,{ V:=[(1,.v m1 false [.int .i64 i]),(3,adc 3),(5,adc 5),(6,adc 6),(8,at1 8),(9,adc 9),(10,at1 10),(11,vi cs.length),(28,vb false)],H:=[pdw w,bxm (.c 3) .own (worldL w),bx (.c 5) (spL s),bx (.c 6) (worldL noW),ow (.c 8) [.sl (qs.map reqL)],bx (.c 9) (storeL x),ow (.c 10) [.sl (intsL cs)]],ps:=[0] })
   else some (.ret,{ V:=[(6,adc 6),(7,vb false)],H:=[pdw w,bxm (.c 6) .own (worldL w)],ps:=[0] })
 | 0,k,h=>by
  rw [loopC_of _ _ _ _ ha,noW_L]
  obtain rfl:k=cs.length:=by omega
  simp [lp,loopsOf,Tryz.f218,if_true]
 | n+1,k,h=>by
  have hlt:k<cs.length:=by omega
  have hw:=wrapN k (by omega)
  have ih:=lp_flush_own  m1 w i s qs x cs hc a ha n (k+1) (by omega)
  push_cast at ih
  rw [loopC_of _ _ _ _ ha,List.drop_eq_getElem_cons hlt,List.all_cons]
  clear ha
  rw [noW_L] at ih ⊢
  generalize (cs.drop (k+1)).all (fun c=>eqI c 0)=r at ih ⊢
  cases e:eqI cs[k] 0<;>simp [lp,loopsOf,Tryz.f218,hlt,hw,e,ih,if_true]
theorem lp_flush_lent (m:M) (hm:m.isOwn=false) (m1:M) (w:WorldT) (i:Nat) (s:Sp) (qs:List ReqT) (x:StoreT) (cs:List Int) (hc:cs.length≤4000000) (a:Code) (ha:a=lp Tryz.f218 0):∀ (n k:Nat),k+n=cs.length →
  loopC E (ev E) 218 a { V:=[(1,.v m1 false [.int .i64 i]),(3,adc 3),(5,adc 5),(6,adc 6),(8,at1 8),(9,adc 9),(10,at1 10),(11,vi k)],H:=[bxm (.c 3) m (worldL w),bx (.c 5) (spL s),bx (.c 6) (worldL noW),ow (.c 8) [.sl (qs.map reqL)],bx (.c 9) (storeL x),ow (.c 10) [.sl (intsL cs)]],ps:=[] } =
   if ((cs.drop k).all fun c=>eqI c 0)=true then some (.exit 0,{ V:=[(1,.v m1 false [.int .i64 i]),(3,adc 3),(5,adc 5),(6,adc 6),(8,at1 8),(9,adc 9),(10,at1 10),(11,vi cs.length),(28,vb false)],H:=[bxm (.c 3) m (worldL w),bx (.c 5) (spL s),bx (.c 6) (worldL noW),ow (.c 8) [.sl (qs.map reqL)],bx (.c 9) (storeL x),ow (.c 10) [.sl (intsL cs)]],ps:=[] })
   else some (.ret,{ V:=[(6,adc 6),(7,vb false)],H:=[bxm (.c 6) m (worldL w)],ps:=[] })
 | 0,k,h=>by
  rw [loopC_of _ _ _ _ ha,noW_L]
  obtain rfl:k=cs.length:=by omega
  simp [lp,loopsOf,Tryz.f218,hm]
 | n+1,k,h=>by
  have hlt:k<cs.length:=by omega
  have hw:=wrapN k (by omega)
  have ih:=lp_flush_lent m hm m1 w i s qs x cs hc a ha n (k+1) (by omega)
  push_cast at ih
  rw [loopC_of _ _ _ _ ha,List.drop_eq_getElem_cons hlt,List.all_cons]
  clear ha
  rw [noW_L] at ih ⊢
  generalize (cs.drop (k+1)).all (fun c=>eqI c 0)=r at ih ⊢
  cases e:eqI cs[k] 0<;>simp [lp,loopsOf,Tryz.f218,hlt,hw,e,ih,hm]
set_option maxRecDepth 100000
set_option maxHeartbeats 8000000
theorem ev_flush_own  (m1 m2:M) (w:WorldT) (h:WorldP w) (i:Nat) (hi:i<3) (s:Sp) (hs:spOk s=true) (hbad:backsB w i s=false) :
  ev E 218 [.own true (worldL w),.v m1 false [.int .i64 i],.v m2 true (spL s)]=some (rWB .own w false):=by
 obtain ⟨r1,r2⟩:=h.reqsB hi hs
 obtain ⟨hl,ho⟩:=h.own_get hi
 have c1:=fun m m1 m2 hm=>ev_l7All m m1 m2 hm w h i hi s hs
 have c2:=fun m m' hm hm'=>ev_spec_StoreAll m m' hm hm' w.st (w.reqs i s) h.st.bd (by omega) r2
 simp only [storeOk_iff.2 h.st,if_true,rStA] at c2
 have c3:=fun m m' hm=>ev_spec_OwnClean m m' hm (w.own i).t (w.own i).h (w.own i).d s (h.owB hi)
 rw [clean_spec (h.own i hi)] at c3
 have hcl:=storeAll_len (w.reqs i s) w.st
 unfold backsB at hbad
 have l0:=fun a ha=>lp_flush_own  m1 w i s (w.reqs i s) (storeAll w.st (w.reqs i s)).1 (storeAll w.st (w.reqs i s)).2 (by omega) a ha (storeAll w.st (w.reqs i s)).2.length 0 (by omega)
 push_cast at l0
 try simp only [List.drop_zero] at l0
 rw [noW_L] at l0
 generalize w.reqs i s=qs at *
 generalize storeAll w.st qs=st at *
 rw [← ho] at c3 hbad
 generalize cleanT w.owns[i] s=cl at *
 obtain ⟨o,b⟩:=cl
 dsimp only at c3 hbad
 rw [ev_fn Tryz.f218 rfl Tryz.func218 rfl rfl rfl (Nat.le_of_ble_eq_true rfl)]
 generalize hall:(st.2.all fun c=>eqI c 0)=al at *
 simp [c1,c2,if_true]
 rw [l0 _ ?_]
 ·cases al
  ·simp [rWB,if_true]
  ·obtain rfl:b=false:=by simpa using hbad
   simp [c3,hl,rWB,if_true]
 ·rfl
theorem ev_flush_lent (m:M) (hm:m.isOwn=false) (m1 m2:M) (w:WorldT) (h:WorldP w) (i:Nat) (hi:i<3) (s:Sp) (hs:spOk s=true) (hbad:backsB w i s=false) :
  ev E 218 [.v m true (worldL w),.v m1 false [.int .i64 i],.v m2 true (spL s)]=some (rWB m w false):=by
 obtain ⟨r1,r2⟩:=h.reqsB hi hs
 obtain ⟨hl,ho⟩:=h.own_get hi
 have c1:=fun m m1 m2 hm=>ev_l7All m m1 m2 hm w h i hi s hs
 have c2:=fun m m' hm hm'=>ev_spec_StoreAll m m' hm hm' w.st (w.reqs i s) h.st.bd (by omega) r2
 simp only [storeOk_iff.2 h.st,if_true,rStA] at c2
 have c3:=fun m m' hm=>ev_spec_OwnClean m m' hm (w.own i).t (w.own i).h (w.own i).d s (h.owB hi)
 rw [clean_spec (h.own i hi)] at c3
 have hcl:=storeAll_len (w.reqs i s) w.st
 unfold backsB at hbad
 have l0:=fun a ha=>lp_flush_lent m hm m1 w i s (w.reqs i s) (storeAll w.st (w.reqs i s)).1 (storeAll w.st (w.reqs i s)).2 (by omega) a ha (storeAll w.st (w.reqs i s)).2.length 0 (by omega)
 push_cast at l0
 try simp only [List.drop_zero] at l0
 rw [noW_L] at l0
 generalize w.reqs i s=qs at *
 generalize storeAll w.st qs=st at *
 rw [← ho] at c3 hbad
 generalize cleanT w.owns[i] s=cl at *
 obtain ⟨o,b⟩:=cl
 dsimp only at c3 hbad
 rw [ev_fn Tryz.f218 rfl Tryz.func218 rfl rfl rfl (Nat.le_of_ble_eq_true rfl)]
 generalize hall:(st.2.all fun c=>eqI c 0)=al at *
 simp [c1,c2,hm]
 rw [l0 _ ?_]
 ·cases al
  ·simp [rWB,hm]
  ·obtain rfl:b=false:=by simpa using hbad
   simp [c3,hl,rWB,hm]
 ·rfl
theorem ev_flush_fine (m1 m2:M) (w:WorldT) (h:WorldP w) (i:Nat) (hi:i<3) (s:Sp) (hs:spOk s=true) (hgood:backsB w i s=true) :
  ev E 218 [.own true (worldL w),.v m1 false [.int .i64 i],.v m2 true (spL s)]=some (rWB .own (backsW w i s) true):=by
 obtain ⟨r1,r2⟩:=h.reqsB hi hs
 obtain ⟨hl,ho⟩:=h.own_get hi
 have c1:=fun m m1 m2 hm=>ev_l7All m m1 m2 hm w h i hi s hs
 have c2:=fun m m' hm hm'=>ev_spec_StoreAll m m' hm hm' w.st (w.reqs i s) h.st.bd (by omega) r2
 simp only [storeOk_iff.2 h.st,if_true,rStA] at c2
 have c3:=fun m m' hm=>ev_spec_OwnClean m m' hm (w.own i).t (w.own i).h (w.own i).d s (h.owB hi)
 rw [clean_spec (h.own i hi)] at c3
 have hcl:=storeAll_len (w.reqs i s) w.st
 have hk:=h.keptN
 have z1:(w.kept.length+(w.reqs i s).length)*56≤17592186044416:=by omega
 have z2:w.kept.length+(w.reqs i s).length≤17592186044416:=by omega
 simp only [backsB,Bool.and_eq_true] at hgood
 have l0:=fun a ha=>lp_flush_own m1 w i s (w.reqs i s) (storeAll w.st (w.reqs i s)).1 (storeAll w.st (w.reqs i s)).2 (by omega) a ha (storeAll w.st (w.reqs i s)).2.length 0 (by omega)
 push_cast at l0
 simp only [List.drop_zero,hgood.2,if_true] at l0
 rw [noW_L] at l0
 have hcb:=hgood.1
 clear hgood
 simp only [backsW]
 generalize w.reqs i s=qs at *
 generalize storeAll w.st qs=st at *
 rw [← ho] at c3 hcb ⊢
 generalize cleanT w.owns[i] s=cl at *
 obtain ⟨o,b⟩:=cl
 dsimp only at c3 hcb ⊢
 subst hcb
 rw [ev_fn Tryz.f218 rfl Tryz.func218 rfl rfl rfl (Nat.le_of_ble_eq_true rfl)]
 simp [c1,c2]
 rw [l0 _ ?_]
 ·simp [c3,hl,z1,z2,rWB,List.map_set]
 ·rfl
def yieldS (w:WorldT) (k:Nat) (write:Bool) (s:Sp):WorldT × Bool :=
 if backsB w k s=true then
  if write=true then
   ({ backsW w k s with locks:=(lockDrop (backsW w k s).locks k s).1,owns:=(backsW w k s).owns.set k (dropT ((backsW w k s).own k) s).1 },(lockDrop (backsW w k s).locks k s).2&&(dropT ((backsW w k s).own k) s).2)
  else ({ backsW w k s with locks:=(lockDown (backsW w k s).locks k s).1 },(lockDown (backsW w k s).locks k s).2)
 else (w,false)
theorem yield_S (w:WorldT) (k:Nat) (write:Bool) (s:Sp):yieldW w k write s=if (yieldS w k write s).2=true then some (yieldS w k write s).1 else none:=by
 unfold yieldW yieldS
 rw [flush_backs]
 cases backsB w k s
 ·rfl
 ·simp only [if_true]
  cases write
  ·simp only [Bool.false_eq_true,if_false]
  ·simp only [if_true]
theorem ev_sDrop (m m':M) (hm:m.isOwn=false) (o:OwnT) (h:o.ok=true) (p:Sp):ev E 190 [.v m true (ownL o),.v m' true (spL p)]=some (rOT (dropT o p).1 (dropT o p).2):=by
 rw [ev_spec_OwnDrop m m' hm o.t o.h o.d p (OwnT.owB h),drop_T h]
theorem ev_sFill (m m' m'':M) (hm:m.isOwn=false) (o:OwnT) (h:o.ok=true) (p:Sp) (x:Bs) (hx:x.length≤4000000):ev E 191 [.v m true (ownL o),.v m' true (spL p),.v m'' false [.str x]]=some (rOT (fillT1 o p x).1 (fillT1 o p x).2):=by
 rw [ev_spec_OwnFill m m' m'' hm o.t o.h o.d p x (OwnT.owB h) hx,fill_T h]
theorem ev_sWrite (m m' m'':M) (hm:m.isOwn=false) (o:OwnT) (h:o.ok=true) (k:Int) (x:Bs) (hx:x.length≤4000000):ev E 193 [.v m true (ownL o),.v m' false [.int .i64 k],.v m'' false [.str x]]=some (rOT (writeT1 o k x).1 (writeT1 o k x).2):=by
 rw [ev_spec_OwnWrite m m' m'' hm o.t o.h o.d k x (OwnT.owB h) hx,write_T h]
theorem ev_l7Yield (m1 m2 m3:M) (w:WorldT) (h:WorldP w) (k:Nat) (hk:k<3) (ha:w.live k=true) (write:Bool) (s:Sp) (hs:spOk s=true) :
  ev E 251 [.own true (worldL w),.v m1 false [.int .i64 k],.v m2 false [.bool write],.v m3 true (spL s)]=some (rWB (if backsB w k s=true then .own else .ro) (yieldS w k write s).1 (yieldS w k write s).2):=by
 unfold yieldS
 cases e1:backsB w k s
 ·have c1:=fun m1 m2=>ev_flush_own m1 m2 w h k hk s hs e1
  have c2:=fun m m1 m2 hm=>ev_flush_lent m hm m1 m2 w h k hk s hs e1
  simp only [rWB] at c1 c2 ⊢
  rw [ev_fn Tryz.f251 rfl Tryz.func251 rfl rfl rfl (Nat.le_of_ble_eq_true rfl)]
  simp [c1,c2]
 ·have c1:=fun m1 m2=>ev_flush_fine m1 m2 w h k hk s hs e1
  have X:=backs_ok h hk ha e1
  generalize backsW w k s=x at *
  obtain ⟨hl,ho⟩:=X.own_get hk
  have LP:=X.lk
  have hll:x.locks.length≤4000000:=by have:=LP.len;omega
  have c2:=fun m m1 m2 hm=>ev_spec_LockDown m m1 m2 hm x.locks hll LP.bd k s
  have c3:=fun m m1 m2 hm=>ev_spec_LockDrop m m1 m2 hm x.locks hll LP.bd k s
  have c4:=fun m m' hm=>ev_sDrop m m' hm (x.own k) (X.own k hk) s
  rw [down_I LP hk hs] at c2
  rw [drop_I LP hk hs] at c3
  simp only [rLk] at c2 c3
  rw [← ho] at c4 ⊢
  generalize lockDrop x.locks k s=z at *
  generalize lockDown x.locks k s=z' at *
  generalize dropT x.owns[k] s=y at *
  obtain ⟨t',b⟩:=z
  obtain ⟨t2,b2⟩:=z'
  obtain ⟨o',b'⟩:=y
  simp only [rWB] at c1 ⊢
  rw [ev_fn Tryz.f251 rfl Tryz.func251 rfl rfl rfl (Nat.le_of_ble_eq_true rfl)]
  cases write
  ·simp [c1,c2]
  ·cases b<;>simp [c1,c2,c3,c4,hl,List.map_set]
end Go.Ev

