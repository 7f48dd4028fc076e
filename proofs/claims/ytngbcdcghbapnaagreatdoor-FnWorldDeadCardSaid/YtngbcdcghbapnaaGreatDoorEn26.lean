/- My texts joined: EvT70, EvT71. No condition. -/
import Derived.Test.YtngbcdcghbapnaaGreatDoorEn1
import Derived.Test.YtngbcdcghbapnaaGreatDoorEn2
import Derived.Test.YtngbcdcghbapnaaGreatDoorEn5
import Derived.Test.YtngbcdcghbapnaaGreatDoorEn6
import Derived.Test.YtngbcdcghbapnaaGreatDoorEn7
import Derived.Test.YtngbcdcghbapnaaGreatDoorEn8
import Derived.Test.YtngbcdcghbapnaaGreatDoorEn9
import Derived.Test.YtngbcdcghbapnaaGreatDoorEn10
import Derived.Test.YtngbcdcghbapnaaGreatDoorEn11
import Derived.Test.YtngbcdcghbapnaaGreatDoorEn12
import Derived.Test.YtngbcdcghbapnaaGreatDoorEn13
import Derived.Test.YtngbcdcghbapnaaGreatDoorEn14
import Derived.Test.YtngbcdcghbapnaaGreatDoorEn16
import Derived.Test.YtngbcdcghbapnaaGreatDoorEn18
import Derived.Test.YtngbcdcghbapnaaGreatDoorEn19
import Derived.Test.YtngbcdcghbapnaaGreatDoorEn20
import Derived.Test.YtngbcdcghbapnaaGreatDoorEn21
import Derived.Test.YtngbcdcghbapnaaGreatDoorEn25
set_option linter.unusedVariables false
set_option linter.unusedSimpArgs false

set_option maxRecDepth 100000
set_option maxHeartbeats 4000000
namespace Go.Ev
open Go.Proofs
structure PartOk (lo hi:Nat) (p:PartT):Prop where
 frm:lo≤p.frm
 le:p.lo≤p.hi
 top:p.frm+(p.hi - p.lo)≤hi
 bd:p.hi≤200
 h48:hi≤48
theorem parts_ok {sz mn lo hi:Nat} (P:LayP sz mn) (h48:hi≤48):∀ (n a:Nat),lo≤a→∀ p∈partsF sz mn hi n a,PartOk lo hi p
 | 0,a,_=>by simp [partsF]
 | n+1,a,h=>by
  intro p hp
  rw [partsF] at hp
  split at hp
  ·rename_i hlt
   obtain ⟨g1,g2,g3⟩:=endOf_gt P.s1 hlt
   have hpp:=pos_lt P (j:=a) (by omega)
   rcases List.mem_cons.1 hp with rfl | hp
   ·exact ⟨h,by simp only [partAt];omega,by simp only [partAt];omega,by simp only [partAt];omega,h48⟩
   ·exact parts_ok P h48 n _ (by omega) p hp
  ·simp at hp
def reqsP (who epoch:Int) (lo:Nat) (x:Bs):List PartT→Int→List ReqT
 | [],_=>[]
 | p::ps,num=>⟨who,epoch,num,p.obj,p.lo,(x.take (p.frm - lo+(p.hi - p.lo))).drop (p.frm - lo)⟩::reqsP who epoch lo x ps (num+1)
theorem reqsP_len (who epoch:Int) (lo:Nat) (x:Bs):∀ (ps:List PartT) (num:Int),(reqsP who epoch lo x ps num).length=ps.length
 | [],num=>rfl
 | p::ps,num=>by simp [reqsP,reqsP_len who epoch lo x ps]
theorem reqsF_P {sz mn:Nat} (hs:0<sz) (who epoch:Int) (lo hi:Nat) (x:Bs):∀ (n a:Nat) (num:Int),lo≤a→reqsF sz mn who epoch lo x hi n a num=reqsP who epoch lo x (partsF sz mn hi n a) num
 | 0,a,num,h=>rfl
 | n+1,a,num,h=>by
  rw [reqsF,partsF]
  by_cases hlt:a<hi
  ·obtain ⟨g1,g2,g3⟩:=endOf_gt hs hlt
   rw [if_pos hlt,if_pos hlt,reqsP,reqsF_P hs who epoch lo hi x n _ _ (by omega)]
   simp only [partAt]
   rw [show a - lo+(posOf sz mn a+(endOf sz a hi - a) - posOf sz mn a)=endOf sz a hi - lo by omega]
  ·rw [if_neg hlt,if_neg hlt];rfl
def PatOk (q:Pt):Prop:=∃ lo hi:Nat,q.1=lo∧q.2.length=hi - lo∧lo<hi∧hi≤48
theorem pat_ok {t:Bs} {p:Sp} (ht:t.length=48) (hp:0≤p.1∧p.1<p.2∧p.2≤48):∀ (d:List Sp),(∀ s∈d,0≤s.1∧s.1<s.2∧s.2≤48)→∀ q∈patF t p d,PatOk q
 | [],_=>by simp [patF]
 | s::d,hd=>by
  intro q hq
  have hs:=hd s (by simp)
  have hb:=meet_bd hs hp
  rw [patF] at hq
  split at hq
  ·rename_i e
   rw [ltI_iff] at e
   rcases List.mem_cons.1 hq with rfl | hq
   ·refine ⟨(meetS s p).1.toNat,(meetS s p).2.toNat,by dsimp only;omega,?_,by omega,by omega⟩
    simp only [subS,List.length_drop,List.length_take,ht]
    omega
   ·exact pat_ok ht hp d (fun s hs=>hd s (by simp [hs])) q hq
  ·exact pat_ok ht hp d (fun s hs=>hd s (by simp [hs])) q hq
structure NumP (w:WorldT) (i:Nat) (ep last:Int):Prop where
 e1:i<w.epochs.length
 e2:w.epochs[i]=ep
 l1:i<w.st.last.length
 l2:w.st.last[i]=last
 l3:0≤last∧last≤1000
 i3:i<3
theorem lp_req1 (m m1:M) (hm:m.isOwn=false) (w:WorldT) (i:Nat) (ep last:Int) (N:NumP w i ep last) (lo hi:Nat) (x:Bs) (hx:x.length=hi - lo) (pz:List PartT) (hps:∀ p∈pz,PartOk lo hi p) (hpl:pz.length≤48) (R:List (List L)) (n1 n2:Int) (a:Code) (ha:a=lp Tryz.f204 1):∀ (n k:Nat) (out:List ReqT),k+n=pz.length→out.length+n≤100000 →
  loopC E (ev E) 204 a { V:=[(1,.v m1 false [.int .i64 i]),(3,adc 3),(7,at1 7),(9,adc 9),(20,at1 20),(21,vi n1),(22,vi n2),(37,at1 37),(38,vi pz.length),(39,vi k)],H:=[bxm (.c 3) m (worldL w),ow (.c 7) [.sl (out.map reqL)],bx (.c 9) [.int .i64 lo,.str x],ow (.c 20) [.sl R],ow (.c 37) [.sl (pz.map partL)]],ps:=[] } =
   some (.exit 2,{ V:=[(1,.v m1 false [.int .i64 i]),(3,adc 3),(7,at1 7),(9,adc 9),(20,at1 20),(21,vi n1),(22,vi n2),(37,at1 37),(38,vi pz.length),(39,vi pz.length),(40,vb false)],H:=[bxm (.c 3) m (worldL w),ow (.c 7) [.sl ((out++reqsP i ep lo x (pz.drop k) (last+out.length+1)).map reqL)],bx (.c 9) [.int .i64 lo,.str x],ow (.c 20) [.sl R],ow (.c 37) [.sl (pz.map partL)]],ps:=[] })
 | 0,k,out,h,ho=>by
  rw [loopC_of _ _ _ _ ha]
  obtain rfl:k=pz.length:=by omega
  simp [lp,loopsOf,Tryz.f204,reqsP]
 | n+1,k,out,h,ho=>by
  have hlt:k<pz.length:=by omega
  have hw:=wrapN k (by omega)
  have ok:=hps _ (List.getElem_mem hlt)
  have ok1:=ok.frm
  have ok2:=ok.le
  have ok3:=ok.top
  have ok4:=ok.bd
  have ok5:=ok.h48
  have ih:=lp_req1 m m1 hm w i ep last N lo hi x hx pz hps hpl R n1 n2 a ha n (k+1) (out++[⟨i,ep,last+out.length+1,pz[k].obj,pz[k].lo,(x.take (pz[k].frm - lo+(pz[k].hi - pz[k].lo))).drop (pz[k].frm - lo)⟩]) (by omega) (by simp;omega)
  push_cast at ih
  obtain ⟨N1,N2,N3,N4,N5,N6⟩:=N
  rw [loopC_of _ _ _ _ ha,List.drop_eq_getElem_cons hlt,reqsP]
  clear ha
  have w1:IntKind.i64.wrap ((pz[k].frm:Int) - lo)=((pz[k].frm - lo:Nat):Int):=by rw [wrap64]<;>omega
  have w2:IntKind.i64.wrap (last+(out.length:Int))=last+out.length:=by rw [wrap64];omega
  have w3:IntKind.i64.wrap (last+(out.length:Int)+1)=last+out.length+1:=by rw [wrap64];omega
  have w4:IntKind.i64.wrap (((pz[k].frm - lo:Nat):Int)+pz[k].hi)=((pz[k].frm - lo:Nat):Int)+pz[k].hi:=by rw [wrap64];omega
  have w5:IntKind.i64.wrap (((pz[k].frm - lo:Nat):Int)+pz[k].hi - pz[k].lo)=((pz[k].frm - lo+(pz[k].hi - pz[k].lo):Nat):Int):=by rw [wrap64]<;>omega
  have z1:(out.length+1)*56≤17592186044416:=by omega
  have z2:out.length+1≤17592186044416:=by omega
  have y1:pz[k].frm - lo+(pz[k].hi - pz[k].lo)≤x.length:=by omega
  have y2:pz[k].frm - lo≤pz[k].frm - lo+(pz[k].hi - pz[k].lo):=by omega
  have y3:last+((out.length:Int)+1)+1=last+out.length+1+1:=by omega
  simp only [List.length_append,List.length_cons,List.length_nil,Nat.zero_add] at ih
  push_cast at ih
  rw [y3] at ih
  generalize pz[k].frm - lo=f at *
  generalize pz[k].hi - pz[k].lo=g at *
  have y4:(0:Int)≤(f:Int)+g∧(f:Int)+g≤x.length:=by omega
  have y5:(f:Int)≤(f:Int)+g:=by omega
  have y6:((f:Int)+(g:Int)).toNat=f+g:=by omega
  simp [lp,loopsOf,Tryz.f204,hlt,hw,hm,N1,N2,N3,N4,w1,w2,w3,w4,w5,z1,z2,y1,y2,y4,y5,y6]
  simpa using ih
theorem lp_req0 (m m1:M) (hm:m.isOwn=false) (w:WorldT) (sz mn:Nat) (h1:w.size=sz) (h2:w.many=mn) (P:LayP sz mn) (i:Nat) (ep last:Int) (N:NumP w i ep last) (qs:List Pt) (hqs:∀ q∈qs,PatOk q) (hql:qs.length≤48) (a:Code) (ha:a=lp Tryz.f204 0):∀ (n k:Nat) (out:List ReqT),k+n=qs.length→out.length+n*48≤100000 →
  loopC E (ev E) 204 a { V:=[(1,.v m1 false [.int .i64 i]),(3,adc 3),(7,at1 7),(20,at1 20),(21,vi qs.length),(22,vi k)],H:=[bxm (.c 3) m (worldL w),ow (.c 7) [.sl (out.map reqL)],ow (.c 20) [.sl (qs.map ptL)]],ps:=[] } =
   some (.exit 0,{ V:=[(1,.v m1 false [.int .i64 i]),(3,adc 3),(7,at1 7),(20,at1 20),(21,vi qs.length),(22,vi qs.length),(23,vb false)],H:=[bxm (.c 3) m (worldL w),ow (.c 7) [.sl ((out++reqsAll sz mn i ep (qs.drop k) (last+out.length+1)).map reqL)],ow (.c 20) [.sl (qs.map ptL)]],ps:=[] })
 | 0,k,out,h,ho=>by
  rw [loopC_of _ _ _ _ ha]
  obtain rfl:k=qs.length:=by omega
  simp [lp,loopsOf,Tryz.f204,reqsAll]
 | n+1,k,out,h,ho=>by
  have hlt:k<qs.length:=by omega
  have hw:=wrapN k (by omega)
  obtain ⟨lo,hi,q1,q2,q3,q4⟩:=hqs _ (List.getElem_mem hlt)
  have hl48:=parts_len (sz:=sz) (mn:=mn) (hi:=hi) 48 lo
  have hlen:=reqsP_len (i:Int) ep lo qs[k].2 (partsF sz mn hi 48 lo) (last+out.length+1)
  have hin:=fun a ha=>lp_req1 m m1 hm w i ep last N lo hi qs[k].2 q2 (partsF sz mn hi 48 lo) (parts_ok P q4 48 lo (Nat.le_refl _)) hl48 (qs.map ptL) qs.length k a ha (partsF sz mn hi 48 lo).length 0 out (by omega) (by omega)
  have ih:=lp_req0 m m1 hm w sz mn h1 h2 P i ep last N qs hqs hql a ha n (k+1) (out++reqsP i ep lo qs[k].2 (partsF sz mn hi 48 lo) (last+out.length+1)) (by omega) (by simp only [List.length_append,hlen];omega)
  push_cast at ih hin
  have c1:=fun m m'=>ev_impl_LayParts m m' sz mn lo hi P q3 q4
  have hall:reqsAll sz mn i ep (qs.drop k) (last+out.length+1)=reqsP i ep lo qs[k].2 (partsF sz mn hi 48 lo) (last+out.length+1)++reqsAll sz mn i ep (qs.drop (k+1)) (last+out.length+1+(reqsP i ep lo qs[k].2 (partsF sz mn hi 48 lo) (last+out.length+1)).length):=by
   rw [List.drop_eq_getElem_cons hlt,reqsAll,q1,Int.toNat_natCast,show lo+qs[k].2.length=hi by omega,reqsF_P P.s1 _ _ lo hi _ 48 lo _ (Nat.le_refl _)]
  have y3:last+((out.length:Int)+((reqsP i ep lo qs[k].2 (partsF sz mn hi 48 lo) (last+out.length+1)).length:Int))+1=last+out.length+1+((reqsP i ep lo qs[k].2 (partsF sz mn hi 48 lo) (last+out.length+1)).length:Int):=by omega
  rw [hall]
  simp only [List.length_append] at ih
  push_cast at ih
  rw [y3] at ih
  have w1:IntKind.i64.wrap ((lo:Int)+(qs[k].2.length:Int))=(hi:Int):=by rw [wrap64]<;>omega
  rw [loopC_of _ _ _ _ ha]
  clear ha
  simp only [List.drop_zero] at hin
  generalize reqsP i ep lo qs[k].2 (partsF sz mn hi 48 lo) (last+out.length+1)=A at *
  generalize partsF sz mn hi 48 lo=pz at *
  generalize reqsAll sz mn i ep (qs.drop (k+1)) (last+out.length+1+A.length)=B at *
  simp [lp,loopsOf,Tryz.f204,hlt,hw,hm,h1,h2,c1,q1,w1]
  rw [hin _ ?_]
  ·simp [hw]
   simpa using ih
  ·rfl
theorem WorldP.numP {w:WorldT} (h:WorldP w) {i:Nat} (hi:i<3):NumP w i (w.ep i) (w.st.last.getD i 0):=by
 have h1:i<w.epochs.length:=by have:=h.epochs;omega
 have h2:i<w.st.last.length:=by have:=h.st.last;omega
 have h3:=h.st.nums i hi
 exact ⟨h1,(getD_lt _ h1).symm,h2,(getD_lt _ h2).symm,by omega,hi⟩
theorem WorldP.owB {w:WorldT} (h:WorldP w) {i:Nat} (hi:i<3):OwB (w.own i).t (w.own i).h (w.own i).d:=by
 have hb:=ownOk_bd (h.own i hi)
 have h1:=spsOk_len hb.2.1
 have h2:=spsOk_len hb.2.2.1
 exact ⟨by omega,by omega,by omega⟩
theorem WorldP.own_get {w:WorldT} (h:WorldP w) {i:Nat} (hi:i<3):∃ hl:i<w.owns.length,w.owns[i]=w.own i:=by
 have hl:i<w.owns.length:=by have:=h.owns;omega
 exact ⟨hl,(getD_lt _ hl).symm⟩
theorem WorldP.pats {w:WorldT} (h:WorldP w) {i:Nat} (hi:i<3) {s:Sp} (hs:spOk s=true):(∀ q∈patF (w.own i).t s (w.own i).d,PatOk q)∧(patF (w.own i).t s (w.own i).d).length≤12:=by
 obtain ⟨b1,b2,b3,b4⟩:=ownOk_bd (h.own i hi)
 have:=patF_len (w.own i).t s (w.own i).d
 have:=spsOk_len b3
 exact ⟨pat_ok b1 (spOk_iff.1 hs) _ (spsOk_sp b3),by omega⟩
theorem ev_requests (m m1 m2:M) (hm:m.isOwn=false) (w:WorldT) (h:WorldP w) (i:Nat) (hi:i<3) (s:Sp) (hs:spOk s=true) :
  ev E 204 [.v m true (worldL w),.v m1 false [.int .i64 i],.v m2 true (spL s)]=some { rs:=[.v .own false [.sl ((w.reqs i s).map reqL)]],outs:=[] }:=by
 obtain ⟨sz,mn,h1,h2,P⟩:=lay_nat (layOk_iff.2 h.lay)
 obtain ⟨hl,ho⟩:=h.own_get hi
 obtain ⟨hp1,hp2⟩:=h.pats hi hs
 have c1:=fun m m' hm=>ev_OwnPatches m m' hm (w.own i).t (w.own i).h (w.own i).d s (h.owB hi)
 have hpat:patI (w.own i).t (w.own i).h (w.own i).d s=patF (w.own i).t s (w.own i).d:=by
  unfold patI
  rw [if_pos (show ownOk (w.own i).t (w.own i).h (w.own i).d=true from h.own i hi),if_pos hs]
 rw [hpat] at c1
 have l0:=lp_req0 m m1 hm w sz mn h1 h2 P i _ _ (h.numP hi) _ hp1 (by omega) _ rfl (patF (w.own i).t s (w.own i).d).length 0 [] (by omega) (by simp;omega)
 have hr:w.reqs i s=reqsAll sz mn i (w.ep i) (patF (w.own i).t s (w.own i).d) (w.st.last.getD i 0+1):=by
  unfold WorldT.reqs
  rw [h1,h2,Int.toNat_natCast,Int.toNat_natCast]
 rw [hr]
 push_cast at l0
 simp only [List.drop_zero,List.nil_append,List.map_nil,List.length_nil] at l0
 push_cast at l0
 rw [Int.add_zero] at l0
 generalize patF (w.own i).t s (w.own i).d=pf at *
 generalize reqsAll sz mn i (w.ep i) pf (w.st.last.getD i 0+1)=A at *
 rw [← ho] at c1
 rw [ev_fn Tryz.f204 rfl Tryz.func204 rfl rfl rfl (Nat.le_of_ble_eq_true rfl)]
 simp [c1,hm,hl]
 rw [loopC_at ?_ l0]
 ·simp
 ·rfl
set_option maxRecDepth 100000
set_option maxHeartbeats 4000000
theorem lp_l7Reqs (m m1 m3:M) (hm:m.isOwn=false) (w:WorldT) (i:Nat) (ep:Int) (e1:i<w.epochs.length) (e2:w.epochs[i]=ep) (num:Int) (hnum:0≤num∧num≤100000) (lo hi:Nat) (x:Bs) (hx:x.length=hi - lo) (pz:List PartT) (hps:∀ p∈pz,PartOk lo hi p) (hpl:pz.length≤48) (a:Code) (ha:a=lp Tryz.f248 0):∀ (n k:Nat) (out:List ReqT),k+n=pz.length→out.length+n≤100000 →
  loopC E (ev E) 248 a { V:=[(1,.v m1 false [.int .i64 i]),(3,.v m3 false [.int .i64 num]),(4,adc 4),(6,adc 6),(9,at1 9),(10,at1 10),(11,vi k)],H:=[bxm (.c 4) m (worldL w),bx (.c 6) [.int .i64 lo,.str x],ow (.c 9) [.sl (out.map reqL)],ow (.c 10) [.sl (pz.map partL)]],ps:=[] } =
   some (.exit 0,{ V:=[(1,.v m1 false [.int .i64 i]),(3,.v m3 false [.int .i64 num]),(4,adc 4),(6,adc 6),(9,at1 9),(10,at1 10),(11,vi pz.length),(30,vb false)],H:=[bxm (.c 4) m (worldL w),bx (.c 6) [.int .i64 lo,.str x],ow (.c 9) [.sl ((out++reqsP i ep lo x (pz.drop k) (num+k)).map reqL)],ow (.c 10) [.sl (pz.map partL)]],ps:=[] })
 | 0,k,out,h,ho=>by
  rw [loopC_of _ _ _ _ ha]
  obtain rfl:k=pz.length:=by omega
  simp [lp,loopsOf,Tryz.f248,reqsP]
 | n+1,k,out,h,ho=>by
  have hlt:k<pz.length:=by omega
  have hw:=wrapN k (by omega)
  have ok:=hps _ (List.getElem_mem hlt)
  have ok1:=ok.frm
  have ok2:=ok.le
  have ok3:=ok.top
  have ok4:=ok.bd
  have ok5:=ok.h48
  have ih:=lp_l7Reqs m m1 m3 hm w i ep e1 e2 num hnum lo hi x hx pz hps hpl a ha n (k+1) (out++[⟨i,ep,num+k,pz[k].obj,pz[k].lo,(x.take (pz[k].frm - lo+(pz[k].hi - pz[k].lo))).drop (pz[k].frm - lo)⟩]) (by omega) (by simp;omega)
  push_cast at ih
  rw [loopC_of _ _ _ _ ha,List.drop_eq_getElem_cons hlt,reqsP]
  clear ha
  have w1:IntKind.i64.wrap ((pz[k].frm:Int) - lo)=((pz[k].frm - lo:Nat):Int):=by rw [wrap64]<;>omega
  have w2:IntKind.i64.wrap (num+(k:Int))=num+k:=by rw [wrap64];omega
  have w3:IntKind.i64.wrap ((pz[k].hi:Int) - pz[k].lo)=((pz[k].hi - pz[k].lo:Nat):Int):=by rw [wrap64]<;>omega
  have w5:IntKind.i64.wrap (((pz[k].frm - lo:Nat):Int)+((pz[k].hi - pz[k].lo:Nat):Int))=((pz[k].frm - lo+(pz[k].hi - pz[k].lo):Nat):Int):=by rw [wrap64]<;>omega
  have z1:(out.length+1)*56≤17592186044416:=by omega
  have z2:out.length+1≤17592186044416:=by omega
  have y1:pz[k].frm - lo+(pz[k].hi - pz[k].lo)≤x.length:=by omega
  have y2:pz[k].frm - lo≤pz[k].frm - lo+(pz[k].hi - pz[k].lo):=by omega
  have y3:num+((k:Int)+1)=num+k+1:=by omega
  rw [y3] at ih
  generalize pz[k].frm - lo=f at *
  generalize pz[k].hi - pz[k].lo=g at *
  have y4:(0:Int)≤(f:Int)+g∧(f:Int)+g≤x.length:=by omega
  have y5:(f:Int)≤(f:Int)+g:=by omega
  have y6:((f:Int)+(g:Int)).toNat=f+g:=by omega
  simp [lp,loopsOf,Tryz.f248,hlt,hw,hm,e1,e2,w1,w2,w3,w5,z1,z2,y1,y2,y4,y5,y6]
  simpa using ih
theorem ev_l7Reqs (m m1 m2 m3:M) (hm:m.isOwn=false) (w:WorldT) (sz mn:Nat) (h1:w.size=sz) (h2:w.many=mn) (P:LayP sz mn) (i:Nat) (ep:Int) (e1:i<w.epochs.length) (e2:w.epochs[i]=ep) (num:Int) (hnum:0≤num∧num≤100000) (lo hi:Nat) (x:Bs) (hx:x.length=hi - lo) (hlo:lo<hi) (hhi:hi≤48) :
  ev E 248 [.v m true (worldL w),.v m1 false [.int .i64 i],.v m2 true [.int .i64 lo,.str x],.v m3 false [.int .i64 num]]=some { rs:=[.v .own false [.sl ((reqsP i ep lo x (partsF sz mn hi 48 lo) num).map reqL)]],outs:=[] }:=by
 have c1:=fun m m'=>ev_spec_LayParts m m' sz mn lo hi P hlo hhi
 have hl48:=parts_len (sz:=sz) (mn:=mn) (hi:=hi) 48 lo
 have l0:=lp_l7Reqs m m1 m3 hm w i ep e1 e2 num hnum lo hi x hx (partsF sz mn hi 48 lo) (parts_ok P hhi 48 lo (Nat.le_refl _)) hl48 _ rfl (partsF sz mn hi 48 lo).length 0 [] (by omega) (by simp;omega)
 push_cast at l0
 simp only [List.drop_zero,List.nil_append,List.map_nil,Int.add_zero] at l0
 have w1:IntKind.i64.wrap ((lo:Int)+(x.length:Int))=(hi:Int):=by rw [wrap64]<;>omega
 generalize partsF sz mn hi 48 lo=pz at *
 rw [ev_fn Tryz.f248 rfl Tryz.func248 rfl rfl rfl (Nat.le_of_ble_eq_true rfl)]
 simp [hm,h1,h2,c1,w1]
 rw [loopC_at ?_ l0]
 ·simp
 ·rfl
theorem lp_l7All (m m1:M) (hm:m.isOwn=false) (w:WorldT) (sz mn:Nat) (h1:w.size=sz) (h2:w.many=mn) (P:LayP sz mn) (i:Nat) (ep last:Int) (N:NumP w i ep last) (qs:List Pt) (hqs:∀ q∈qs,PatOk q) (hql:qs.length≤48) (a:Code) (ha:a=lp Tryz.f211 0):∀ (n k:Nat) (out:List ReqT),k+n=qs.length→out.length+n*48≤50000 →
  loopC E (ev E) 211 a { V:=[(1,.v m1 false [.int .i64 i]),(3,adc 3),(7,at1 7),(8,at1 8),(9,vi k)],H:=[bxm (.c 3) m (worldL w),ow (.c 7) [.sl (out.map reqL)],ow (.c 8) [.sl (qs.map ptL)]],ps:=[] } =
   some (.exit 0,{ V:=[(1,.v m1 false [.int .i64 i]),(3,adc 3),(7,at1 7),(8,at1 8),(9,vi qs.length),(21,vb false)],H:=[bxm (.c 3) m (worldL w),ow (.c 7) [.sl ((out++reqsAll sz mn i ep (qs.drop k) (last+out.length+1)).map reqL)],ow (.c 8) [.sl (qs.map ptL)]],ps:=[] })
 | 0,k,out,h,ho=>by
  rw [loopC_of _ _ _ _ ha]
  obtain rfl:k=qs.length:=by omega
  simp [lp,loopsOf,Tryz.f211,reqsAll]
 | n+1,k,out,h,ho=>by
  have hlt:k<qs.length:=by omega
  have hw:=wrapN k (by omega)
  obtain ⟨lo,hi,q1,q2,q3,q4⟩:=hqs _ (List.getElem_mem hlt)
  have hl48:=parts_len (sz:=sz) (mn:=mn) (hi:=hi) 48 lo
  have hlen:=reqsP_len (i:Int) ep lo qs[k].2 (partsF sz mn hi 48 lo) (last+out.length+1)
  have l3:=N.l3
  have c1:=fun m m1 m2 m3 hm=>ev_l7Reqs m m1 m2 m3 hm w sz mn h1 h2 P i ep N.e1 N.e2 (last+out.length+1) (by omega) lo hi qs[k].2 q2 q3 q4
  have ih:=lp_l7All m m1 hm w sz mn h1 h2 P i ep last N qs hqs hql a ha n (k+1) (out++reqsP i ep lo qs[k].2 (partsF sz mn hi 48 lo) (last+out.length+1)) (by omega) (by simp only [List.length_append,hlen];omega)
  push_cast at ih
  have hall:reqsAll sz mn i ep (qs.drop k) (last+out.length+1)=reqsP i ep lo qs[k].2 (partsF sz mn hi 48 lo) (last+out.length+1)++reqsAll sz mn i ep (qs.drop (k+1)) (last+out.length+1+(reqsP i ep lo qs[k].2 (partsF sz mn hi 48 lo) (last+out.length+1)).length):=by
   rw [List.drop_eq_getElem_cons hlt,reqsAll,q1,Int.toNat_natCast,show lo+qs[k].2.length=hi by omega,reqsF_P P.s1 _ _ lo hi _ 48 lo _ (Nat.le_refl _)]
  have y3:last+((out.length:Int)+((reqsP i ep lo qs[k].2 (partsF sz mn hi 48 lo) (last+out.length+1)).length:Int))+1=last+out.length+1+((reqsP i ep lo qs[k].2 (partsF sz mn hi 48 lo) (last+out.length+1)).length:Int):=by omega
  rw [hall]
  simp only [List.length_append] at ih
  push_cast at ih
  rw [y3] at ih
  have w1:IntKind.i64.wrap (last+1)=last+1:=by rw [wrap64];omega
  have w2:IntKind.i64.wrap (last+1+(out.length:Int))=last+out.length+1:=by rw [wrap64]<;>omega
  obtain ⟨N1,N2,N3,N4,N5,N6⟩:=N
  rw [loopC_of _ _ _ _ ha]
  clear ha
  generalize reqsP i ep lo qs[k].2 (partsF sz mn hi 48 lo) (last+out.length+1)=A at *
  have z0:A.length≤48:=by omega
  have z1:(out.length+A.length)*56≤17592186044416:=by omega
  have z2:out.length+A.length≤17592186044416:=by omega
  generalize partsF sz mn hi 48 lo=pz at *
  generalize reqsAll sz mn i ep (qs.drop (k+1)) (last+out.length+1+A.length)=B at *
  simp [lp,loopsOf,Tryz.f211,hlt,hw,hm,c1,q1,w1,w2,N1,N2,N3,N4,z1,z2]
  simpa using ih
theorem ev_l7All (m m1 m2:M) (hm:m.isOwn=false) (w:WorldT) (h:WorldP w) (i:Nat) (hi:i<3) (s:Sp) (hs:spOk s=true) :
  ev E 211 [.v m true (worldL w),.v m1 false [.int .i64 i],.v m2 true (spL s)]=some { rs:=[.v .own false [.sl ((w.reqs i s).map reqL)]],outs:=[] }:=by
 obtain ⟨sz,mn,h1,h2,P⟩:=lay_nat (layOk_iff.2 h.lay)
 obtain ⟨hl,ho⟩:=h.own_get hi
 obtain ⟨hp1,hp2⟩:=h.pats hi hs
 obtain ⟨b1,b2,b3,b4⟩:=ownOk_bd (h.own i hi)
 have hb3:=spsOk_len b3
 have c1:=fun m m' hm=>ev_l6Patches m m' hm (w.own i).t (w.own i).h (w.own i).d s b1 (spsOk_sp b3) (spOk_iff.1 hs) (by omega)
 have l0:=lp_l7All m m1 hm w sz mn h1 h2 P i _ _ (h.numP hi) _ hp1 (by omega) _ rfl (patF (w.own i).t s (w.own i).d).length 0 [] (by omega) (by simp;omega)
 have hr:w.reqs i s=reqsAll sz mn i (w.ep i) (patF (w.own i).t s (w.own i).d) (w.st.last.getD i 0+1):=by
  unfold WorldT.reqs
  rw [h1,h2,Int.toNat_natCast,Int.toNat_natCast]
 rw [hr]
 push_cast at l0
 simp only [List.drop_zero,List.nil_append,List.map_nil,List.length_nil] at l0
 push_cast at l0
 rw [Int.add_zero] at l0
 generalize patF (w.own i).t s (w.own i).d=pf at *
 generalize reqsAll sz mn i (w.ep i) pf (w.st.last.getD i 0+1)=A at *
 rw [← ho] at c1
 rw [ev_fn Tryz.f211 rfl Tryz.func211 rfl rfl rfl (Nat.le_of_ble_eq_true rfl)]
 simp [c1,hm,hl]
 rw [loopC_at ?_ l0]
 ·simp
 ·rfl
def lastSum (s:StoreT):Int:=s.last.getD 0 0+s.last.getD 1 0+s.last.getD 2 0
theorem lastSum_do {s:StoreT} {q:ReqT} (P:StoreP s) (h:(storeDo s q).2=0):lastSum (storeDo s q).1=lastSum s+1:=by
 obtain ⟨h1,h2,h3,h4⟩:=storeDo_fine h
 obtain ⟨w1,w2⟩:=h1.who
 have hl:=P.last
 rw [h4]
 simp only [lastSum,getD_set]
 rcases (by omega:q.who.toNat=0∨q.who.toNat=1∨q.who.toNat=2) with e | e | e<;>rw [e] at h3 ⊢
 ·rw [if_pos ⟨rfl,by omega⟩,if_neg (by omega),if_neg (by omega)];omega
 ·rw [if_neg (by omega),if_pos ⟨rfl,by omega⟩,if_neg (by omega)];omega
 ·rw [if_neg (by omega),if_neg (by omega),if_pos ⟨rfl,by omega⟩];omega
theorem lastSum_all:∀ (qs:List ReqT) {s:StoreT},StoreP s→(storeAll s qs).2=zeros qs→lastSum (storeAll s qs).1=lastSum s+qs.length
 | [],s,P,h=>by simp [storeAll]
 | q::qs,s,P,h=>by
  simp only [storeAll,zeros,List.map_cons,List.cons.injEq] at h ⊢
  rw [lastSum_all qs (storeDo_ok q P) h.2,lastSum_do P h.1]
  simp;omega
theorem fall_ok {s:StoreT} (h:StoreP s):StoreP (storeFall s) :=
 ⟨h.sure,h.sureT,h.sure,h.sureT,h.slast,h.slast,h.floors,fun i hi=>by have:=h.nums i hi;simp only [storeFall];omega⟩
theorem WorldP.keptN {w:WorldT} (h:WorldP w):w.kept.length≤3000:=by
 have h1:=lastSum_all w.kept (fall_ok h.st) (congrArg Prod.snd h.kept)
 rw [h.kept] at h1
 have n0:=h.st.nums 0 (by omega)
 have n1:=h.st.nums 1 (by omega)
 have n2:=h.st.nums 2 (by omega)
 simp only [lastSum,storeFall] at h1
 omega
theorem reqs_len {sz mn:Nat} (P:LayP sz mn) (who ep:Int):∀ (qs:List Pt) (num:Int),(∀ q∈qs,PatOk q)→(reqsAll sz mn who ep qs num).length≤qs.length*48∧∀ q∈reqsAll sz mn who ep qs num,q.data.length≤4000000
 | [],num,_=>by simp [reqsAll]
 | q::qs,num,hq=>by
  obtain ⟨lo,hi,q1,q2,q3,q4⟩:=hq q (by simp)
  obtain ⟨g1,g2⟩:=reqs_len P who ep qs (num+(reqsF sz mn who ep q.1.toNat q.2 (q.1.toNat+q.2.length) 48 q.1.toNat num).length) fun r hr=>hq r (by simp [hr])
  rw [reqsAll]
  rw [q1,Int.toNat_natCast,show lo+q.2.length=hi by omega] at g1 g2 ⊢
  rw [reqsF_P P.s1 who ep lo hi _ 48 lo _ (Nat.le_refl _)] at g1 g2 ⊢
  have hl:=reqsP_len who ep lo q.2 (partsF sz mn hi 48 lo) num
  have h48:=parts_len (sz:=sz) (mn:=mn) (hi:=hi) 48 lo
  rw [hl] at g1 g2 ⊢
  refine ⟨by simp only [List.length_append,List.length_cons,hl];omega,fun r hr=>?_⟩
  rcases List.mem_append.1 hr with hr | hr
  ·have:∀ (ps:List PartT) (num:Int),∀ r∈reqsP who ep lo q.2 ps num,r.data.length≤4000000:=by
    intro ps
    induction ps with
    | nil=>intro num r hr;simp [reqsP] at hr
    | cons p ps ih =>
     intro num r hr
     rw [reqsP] at hr
     rcases List.mem_cons.1 hr with rfl | hr
     ·simp only [List.length_drop,List.length_take];omega
     ·exact ih _ r hr
   exact this _ _ r hr
  ·exact g2 r hr
theorem WorldP.reqsB {w:WorldT} (h:WorldP w) {i:Nat} (hi:i<3) {s:Sp} (hs:spOk s=true):(w.reqs i s).length≤600∧∀ q∈w.reqs i s,q.data.length≤4000000:=by
 obtain ⟨sz,mn,h1,h2,P⟩:=lay_nat (layOk_iff.2 h.lay)
 obtain ⟨hp1,hp2⟩:=h.pats hi hs
 have hr:w.reqs i s=reqsAll sz mn i (w.ep i) (patF (w.own i).t s (w.own i).d) (w.st.last.getD i 0+1):=by
  unfold WorldT.reqs
  rw [h1,h2,Int.toNat_natCast,Int.toNat_natCast]
 obtain ⟨g1,g2⟩:=reqs_len P i (w.ep i) (patF (w.own i).t s (w.own i).d) (w.st.last.getD i 0+1) hp1
 rw [hr]
 exact ⟨by omega,g2⟩
end Go.Ev

