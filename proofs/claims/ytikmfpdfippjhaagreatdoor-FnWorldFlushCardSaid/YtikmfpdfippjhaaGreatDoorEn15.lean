/- My texts joined: EvT71, EvT72, EvT37, EvM3, EvT73, EvT74, EvT75, EvT76. No condition. -/
import Derived.Test.YtikmfpdfippjhaaGreatDoorEn9
import Derived.Test.YtikmfpdfippjhaaGreatDoorEn10
import Derived.Test.YtikmfpdfippjhaaGreatDoorEn14
set_option linter.unusedVariables false
set_option linter.unusedSimpArgs false

set_option maxRecDepth 100000
set_option maxHeartbeats 4000000
namespace Go.Ev
open Go.Proofs
theorem lp_l7Reqs (m m1 m3:M) (hm:m.isOwn=false) (w:WorldT) (i:Nat) (ep:Int) (e1:i<w.epochs.length) (e2:w.epochs[i]=ep) (num:Int) (hnum:0≤num∧num≤100000) (lo hi:Nat) (x:Bs) (hx:x.length=hi - lo) (pz:List PartT) (hps:∀ p∈pz,PartOk lo hi p) (hpl:pz.length≤48) (a:Code) (ha:a=lp Tryz.f189 0):∀ (n k:Nat) (out:List ReqT),k+n=pz.length→out.length+n≤100000 →
    loopC E (ev E) 189 a { V:=[(1,.v m1 false [.int .i64 i]),(3,.v m3 false [.int .i64 num]),(4,adc 4),(6,adc 6),(9,at1 9),(10,at1 10),(11,vi k)],H:=[bxm (.c 4) m (worldL w),bx (.c 6) [.int .i64 lo,.str x],ow (.c 9) [.sl (out.map reqL)],ow (.c 10) [.sl (pz.map partL)]],ps:=[] } =
      some (.exit 0,{ V:=[(1,.v m1 false [.int .i64 i]),(3,.v m3 false [.int .i64 num]),(4,adc 4),(6,adc 6),(9,at1 9),(10,at1 10),(11,vi pz.length),(30,vb false)],H:=[bxm (.c 4) m (worldL w),bx (.c 6) [.int .i64 lo,.str x],ow (.c 9) [.sl ((out++reqsP i ep lo x (pz.drop k) (num+k)).map reqL)],ow (.c 10) [.sl (pz.map partL)]],ps:=[] })
  | 0,k,out,h,ho=>by
    rw [loopC_of _ _ _ _ ha]
    obtain rfl:k=pz.length:=by omega
    simp [lp,loopsOf,Tryz.f189,reqsP]
  | n+1,k,out,h,ho=>by
    have hlt:k<pz.length:=by omega
    have hw:=wrapN k (by omega)
    have ok:=hps _ (List.getElem_mem hlt)
    have ok1:=ok.frm
    have ok2:=ok.le
    have ok3:=ok.top
    have ok4:=ok.bd
    have ok5:=ok.h48
    have ih:=lp_l7Reqs m m1 m3 hm w i ep e1 e2 num hnum lo hi x hx pz hps hpl a ha n (k+1) (out++[⟨i,ep,num+k,pz[k].obj,pz[k].lo,(x.take (pz[k].frm - lo+(pz[k].hi - pz[k].lo))).drop (pz[k].frm - lo)⟩]) (by omega) (by simp;omega)
    push_cast at ih
    rw [loopC_of _ _ _ _ ha,List.drop_eq_getElem_cons hlt,reqsP]
    clear ha
    have w1:IntKind.i64.wrap ((pz[k].frm:Int) - lo)=((pz[k].frm - lo:Nat):Int):=by rw [wrap64]<;>omega
    have w2:IntKind.i64.wrap (num+(k:Int))=num+k:=by rw [wrap64];omega
    have w3:IntKind.i64.wrap ((pz[k].hi:Int) - pz[k].lo)=((pz[k].hi - pz[k].lo:Nat):Int):=by rw [wrap64]<;>omega
    have w5:IntKind.i64.wrap (((pz[k].frm - lo:Nat):Int)+((pz[k].hi - pz[k].lo:Nat):Int))=((pz[k].frm - lo+(pz[k].hi - pz[k].lo):Nat):Int):=by rw [wrap64]<;>omega
    have z1:(out.length+1)*56≤17592186044416:=by omega
    have z2:out.length+1≤17592186044416:=by omega
    have y1:pz[k].frm - lo+(pz[k].hi - pz[k].lo)≤x.length:=by omega
    have y2:pz[k].frm - lo≤pz[k].frm - lo+(pz[k].hi - pz[k].lo):=by omega
    have y3:num+((k:Int)+1)=num+k+1:=by omega
    rw [y3] at ih
    generalize pz[k].frm - lo=f at *
    generalize pz[k].hi - pz[k].lo=g at *
    have y4:(0:Int)≤(f:Int)+g∧(f:Int)+g≤x.length:=by omega
    have y5:(f:Int)≤(f:Int)+g:=by omega
    have y6:((f:Int)+(g:Int)).toNat=f+g:=by omega
    simp [lp,loopsOf,Tryz.f189,hlt,hw,hm,e1,e2,w1,w2,w3,w5,z1,z2,y1,y2,y4,y5,y6]
    simpa using ih
theorem ev_l7Reqs (m m1 m2 m3:M) (hm:m.isOwn=false) (w:WorldT) (sz mn:Nat) (h1:w.size=sz) (h2:w.many=mn) (P:LayP sz mn) (i:Nat) (ep:Int) (e1:i<w.epochs.length) (e2:w.epochs[i]=ep) (num:Int) (hnum:0≤num∧num≤100000) (lo hi:Nat) (x:Bs) (hx:x.length=hi - lo) (hlo:lo<hi) (hhi:hi≤48) :
    ev E 189 [.v m true (worldL w),.v m1 false [.int .i64 i],.v m2 true [.int .i64 lo,.str x],.v m3 false [.int .i64 num]]=some { rs:=[.v .own false [.sl ((reqsP i ep lo x (partsF sz mn hi 48 lo) num).map reqL)]],outs:=[] }:=by
  have c1:=fun m m'=>ev_spec_LayParts m m' sz mn lo hi P hlo hhi
  have hl48:=parts_len (sz:=sz) (mn:=mn) (hi:=hi) 48 lo
  have l0:=lp_l7Reqs m m1 m3 hm w i ep e1 e2 num hnum lo hi x hx (partsF sz mn hi 48 lo) (parts_ok P hhi 48 lo (Nat.le_refl _)) hl48 _ rfl (partsF sz mn hi 48 lo).length 0 [] (by omega) (by simp;omega)
  push_cast at l0
  simp only [List.drop_zero,List.nil_append,List.map_nil,Int.add_zero] at l0
  have w1:IntKind.i64.wrap ((lo:Int)+(x.length:Int))=(hi:Int):=by rw [wrap64]<;>omega
  generalize partsF sz mn hi 48 lo=pz at *
  rw [ev_fn Tryz.f189 rfl Tryz.func189 rfl rfl rfl (Nat.le_of_ble_eq_true rfl)]
  simp [hm,h1,h2,c1,w1]
  rw [loopC_at ?_ l0]
  · simp
  · rfl
theorem lp_l7All (m m1:M) (hm:m.isOwn=false) (w:WorldT) (sz mn:Nat) (h1:w.size=sz) (h2:w.many=mn) (P:LayP sz mn) (i:Nat) (ep last:Int) (N:NumP w i ep last) (qs:List Pt) (hqs:∀ q∈qs,PatOk q) (hql:qs.length≤48) (a:Code) (ha:a=lp Tryz.f148 0):∀ (n k:Nat) (out:List ReqT),k+n=qs.length→out.length+n*48≤50000 →
    loopC E (ev E) 148 a { V:=[(1,.v m1 false [.int .i64 i]),(3,adc 3),(7,at1 7),(8,at1 8),(9,vi k)],H:=[bxm (.c 3) m (worldL w),ow (.c 7) [.sl (out.map reqL)],ow (.c 8) [.sl (qs.map ptL)]],ps:=[] } =
      some (.exit 0,{ V:=[(1,.v m1 false [.int .i64 i]),(3,adc 3),(7,at1 7),(8,at1 8),(9,vi qs.length),(21,vb false)],H:=[bxm (.c 3) m (worldL w),ow (.c 7) [.sl ((out++reqsAll sz mn i ep (qs.drop k) (last+out.length+1)).map reqL)],ow (.c 8) [.sl (qs.map ptL)]],ps:=[] })
  | 0,k,out,h,ho=>by
    rw [loopC_of _ _ _ _ ha]
    obtain rfl:k=qs.length:=by omega
    simp [lp,loopsOf,Tryz.f148,reqsAll]
  | n+1,k,out,h,ho=>by
    have hlt:k<qs.length:=by omega
    have hw:=wrapN k (by omega)
    obtain ⟨lo,hi,q1,q2,q3,q4⟩:=hqs _ (List.getElem_mem hlt)
    have hl48:=parts_len (sz:=sz) (mn:=mn) (hi:=hi) 48 lo
    have hlen:=reqsP_len (i:Int) ep lo qs[k].2 (partsF sz mn hi 48 lo) (last+out.length+1)
    have l3:=N.l3
    have c1:=fun m m1 m2 m3 hm=>ev_l7Reqs m m1 m2 m3 hm w sz mn h1 h2 P i ep N.e1 N.e2 (last+out.length+1) (by omega) lo hi qs[k].2 q2 q3 q4
    have ih:=lp_l7All m m1 hm w sz mn h1 h2 P i ep last N qs hqs hql a ha n (k+1) (out++reqsP i ep lo qs[k].2 (partsF sz mn hi 48 lo) (last+out.length+1)) (by omega) (by simp only [List.length_append,hlen];omega)
    push_cast at ih
    have hall:reqsAll sz mn i ep (qs.drop k) (last+out.length+1)=reqsP i ep lo qs[k].2 (partsF sz mn hi 48 lo) (last+out.length+1)++reqsAll sz mn i ep (qs.drop (k+1)) (last+out.length+1+(reqsP i ep lo qs[k].2 (partsF sz mn hi 48 lo) (last+out.length+1)).length):=by
      rw [List.drop_eq_getElem_cons hlt,reqsAll,q1,Int.toNat_natCast,show lo+qs[k].2.length=hi by omega,reqsF_P P.s1 _ _ lo hi _ 48 lo _ (Nat.le_refl _)]
    have y3:last+((out.length:Int)+((reqsP i ep lo qs[k].2 (partsF sz mn hi 48 lo) (last+out.length+1)).length:Int))+1=last+out.length+1+((reqsP i ep lo qs[k].2 (partsF sz mn hi 48 lo) (last+out.length+1)).length:Int):=by omega
    rw [hall]
    simp only [List.length_append] at ih
    push_cast at ih
    rw [y3] at ih
    have w1:IntKind.i64.wrap (last+1)=last+1:=by rw [wrap64];omega
    have w2:IntKind.i64.wrap (last+1+(out.length:Int))=last+out.length+1:=by rw [wrap64]<;>omega
    obtain ⟨N1,N2,N3,N4,N5,N6⟩:=N
    rw [loopC_of _ _ _ _ ha]
    clear ha
    generalize reqsP i ep lo qs[k].2 (partsF sz mn hi 48 lo) (last+out.length+1)=A at *
    have z0:A.length≤48:=by omega
    have z1:(out.length+A.length)*56≤17592186044416:=by omega
    have z2:out.length+A.length≤17592186044416:=by omega
    generalize partsF sz mn hi 48 lo=pz at *
    generalize reqsAll sz mn i ep (qs.drop (k+1)) (last+out.length+1+A.length)=B at *
    simp [lp,loopsOf,Tryz.f148,hlt,hw,hm,c1,q1,w1,w2,N1,N2,N3,N4,z1,z2]
    simpa using ih
theorem ev_l7All (m m1 m2:M) (hm:m.isOwn=false) (w:WorldT) (h:WorldP w) (i:Nat) (hi:i<3) (s:Sp) (hs:spOk s=true) :
    ev E 148 [.v m true (worldL w),.v m1 false [.int .i64 i],.v m2 true (spL s)]=some { rs:=[.v .own false [.sl ((w.reqs i s).map reqL)]],outs:=[] }:=by
  obtain ⟨sz,mn,h1,h2,P⟩:=lay_nat (layOk_iff.2 h.lay)
  obtain ⟨hl,ho⟩:=h.own_get hi
  obtain ⟨hp1,hp2⟩:=h.pats hi hs
  obtain ⟨b1,b2,b3,b4⟩:=ownOk_bd (h.own i hi)
  have hb3:=spsOk_len b3
  have c1:=fun m m' hm=>ev_l6Patches m m' hm (w.own i).t (w.own i).h (w.own i).d s b1 (spsOk_sp b3) (spOk_iff.1 hs) (by omega)
  have l0:=lp_l7All m m1 hm w sz mn h1 h2 P i _ _ (h.numP hi) _ hp1 (by omega) _ rfl (patF (w.own i).t s (w.own i).d).length 0 [] (by omega) (by simp;omega)
  have hr:w.reqs i s=reqsAll sz mn i (w.ep i) (patF (w.own i).t s (w.own i).d) (w.st.last.getD i 0+1):=by
    unfold WorldT.reqs
    rw [h1,h2,Int.toNat_natCast,Int.toNat_natCast]
  rw [hr]
  push_cast at l0
  simp only [List.drop_zero,List.nil_append,List.map_nil,List.length_nil] at l0
  push_cast at l0
  rw [Int.add_zero] at l0
  generalize patF (w.own i).t s (w.own i).d=pf at *
  generalize reqsAll sz mn i (w.ep i) pf (w.st.last.getD i 0+1)=A at *
  rw [← ho] at c1
  rw [ev_fn Tryz.f148 rfl Tryz.func148 rfl rfl rfl (Nat.le_of_ble_eq_true rfl)]
  simp [c1,hm,hl]
  rw [loopC_at ?_ l0]
  · simp
  · rfl
def lastSum (s:StoreT):Int:=s.last.getD 0 0+s.last.getD 1 0+s.last.getD 2 0
theorem lastSum_do {s:StoreT} {q:ReqT} (P:StoreP s) (h:(storeDo s q).2=0):lastSum (storeDo s q).1=lastSum s+1:=by
  obtain ⟨h1,h2,h3,h4⟩:=storeDo_fine h
  obtain ⟨w1,w2⟩:=h1.who
  have hl:=P.last
  rw [h4]
  simp only [lastSum,getD_set]
  rcases (by omega:q.who.toNat=0∨q.who.toNat=1∨q.who.toNat=2) with e | e | e<;>rw [e] at h3 ⊢
  · rw [if_pos ⟨rfl,by omega⟩,if_neg (by omega),if_neg (by omega)];omega
  · rw [if_neg (by omega),if_pos ⟨rfl,by omega⟩,if_neg (by omega)];omega
  · rw [if_neg (by omega),if_neg (by omega),if_pos ⟨rfl,by omega⟩];omega
theorem lastSum_all:∀ (qs:List ReqT) {s:StoreT},StoreP s→(storeAll s qs).2=zeros qs→lastSum (storeAll s qs).1=lastSum s+qs.length
  | [],s,P,h=>by simp [storeAll]
  | q::qs,s,P,h=>by
    simp only [storeAll,zeros,List.map_cons,List.cons.injEq] at h ⊢
    rw [lastSum_all qs (storeDo_ok q P) h.2,lastSum_do P h.1]
    simp;omega
theorem fall_ok {s:StoreT} (h:StoreP s):StoreP (storeFall s) :=
  ⟨h.sure,h.sureT,h.sure,h.sureT,h.slast,h.slast,h.floors,fun i hi=>by have:=h.nums i hi;simp only [storeFall];omega⟩
theorem WorldP.keptN {w:WorldT} (h:WorldP w):w.kept.length≤3000:=by
  have h1:=lastSum_all w.kept (fall_ok h.st) (congrArg Prod.snd h.kept)
  rw [h.kept] at h1
  have n0:=h.st.nums 0 (by omega)
  have n1:=h.st.nums 1 (by omega)
  have n2:=h.st.nums 2 (by omega)
  simp only [lastSum,storeFall] at h1
  omega
theorem reqs_len {sz mn:Nat} (P:LayP sz mn) (who ep:Int):∀ (qs:List Pt) (num:Int),(∀ q∈qs,PatOk q)→(reqsAll sz mn who ep qs num).length≤qs.length*48∧∀ q∈reqsAll sz mn who ep qs num,q.data.length≤4000000
  | [],num,_=>by simp [reqsAll]
  | q::qs,num,hq=>by
    obtain ⟨lo,hi,q1,q2,q3,q4⟩:=hq q (by simp)
    obtain ⟨g1,g2⟩:=reqs_len P who ep qs (num+(reqsF sz mn who ep q.1.toNat q.2 (q.1.toNat+q.2.length) 48 q.1.toNat num).length) fun r hr=>hq r (by simp [hr])
    rw [reqsAll]
    rw [q1,Int.toNat_natCast,show lo+q.2.length=hi by omega] at g1 g2 ⊢
    rw [reqsF_P P.s1 who ep lo hi _ 48 lo _ (Nat.le_refl _)] at g1 g2 ⊢
    have hl:=reqsP_len who ep lo q.2 (partsF sz mn hi 48 lo) num
    have h48:=parts_len (sz:=sz) (mn:=mn) (hi:=hi) 48 lo
    rw [hl] at g1 g2 ⊢
    refine ⟨by simp only [List.length_append,List.length_cons,hl];omega,fun r hr=>?_⟩
    rcases List.mem_append.1 hr with hr | hr
    · have:∀ (ps:List PartT) (num:Int),∀ r∈reqsP who ep lo q.2 ps num,r.data.length≤4000000:=by
        intro ps
        induction ps with
        | nil=>intro num r hr;simp [reqsP] at hr
        | cons p ps ih =>
          intro num r hr
          rw [reqsP] at hr
          rcases List.mem_cons.1 hr with rfl | hr
          · simp only [List.length_drop,List.length_take];omega
          · exact ih _ r hr
      exact this _ _ r hr
    · exact g2 r hr
theorem WorldP.reqsB {w:WorldT} (h:WorldP w) {i:Nat} (hi:i<3) {s:Sp} (hs:spOk s=true):(w.reqs i s).length≤600∧∀ q∈w.reqs i s,q.data.length≤4000000:=by
  obtain ⟨sz,mn,h1,h2,P⟩:=lay_nat (layOk_iff.2 h.lay)
  obtain ⟨hp1,hp2⟩:=h.pats hi hs
  have hr:w.reqs i s=reqsAll sz mn i (w.ep i) (patF (w.own i).t s (w.own i).d) (w.st.last.getD i 0+1):=by
    unfold WorldT.reqs
    rw [h1,h2,Int.toNat_natCast,Int.toNat_natCast]
  obtain ⟨g1,g2⟩:=reqs_len P i (w.ep i) (patF (w.own i).t s (w.own i).d) (w.st.last.getD i 0+1) hp1
  rw [hr]
  exact ⟨by omega,g2⟩
set_option maxRecDepth 100000
set_option maxHeartbeats 4000000
def badAt:List Int→Int→Int
  | [],_=>-1
  | c::cs,i=>if eqI c 0=true then badAt cs (i+1) else i
theorem badAt_nn:∀ (cs:List Int) (i:Int),0≤i→(!ltI (badAt cs i) 0)=!(cs.all fun c=>eqI c 0)
  | [],i,h=>by simp [badAt,ltI]
  | c::cs,i,h=>by
    rw [badAt]
    cases e:eqI c 0
    · have:ltI i 0=false:=ltI_not.2 h
      simp [this,e]
    · simp only [if_true,List.all_cons,e,Bool.true_and]
      exact badAt_nn cs (i+1) (by omega)
theorem ev_badFn (m:M) (c:Int):ev E 134 [.v m false [.int .i64 c]]=some (rB (!eqI c 0)):=by
  rw [ev_fn Tryz.f134 rfl Tryz.func134 rfl rfl rfl (Nat.le_of_ble_eq_true rfl)]
  cases e:eqI c 0<;>simp [e]
theorem lp_Index (m mf:M) (hm:m.isOwn=false) (cs:List Int) (hc:cs.length≤4000000) (a:Code) (ha:a=lp Tryz.f181 0):∀ (n i:Nat),i+n=cs.length →
    loopC E (ev E) 181 a { V:=[(0,.v m false [.sl (intsL cs)]),(1,.v mf false [.fn 134 []]),(7,vi cs.length),(8,vi i)],H:=[],ps:=[] } =
      if ((cs.drop i).all fun c=>eqI c 0)=true then some (.exit 0,{ V:=[(0,.v m false [.sl (intsL cs)]),(1,.v mf false [.fn 134 []]),(7,vi cs.length),(8,vi cs.length),(9,vb false)],H:=[],ps:=[] })
      else some (.ret,{ V:=[(4,vi (badAt (cs.drop i) i))],H:=[],ps:=[] })
  | 0,i,h=>by
    rw [loopC_of _ _ _ _ ha]
    obtain rfl:i=cs.length:=by omega
    simp [lp,loopsOf,Tryz.f181]
  | n+1,i,h=>by
    have hlt:i<cs.length:=by omega
    have hw:=wrapN i (by omega)
    have ih:=lp_Index m mf hm cs hc a ha n (i+1) (by omega)
    push_cast at ih
    have c1:=fun m=>ev_badFn m cs[i]
    rw [loopC_of _ _ _ _ ha,List.drop_eq_getElem_cons hlt,List.all_cons,badAt]
    clear ha
    generalize badAt (cs.drop (i+1)) ((i:Int)+1)=b at *
    generalize (cs.drop (i+1)).all (fun c=>eqI c 0)=r at ih ⊢
    cases e:eqI cs[i] 0<;>simp [lp,loopsOf,Tryz.f181,hlt,hw,hm,c1,e,ih]
theorem ev_Contains (m mf:M) (hm:m.isOwn=false) (cs:List Int) (hc:cs.length≤4000000):ev E 133 [.v m false [.sl (intsL cs)],.v mf false [.fn 134 []]]=some (rB (!(cs.all fun c=>eqI c 0))):=by
  have c1:∀ m mf,m.isOwn=false→ev E 181 [.v m false [.sl (intsL cs)],.v mf false [.fn 134 []]]=some (rI (if (cs.all fun c=>eqI c 0)=true then -1 else badAt cs 0)):=fun m mf hm=>by
    have l0:=fun a ha=>lp_Index m mf hm cs hc a ha cs.length 0 (by omega)
    push_cast at l0
    simp only [List.drop_zero] at l0
    rw [ev_fn Tryz.f181 rfl Tryz.func181 rfl rfl rfl (Nat.le_of_ble_eq_true rfl)]
    generalize badAt cs 0=b at *
    generalize (cs.all fun c=>eqI c 0)=r at l0 ⊢
    simp
    rw [l0 _ ?_]
    · cases r<;>simp
    · rfl
  have hb:=badAt_nn cs 0 (by omega)
  rw [ev_fn Tryz.f133 rfl Tryz.func133 rfl rfl rfl (Nat.le_of_ble_eq_true rfl)]
  generalize (cs.all fun c=>eqI c 0)=r at *
  cases r
  · simp only [Bool.false_eq_true,if_false] at c1
    have:ltI (badAt cs 0) 0=false:=by simpa using hb
    simp [c1,hm,this]
  · simp [c1,hm]
def backsW (w:WorldT) (i:Nat) (s:Sp):WorldT:={ w with st:=(storeAll w.st (w.reqs i s)).1,owns:=w.owns.set i (cleanT (w.own i) s).1,kept:=w.kept++w.reqs i s }
def backsB (w:WorldT) (i:Nat) (s:Sp):Bool:=(cleanT (w.own i) s).2&&(storeAll w.st (w.reqs i s)).2.all fun c=>eqI c 0
theorem flush_backs (w:WorldT) (i:Nat) (s:Sp):flushW w i s=if backsB w i s=true then some (backsW w i s) else none:=by
  unfold flushW backsB backsW
  cases (storeAll w.st (w.reqs i s)).2.all fun c=>eqI c 0<;>cases (cleanT (w.own i) s).2<;>rfl
theorem clean_chg {o:OwnT} (h:o.ok=true) (p:Sp):chgI o.t o.h o.d (spOk p) (inF o.h) (fun j=>if inF [p] j=true then false else inF o.d j)=rOB (cleanT o p).1.t (cleanT o p).1.h (cleanT o p).1.d (cleanT o p).2:=by
  have h1:spansF (inF o.h) 48 0=o.h:=spans_self (ownOk_bd h).2.1
  have h2:spansF (fun j=>if inF [p] j=true then false else inF o.d j) 48 0=cutS o.d p:=spans_cut o.d p
  unfold chgI cleanT
  have h':ownOk o.t o.h o.d=true:=h
  rw [h1,h2,if_pos h']
  cases spOk p
  · rfl
  · simp only [if_true]
    cases ownOk o.t o.h (cutS o.d p)<;>rfl
theorem clean_spec {o:OwnT} (h:o.ok=true) (p:Sp):cleanS o.t o.h o.d p=rOB (cleanT o p).1.t (cleanT o p).1.h (cleanT o p).1.d (cleanT o p).2:=by
  unfold cleanS cleanT
  have h':ownOk o.t o.h o.d=true:=h
  rw [if_pos h']
  cases spOk p
  · rfl
  · simp only [if_true]
    cases ownOk o.t o.h (cutS o.d p)<;>rfl
theorem ev_backs (m1 m2:M) (w:WorldT) (h:WorldP w) (i:Nat) (hi:i<3) (s:Sp) (hs:spOk s=true) :
    ev E 90 [.ptr .own (worldL w),.v m1 false [.int .i64 i],.v m2 true (spL s)]=some { rs:=[.v .own false [.bool (backsB w i s)]],outs:=[(.own,worldL (backsW w i s))] }:=by
  obtain ⟨r1,r2⟩:=h.reqsB hi hs
  obtain ⟨hl,ho⟩:=h.own_get hi
  have c1:=fun m m1 m2 hm=>ev_requests m m1 m2 hm w h i hi s hs
  have c2:=fun m m' hm hm'=>ev_impl_StoreAll m m' hm hm' w.st (w.reqs i s) h.st.bd (by omega) r2
  simp only [storeOk_iff.2 h.st,if_true,rStA] at c2
  have c3:=fun m m' hm=>ev_impl_OwnClean m m' hm (w.own i).t (w.own i).h (w.own i).d s (h.owB hi)
  rw [clean_chg (h.own i hi)] at c3
  have hcl:=storeAll_len (w.reqs i s) w.st
  have c4:=fun m mf hm=>ev_Contains m mf hm (storeAll w.st (w.reqs i s)).2 (by omega)
  have hk:=h.keptN
  have z1:(w.kept.length+(w.reqs i s).length)*56≤17592186044416:=by omega
  have z2:w.kept.length+(w.reqs i s).length≤17592186044416:=by omega
  simp only [backsW,backsB]
  generalize w.reqs i s=qs at *
  generalize storeAll w.st qs=st at *
  rw [← ho] at c3 ⊢
  generalize cleanT w.owns[i] s=cl at *
  obtain ⟨o,b⟩:=cl
  dsimp only at c3 ⊢
  generalize hall:(st.2.all fun c=>eqI c 0)=al at *
  rw [ev_fn Tryz.f90 rfl Tryz.func90 rfl rfl rfl (Nat.le_of_ble_eq_true rfl)]
  cases b
  · simp [c1,c2,c3,hl,z1,z2,List.map_set]
  · cases al<;>simp [c1,c2,c3,c4,hl,z1,z2,List.map_set]
set_option maxRecDepth 100000
set_option maxHeartbeats 4000000
theorem rows_over (s x:List UInt8) (k:Nat):(rowsOfBytes s).take k++(rowsOfBytes x++(rowsOfBytes s).drop (k+x.length))=rowsOfBytes (overS s ((k:Int),(k:Int)+x.length) x):=by
  have h2:((k:Int)+x.length).toNat=k+x.length:=by omega
  simp [overS,rowsOfBytes,h2]
theorem rows_one (s:List UInt8):∀ x∈rowsOfBytes s,x.length=1:=by
  intro x hx
  simp only [rowsOfBytes,List.mem_map] at hx
  obtain ⟨c,_,rfl⟩:=hx
  rfl
theorem ev_writeFn (m1 m2 m3 m4:M) (s x:List UInt8) (f g:Nat→Bool) (k:Nat) (h0:0<x.length) (hk:k+x.length≤48) (hs:s.length=48) :
    ev E 130 [.io false [.sl (rowsOfBytes s)],.v m1 true (pl f),.v m2 true (pl g),.v m3 false [.ref [.int .i64 k]],.v m4 false [.ref [.str x]]] =
      some { rs:=[.v .own true (pl fun j=>if inF [((k:Int),(k:Int)+x.length)] j=true then true else f j),.v .own true (pl fun j=>if inF [((k:Int),(k:Int)+x.length)] j=true then true else g j)],outs:=[(.own,[.sl (rowsOfBytes (overS s ((k:Int),(k:Int)+x.length) x))])] }:=by
  have c1:∀ m,ev E 42 [.v m false [.sl [[.int .i64 k,.int .i64 ((k:Int)+x.length)]]]]=some { rs:=[.v .own true (pl (inF [((k:Int),(k:Int)+x.length)]))],outs:=[] }:=fun m=>ev_impl_of m [((k:Int),(k:Int)+x.length)] (by simp) fun s hs=>by simp only [List.mem_singleton] at hs;subst hs;dsimp only;omega
  have c2:=fun m m' m'' f=>ev_put m m' m'' f (inF [((k:Int),(k:Int)+x.length)]) true
  have hw:IntKind.i64.wrap ((k:Int)+x.length)=(k:Int)+x.length:=by rw [wrap64]<;>omega
  have ho:=rows_over s x k
  have hr:=rows_one s
  have hl:=rows_len s
  have hlx:=rows_len x
  have hxt:x.take (48 - k)=x:=List.take_of_length_le (by omega)
  generalize rowsOfBytes s=ys at *
  have q1:k<48:=by omega
  have q2:(k:Int)≤48:=by omega
  rw [ev_fn Tryz.f130 rfl Tryz.func130 rfl rfl rfl (Nat.le_of_ble_eq_true rfl)]
  simp [pl_ff,c1,c2,hw,hl,hs,hxt,hlx,q1,q2,ho,eq_true hr,Nat.le_of_lt q1]
theorem ev_writeFnP (m1 m2 m3 m4:M) (s x:List UInt8) (f g:Nat→Bool) (k:Int) (h:wrOk k x=true) (hs:s.length=48) :
    ev E 130 [.io false [.sl (rowsOfBytes s)],.v m1 true (pl f),.v m2 true (pl g),.v m3 false [.ref [.int .i64 k]],.v m4 false [.ref [.str x]]] =
      some { rs:=[.v .own true (pl fun j=>if inF [(k,k+x.length)] j=true then true else f j),.v .own true (pl fun j=>if inF [(k,k+x.length)] j=true then true else g j)],outs:=[(.own,[.sl (rowsOfBytes (overS s (k,k+x.length) x))])] }:=by
  simp only [wrOk,Bool.and_eq_true,Bool.not_eq_true',ltI_not,eqS_not] at h
  have:=List.length_pos_iff.2 h.1.2
  obtain ⟨n,rfl⟩:∃ n:Nat,k=n:=⟨k.toNat,by omega⟩
  exact ev_writeFn m1 m2 m3 m4 s x f g n this (by omega) hs
theorem wrOk_sp {k:Int} {x:List UInt8} (h:wrOk k x=true):(0≤k∧k<k+x.length∧k+x.length≤48)∧x.all okB=true:=by
  simp only [wrOk,Bool.and_eq_true,Bool.not_eq_true',ltI_not,eqS_not] at h
  have:=List.length_pos_iff.2 h.1.2
  exact ⟨by omega,h.1.1.2.1⟩
theorem ev_impl_OwnWrite (m m' m'':M) (hm:m.isOwn=false) (t:List UInt8) (h d:List Sp) (k:Int) (x:List UInt8) (b:OwB t h d) (hx:x.length≤4000000) :
    ev E 89 [.v m true (owL t h d),.v m' false [.int .i64 k],.v m'' false [.str x]]=some (chgJ t h d (wrOk k x) (overS t (k,k+x.length) x) (fun j=>if inF [(k,k+x.length)] j=true then true else inF h j) (fun j=>if inF [(k,k+x.length)] j=true then true else inF d j)):=by
  have c0:=fun m m' m''=>ev_impl_TextWrite m m' m'' [] x k (by simp) hx
  have hb:(twS [] k x).2=wrOk k x:=by
    have:txtOk []=true:=rfl
    simp only [twS,this,if_true]
    cases wrOk k x<;>rfl
  rw [hb] at c0
  have c2:=fun m mb mf hm=>ev_changed_two m mb mf hm t h d (wrOk k x) 130 (.ref [.int .i64 k]) (.ref [.str x]) (overS t (k,k+x.length) x) (fun j=>if inF [(k,k+x.length)] j=true then true else inF h j) (fun j=>if inF [(k,k+x.length)] j=true then true else inF d j) b ⟨rfl,rfl⟩ (fun e0 e=>by
      have ht:=(ownOk_t e).1
      have hw:=(wrOk_sp e0).1
      rw [overS_len _ _ _ (by dsimp only;omega) (by dsimp only;omega) (by dsimp only;omega)]
      dsimp only
      omega) (fun h1 h2 m1 m2=>ev_writeFnP m1 m2 mf mf t x (inF h) (inF d) k h1 (ownOk_t h2).1)
  obtain ⟨T,H,D,b',hr⟩:=chgJ_ex t h d (wrOk k x) (overS t (k,k+x.length) x) (fun j=>if inF [(k,k+x.length)] j=true then true else inF h j) (fun j=>if inF [(k,k+x.length)] j=true then true else inF d j)
  rw [hr] at c2 ⊢
  rw [ev_fn Tryz.f89 rfl Tryz.func89 rfl rfl rfl (Nat.le_of_ble_eq_true rfl)]
  simp [c0,c2,hm]
theorem write_eq (t:List UInt8) (h d:List Sp) (k:Int) (x:List UInt8):chgJ t h d (wrOk k x) (overS t (k,k+x.length) x) (fun j=>if inF [(k,k+x.length)] j=true then true else inF h j) (fun j=>if inF [(k,k+x.length)] j=true then true else inF d j)=writeS t h d k x:=by
  unfold chgJ writeS
  rw [addS_spans,addS_spans]
theorem ev_l2At (m:M) (bs:List UInt8) (p:Nat) (s:List UInt8) (b:RdB bs p) (hp:p+3≤1099511627776) (hs:s.length≤4000000) :
    ∃ k:Int,(-9223372036854775808≤k∧k≤9223372036854775807)∧ev E 76 [rdA bs p,.v m false [.str s]]=some { rs:=[.v .own false [.int .i64 k]],outs:=[rdO bs (p+3)] }:=by
  obtain ⟨k1,h1,c1⟩:=ev_pick .ro bs p 12 b (by omega)
  obtain ⟨k2,h2,c2⟩:=ev_pick .ro bs (p+1) 30 (b.add (by omega)) (by omega)
  obtain ⟨v,hv,c3⟩:=ev_num .tn bs (p+1+1) [0,1,3,k1,k2,s.length,s.length+2,47,48,-1,9223372036854775807] (b.add (q:=2) (by omega)) (by simp) (by simp)
  have h1:=h1 (by omega)
  have h2:=h2 (by omega)
  refine ⟨v,by simp only [List.mem_cons,List.not_mem_nil,or_false] at hv;omega,?_⟩
  have hw:IntKind.i64.wrap ((s.length:Int)+2)=(s.length:Int)+2:=by rw [wrap64]<;>omega
  push_cast at c3
  rw [ev_fn Tryz.f76 rfl Tryz.func76 rfl rfl rfl (Nat.le_of_ble_eq_true rfl)]
  simp at c3
  simp [c1,c2,c3,hw]
theorem patF_self (t:List UInt8):∀ (d:List Sp),(∀ s∈d,0≤s.1∧s.1<s.2∧s.2≤48)→patF t (0,48) d=d.map fun s=>(s.1,subS t s)
  | [],_=>rfl
  | s::d,h=>by
    have hs:=h s (by simp)
    have hm:meetS s (0,48)=s:=by
      have:maxI s.1 0=s.1:=by simp only [maxI,ltI,decide_eq_true_eq];split<;>omega
      have:minI s.2 48=s.2:=by simp only [minI,ltI,decide_eq_true_eq];split<;>omega
      simp only [meetS, *]
    have hl:ltI s.1 s.2=true:=ltI_iff.2 (by omega)
    simp only [patF,hm,hl,if_true,List.map_cons]
    rw [patF_self t d fun q hq=>h q (by simp [hq])]
theorem haveS_of {h:List Sp} {q:Sp} (hs:spsOk h=true) (hq:spOk q=true) (hin:∀ j:Nat,inSp j q=true→inF h j=true):haveS h q=true:=by
  simp only [haveS,hs,hq,Bool.true_and]
  rw [eqP_iff]
  intro j hj
  simp only [inF,List.any_cons,List.any_nil,Bool.or_false]
  cases e:inSp j q with
  | false=>simp
  | true =>
    have:=hin j e
    simp only [inF] at this
    simp [this]
set_option maxRecDepth 100000
set_option maxHeartbeats 4000000
abbrev rOT (o:OwnT) (b:Bool):Out:=rOB o.t o.h o.d b
theorem drop_T {o:OwnT} (h:o.ok=true) (p:Sp):dropS o.t o.h o.d p=rOT (dropT o p).1 (dropT o p).2:=by
  unfold dropS dropT
  rw [if_pos (show ownOk o.t o.h o.d=true from h)]
  have hl:eqI (patF o.t p o.d).length 0=!ltI 0 (patF o.t p o.d).length:=by
    rw [Bool.eq_iff_iff,eqI_iff,Bool.not_eq_true',ltI_not];omega
  rw [hl]
  cases spOk p
  · rfl
  · cases ltI 0 (patF o.t p o.d).length
    · simp only [if_true,Bool.false_eq_true,if_false,Bool.not_false,Bool.and_self]
      cases ownOk (overS o.t p (List.replicate (p.2 - p.1).toNat 46)) (cutS o.h p) o.d<;>rfl
    · rfl
theorem fill_T {o:OwnT} (h:o.ok=true) (p:Sp) (x:Bs):fillS o.t o.h o.d p x=rOT (fillT1 o p x).1 (fillT1 o p x).2:=by
  unfold fillS fillT1
  rw [if_pos (show ownOk o.t o.h o.d=true from h)]
  cases fillOk p x
  · rfl
  · simp only [if_true]
    cases ownOk (fillT o.d x p.1.toNat (p.2 - p.1).toNat p.1.toNat o.t) (addS o.h p) o.d<;>rfl
theorem write_T {o:OwnT} (h:o.ok=true) (k:Int) (x:Bs):writeS o.t o.h o.d k x=rOT (writeT1 o k x).1 (writeT1 o k x).2:=by
  unfold writeS writeT1
  rw [if_pos (show ownOk o.t o.h o.d=true from h)]
  cases wrOk k x
  · rfl
  · simp only [if_true]
    cases ownOk (overS o.t (k,k+x.length) x) (addS o.h (k,k+x.length)) (addS o.d (k,k+x.length))<;>rfl
theorem OwnT.owB {o:OwnT} (h:o.ok=true):OwB o.t o.h o.d:=by
  have hb:=ownOk_bd h
  have h1:=spsOk_len hb.2.1
  have h2:=spsOk_len hb.2.2.1
  exact ⟨by omega,by omega,by omega⟩
theorem ev_iDrop (m m':M) (hm:m.isOwn=false) (o:OwnT) (h:o.ok=true) (p:Sp):ev E 125 [.v m true (ownL o),.v m' true (spL p)]=some (rOT (dropT o p).1 (dropT o p).2):=by
  rw [ev_impl_OwnDrop m m' hm o.t o.h o.d p (OwnT.owB h),drop_eq,drop_T h]
theorem ev_iFill (m m' m'':M) (hm:m.isOwn=false) (o:OwnT) (h:o.ok=true) (p:Sp) (x:Bs) (hx:x.length≤4000000):ev E 87 [.v m true (ownL o),.v m' true (spL p),.v m'' false [.str x]]=some (rOT (fillT1 o p x).1 (fillT1 o p x).2):=by
  rw [ev_impl_OwnFill m m' m'' hm o.t o.h o.d p x (OwnT.owB h) hx,fill_eq,fill_T h]
theorem ev_iWrite (m m' m'':M) (hm:m.isOwn=false) (o:OwnT) (h:o.ok=true) (k:Int) (x:Bs) (hx:x.length≤4000000):ev E 89 [.v m true (ownL o),.v m' false [.int .i64 k],.v m'' false [.str x]]=some (rOT (writeT1 o k x).1 (writeT1 o k x).2):=by
  rw [ev_impl_OwnWrite m m' m'' hm o.t o.h o.d k x (OwnT.owB h) hx,write_eq,write_T h]
theorem give_bars {t:List HoldT} (P:LockP t) {i:Nat} (hi:i<3) {write:Bool} {s:Sp} (hs:spOk s=true) (hg:(lockGive t i write s).2=true):lockBars t i write s=[]:=by
  have hsp:=spOk_iff.1 hs
  unfold lockBars
  rw [List.filter_eq_nil_iff]
  intro k hk
  have hk:k<3:=List.mem_range.1 hk
  have h48:∀ j:Nat,inSp j s=true→j<48:=fun j hj=>by rw [inSp_iff] at hj;omega
  by_cases hne:k=i
  · simp [barsAt,hne]
  have hL:∀ h':HoldT,LockP (t.set i h')→(∀ j:Nat,inSp j s=true→inF h'.w j=true∨(write=false∧inF h'.r j=true))→¬ barsAt t i write s k=true:=by
    intro h' L hin
    have e1:(t.set i h').getD i noH=h':=by rw [lock_set t i i h' P.len hi,if_pos rfl]
    have e2:(t.set i h').getD k noH=t.getD k noH:=by rw [lock_set t i k h' P.len hk,if_neg (fun e=>hne e.symm)]
    have a1:=L.ww i k hi hk hne
    have a2:=L.wr i k hi hk hne
    have a3:=L.wr k i hk hi (fun e=>hne e.symm)
    rw [e1,e2] at a1 a2 a3
    have hone:∀ p∈[s],0≤p.1∧p.1<p.2∧p.2≤48:=fun p hp=>by simp only [List.mem_singleton] at hp;subst hp;exact hsp
    have c1:clearS (t.getD k noH).w [s]=true:=(clearS_iff (spsOk_sp (P.w k hk)) hone).2 fun j hj=>by
      rw [one_in] at hj
      rcases hin j hj.2 with q | ⟨_,q⟩
      · exact a1 j ⟨q,hj.1⟩
      · exact a3 j ⟨hj.1,q⟩
    have c2:write=true→clearS (t.getD k noH).r [s]=true:=fun hw=>(clearS_iff (spsOk_sp (P.r k hk)) hone).2 fun j hj=>by
      rw [one_in] at hj
      rcases hin j hj.2 with q | ⟨q,_⟩
      · exact a2 j ⟨q,hj.1⟩
      · rw [hw] at q;cases q
    unfold barsAt
    cases write
    · rw [c1];simp
    · rw [c1,c2 rfl];simp
  cases write
  · have hp:=putL_ok (t:=t) (i:=i) (h:=⟨ofL (fun j=>(inSp j s || inF (t.getD i noH).r j)&&!inF (t.getD i noH).w j) 48 0 [],(t.getD i noH).w⟩) hg
    refine hL ⟨ofL (fun j=>(inSp j s || inF (t.getD i noH).r j)&&!inF (t.getD i noH).w j) 48 0 [],(t.getD i noH).w⟩ hp.1 fun j hj=>?_
    dsimp only
    rw [of_get _ (h48 j hj),hj]
    cases inF (t.getD i noH).w j
    · exact .inr ⟨rfl,rfl⟩
    · exact .inl rfl
  · have hp:=putL_ok (t:=t) (i:=i) (h:=⟨cutS (t.getD i noH).r s,addS (t.getD i noH).w s⟩) hg
    refine hL ⟨cutS (t.getD i noH).r s,addS (t.getD i noH).w s⟩ hp.1 fun j hj=>.inl ?_
    dsimp only
    rw [addS_get _ _ j (h48 j hj),hj];rfl
theorem putL_no {t:List HoldT} {i:Nat} {h:HoldT} (e:(putL t i h).2=false):putL t i h=(t,false):=by
  unfold putL at e ⊢
  split at e
  · cases e
  · rename_i hn;rw [if_neg hn]
theorem give_no {t:List HoldT} {i:Nat} {write:Bool} {s:Sp} (e:(lockGive t i write s).2=false):lockGive t i write s=(t,false):=by
  unfold lockGive at e ⊢
  cases write
  · exact putL_no e
  · exact putL_no e
theorem give_I {t:List HoldT} (P:LockP t) {i:Nat} (hi:i<3) (write:Bool) {s:Sp} (hs:spOk s=true):giveI t i write s=rLk (lockGive t i write s).1 (lockGive t i write s).2:=by
  have hw:whoOk (i:Int)=true:=by simp only [whoOk,Bool.and_eq_true,Bool.not_eq_true',ltI_not,ltI_iff];omega
  unfold giveI barsL
  rw [if_pos (lockOk_iff.2 P),hw,hs,Int.toNat_natCast]
  cases e:(lockGive t i write s).2
  · rw [give_no e]
    cases eqI ((lockBars t i write s).map (fun k:Nat=>(k:Int))).length 0<;>rfl
  · rw [give_bars P hi hs e]
    simp [e]
def yieldI (w:WorldT) (k:Nat) (write:Bool) (s:Sp):WorldT × Bool :=
  if backsB w k s=true then
    if write=true then
      if (lockDrop (backsW w k s).locks k s).2=true then
        ({ backsW w k s with locks:=(lockDrop (backsW w k s).locks k s).1,owns:=(backsW w k s).owns.set k (dropT ((backsW w k s).own k) s).1 },(dropT ((backsW w k s).own k) s).2)
      else ({ backsW w k s with locks:=(lockDrop (backsW w k s).locks k s).1 },false)
    else ({ backsW w k s with locks:=(lockDown (backsW w k s).locks k s).1 },(lockDown (backsW w k s).locks k s).2)
  else (backsW w k s,false)
theorem yield_I (w:WorldT) (k:Nat) (write:Bool) (s:Sp):yieldW w k write s=if (yieldI w k write s).2=true then some (yieldI w k write s).1 else none:=by
  unfold yieldW yieldI
  rw [flush_backs]
  cases backsB w k s
  · rfl
  · simp only [if_true]
    cases write
    · simp only [Bool.false_eq_true,if_false]
    · simp only [if_true]
      cases e1:(lockDrop (backsW w k s).locks k s).2
      · rfl
      · simp only [Bool.true_and,if_true]
def yieldsI (write:Bool) (s:Sp):List Nat→WorldT→WorldT × Bool
  | [],w=>(w,true)
  | k::ks,w=>if (yieldI w k write s).2=true then yieldsI write s ks (yieldI w k write s).1 else ((yieldI w k write s).1,false)
theorem yields_I (write:Bool) (s:Sp):∀ (ks:List Nat) (w:WorldT),yieldsW write s ks w=if (yieldsI write s ks w).2=true then some (yieldsI write s ks w).1 else none
  | [],w=>rfl
  | k::ks,w=>by
    rw [yieldsW,yieldsI,yield_I]
    cases e:(yieldI w k write s).2
    · rfl
    · simp only [if_true]
      exact yields_I write s ks _
abbrev adp0:AV:=.ad (.p 0) 0 0 0 []
theorem lp_locks0 (m1 m2:M) (w:WorldT) (ha3:w.alive.length=3) (who:Nat) (write:Bool) (s:Sp) (ks:List Nat) (hks:∀ k∈ks,k<3) (bs:List Int) (hbs:bs=ks.map (fun k:Nat=>(k:Int))) (a:Code) (ha:a=lp Tryz.f86 0):∀ (n i:Nat),i+n=bs.length→bs.length≤100 →
    loopC E (ev E) 86 a { V:=[(0,adp0),(1,.v m1 false [.int .i64 who]),(2,.v m2 false [.bool write]),(7,adc 7),(9,at1 9),(23,.at (.c 9) 0 0 0 [] 1 false),(24,vi bs.length),(25,vi i)],H:=[bx (.p 0) (worldL w),bx (.c 7) (spL s),ow (.c 9) [.sl (intsL bs)]],ps:=[0] } =
      if ((ks.drop i).any fun k=>!w.live k)=true then some (.ret,{ V:=[(8,vi 22)],H:=[bx (.p 0) (worldL w)],ps:=[0] })
      else some (.exit 0,{ V:=[(0,adp0),(1,.v m1 false [.int .i64 who]),(2,.v m2 false [.bool write]),(7,adc 7),(9,at1 9),(23,.at (.c 9) 0 0 0 [] 1 false),(24,vi bs.length),(25,vi bs.length),(26,vb false)],H:=[bx (.p 0) (worldL w),bx (.c 7) (spL s),ow (.c 9) [.sl (intsL bs)]],ps:=[0] })
  | 0,i,h,hb=>by
    rw [loopC_of _ _ _ _ ha]
    obtain rfl:i=bs.length:=by omega
    have:ks.drop bs.length=[]:=List.drop_eq_nil_of_le (by rw [hbs];simp)
    rw [this]
    simp [lp,loopsOf,Tryz.f86]
  | n+1,i,h,hb=>by
    have hlt:i<bs.length:=by omega
    have hl2:i<ks.length:=by rw [hbs] at hlt;simpa using hlt
    have hw:=wrapN i (by omega)
    have ih:=lp_locks0 m1 m2 w ha3 who write s ks hks bs hbs a ha n (i+1) (by omega) hb
    push_cast at ih
    have hg:bs[i]=((ks[i]:Nat):Int):=by simp [hbs]
    have hk:=hks _ (List.getElem_mem hl2)
    have hka:ks[i]<w.alive.length:=by omega
    have hlv:w.live ks[i]=w.alive[ks[i]]:=getD_lt _ hka
    rw [loopC_of _ _ _ _ ha,List.drop_eq_getElem_cons hl2,List.any_cons,hlv]
    clear ha
    generalize (ks.drop (i+1)).any (fun k=>!w.live k)=r at ih ⊢
    generalize ks[i]=k at *
    cases e:w.alive[k]<;>simp [lp,loopsOf,Tryz.f86,hlt,hw,hg,hka,e,ih]
set_option maxRecDepth 100000
set_option maxHeartbeats 8000000
theorem who_ok {k:Nat} (h:k<3):whoOk (k:Int)=true:=by simp only [whoOk,Bool.and_eq_true,Bool.not_eq_true',ltI_not,ltI_iff];omega
theorem down_I {t:List HoldT} (P:LockP t) {k:Nat} (hk:k<3) {s:Sp} (hs:spOk s=true):downI t k s=rLk (lockDown t k s).1 (lockDown t k s).2:=by
  unfold downI
  rw [if_pos (lockOk_iff.2 P),who_ok hk,hs,Int.toNat_natCast];rfl
theorem drop_I {t:List HoldT} (P:LockP t) {k:Nat} (hk:k<3) {s:Sp} (hs:spOk s=true):dropI t k s=rLk (lockDrop t k s).1 (lockDrop t k s).2:=by
  unfold dropI
  rw [if_pos (lockOk_iff.2 P),who_ok hk,hs,Int.toNat_natCast];rfl
theorem backs_ok {w:WorldT} (hw:WorldP w) {k:Nat} (hk:k<3) (ha:w.live k=true) {s:Sp} (h:backsB w k s=true):WorldP (backsW w k s) :=
  (flushW_ok hw hk ha (by rw [flush_backs,if_pos h])).ok
theorem lp_locks2 (m1 m2:M) (who:Nat) (write:Bool) (s:Sp) (hs:spOk s=true) (ks:List Nat) (bs:List Int) (hbs:bs=ks.map (fun k:Nat=>(k:Int))) (hb:bs.length≤100) (a:Code) (ha:a=lp Tryz.f86 1):∀ (n i:Nat) (w:WorldT),i+n=bs.length→WorldP w→(∀ k∈ks.drop i,k<3∧w.live k=true) →
    loopC E (ev E) 86 a { V:=[(0,adp0),(1,.v m1 false [.int .i64 who]),(2,.v m2 false [.bool write]),(7,adc 7),(38,at1 38),(39,vi bs.length),(40,vi i)],H:=[bx (.p 0) (worldL w),bx (.c 7) (spL s),ow (.c 38) [.sl (intsL bs)]],ps:=[0] } =
      if (yieldsI write s (ks.drop i) w).2=true then some (.exit 2,{ V:=[(0,adp0),(1,.v m1 false [.int .i64 who]),(2,.v m2 false [.bool write]),(7,adc 7),(38,at1 38),(39,vi bs.length),(40,vi bs.length),(41,vb false)],H:=[bx (.p 0) (worldL (yieldsI write s (ks.drop i) w).1),bx (.c 7) (spL s),ow (.c 38) [.sl (intsL bs)]],ps:=[0] })
      else some (.ret,{ V:=[(8,vi 24)],H:=[bx (.p 0) (worldL (yieldsI write s (ks.drop i) w).1)],ps:=[0] })
  | 0,i,w,h,hw,hk=>by
    rw [loopC_of _ _ _ _ ha]
    obtain rfl:i=bs.length:=by omega
    have:ks.drop bs.length=[]:=List.drop_eq_nil_of_le (by rw [hbs];simp)
    rw [this]
    simp [lp,loopsOf,Tryz.f86,yieldsI]
  | n+1,i,w,h,hw,hk=>by
    have hlt:i<bs.length:=by omega
    have hl2:i<ks.length:=by rw [hbs] at hlt;simpa using hlt
    have hwr:=wrapN i (by omega)
    have hg:bs[i]=((ks[i]:Nat):Int):=by simp [hbs]
    rw [List.drop_eq_getElem_cons hl2] at hk ⊢
    obtain ⟨hk3,hka⟩:=hk ks[i] List.mem_cons_self
    have hks:∀ k∈ks.drop (i+1),k<3∧w.live k=true:=fun k hm=>hk k (List.mem_cons_of_mem _ hm)
    have ih:∀ x,(yieldI w ks[i] write s)=(x,true)→_:=fun x hx=>lp_locks2 m1 m2 who write s hs ks bs hbs hb a ha n (i+1) x (by omega)
      (yieldW_ok hw hk3 hka (by rw [yield_I,hx];rfl)).ok (fun k hm=>⟨(hks k hm).1,by
        have:=(yieldW_ok (write:=write) (s:=s) (x:=x) hw hk3 hka (by rw [yield_I,hx];rfl)).alive
        unfold WorldT.live
        rw [this]
        exact (hks k hm).2⟩)
    rw [loopC_of _ _ _ _ ha,yieldsI]
    clear ha
    have c1:=fun m1 m2=>ev_backs m1 m2 w hw ks[i] hk3 s hs
    clear hk hks
    generalize ks[i]=k at *
    unfold yieldI at ih ⊢
    cases e1:backsB w k s
    · rw [e1] at c1
      simp [lp,loopsOf,Tryz.f86,hlt,hg,c1]
    · have X:=backs_ok hw hk3 hka e1
      rw [e1] at c1 ih
      simp only [if_true] at ih ⊢
      generalize backsW w k s=x at *
      obtain ⟨hl,ho⟩:=X.own_get hk3
      have LP:=X.lk
      have hll:x.locks.length≤4000000:=by have:=LP.len;omega
      cases write
      · have c2:=fun m m1 m2 hm=>ev_impl_LockDown m m1 m2 hm x.locks hll LP.bd k s
        rw [down_I LP hk3 hs] at c2
        simp only [rLk,Bool.false_eq_true,if_false] at c2 ih ⊢
        generalize lockDown x.locks k s=z at *
        obtain ⟨t',b⟩:=z
        cases b
        · simp [lp,loopsOf,Tryz.f86,hlt,hg,c1,c2]
        · have ih:=ih _ rfl
          push_cast at ih
          simp [lp,loopsOf,Tryz.f86,hlt,hg,c1,c2,hwr]
          simpa [hwr] using ih
      · have c2:=fun m m1 m2 hm=>ev_impl_LockDrop m m1 m2 hm x.locks hll LP.bd k s
        have c3:=fun m m' hm=>ev_iDrop m m' hm (x.own k) (X.own k hk3) s
        rw [drop_I LP hk3 hs] at c2
        simp only [rLk,if_true] at c2 ih ⊢
        rw [← ho] at c3 ih ⊢
        generalize lockDrop x.locks k s=z at *
        generalize dropT x.owns[k] s=y at *
        obtain ⟨t',b⟩:=z
        obtain ⟨o',b'⟩:=y
        cases b
        · simp [lp,loopsOf,Tryz.f86,hlt,hg,c1,c2]
        · dsimp only at c3 ih ⊢
          simp only [if_true] at ih ⊢
          cases b'
          · simp [lp,loopsOf,Tryz.f86,hlt,hg,hl,c1,c2,c3,hwr,List.map_set]
          · have ih:=ih _ rfl
            push_cast at ih
            have he:(List.map ownL x.owns).set k [.str o'.t,.sl (o'.h.map spL),.sl (o'.d.map spL)]=List.map ownL (x.owns.set k o'):=by rw [List.map_set]
            simp [lp,loopsOf,Tryz.f86,hlt,hg,hl,c1,c2,c3,hwr]
            rw [he]
            exact ih
def locksI (w:WorldT) (i:Nat) (write:Bool) (s:Sp):WorldT × Int :=
  if ((lockBars w.locks i write s).any fun k=>!w.live k)=true then (w,22)
  else if (yieldsI write s (lockBars w.locks i write s) w).2=true then
    ({ (yieldsI write s (lockBars w.locks i write s) w).1 with locks:=(lockGive (yieldsI write s (lockBars w.locks i write s) w).1.locks i write s).1 },if (lockGive (yieldsI write s (lockBars w.locks i write s) w).1.locks i write s).2=true then 0 else 24)
  else ((yieldsI write s (lockBars w.locks i write s) w).1,24)
theorem locks_I (w:WorldT) (i:Nat) (write:Bool) (s:Sp):(locksI w i write s).2=(lockW w i write s).2∧((lockW w i write s).2=0→(locksI w i write s).1=(lockW w i write s).1):=by
  unfold locksI lockW
  rw [yields_I]
  cases (lockBars w.locks i write s).any fun k=>!w.live k
  · simp only [Bool.false_eq_true,if_false]
    cases (yieldsI write s (lockBars w.locks i write s) w).2
    · exact ⟨rfl,fun h=>by simp at h⟩
    · simp only [if_true]
      cases (lockGive (yieldsI write s (lockBars w.locks i write s) w).1.locks i write s).2
      · exact ⟨rfl,fun h=>by simp at h⟩
      · exact ⟨rfl,fun _=>rfl⟩
  · exact ⟨rfl,fun _=>rfl⟩
theorem ev_locks (m1 m2 m3:M) (w:WorldT) (hw:WorldP w) (i:Nat) (hi:i<3) (write:Bool) (s:Sp) (hs:spOk s=true) :
    ev E 86 [.ptr .own (worldL w),.v m1 false [.int .i64 i],.v m2 false [.bool write],.v m3 true (spL s)]=some { rs:=[.v .own false [.int .i64 (locksI w i write s).2]],outs:=[(.own,worldL (locksI w i write s).1)] }:=by
  have LP:=hw.lk
  have hll:w.locks.length≤4000000:=by have:=LP.len;omega
  have c0:=fun m m1 m2 m3 hm=>ev_impl_LockBars m m1 m2 m3 hm w.locks hll LP.bd i write s
  have hbi:barsI w.locks i write s=(lockBars w.locks i write s).map (fun k:Nat=>(k:Int)):=by
    unfold barsI barsL
    rw [lockOk_iff.2 LP,who_ok hi,hs,Int.toNat_natCast];rfl
  rw [hbi] at c0
  have hk3:∀ k∈lockBars w.locks i write s,k<3:=fun k hk=>(bars_mem.1 hk).1
  have hbl:((lockBars w.locks i write s).map (fun k:Nat=>(k:Int))).length≤100:=by
    unfold lockBars
    rw [List.length_map]
    have:=List.length_filter_le (barsAt w.locks i write s) (List.range 3)
    simp at this;omega
  have hnd:=bars_nodup w.locks i write s
  unfold locksI
  generalize lockBars w.locks i write s=ks at *
  generalize hbs:ks.map (fun k:Nat=>(k:Int))=bs at *
  have l0:=lp_locks0 m1 m2 w hw.alive i write s ks hk3 bs hbs.symm _ rfl bs.length 0 (by omega) hbl
  push_cast at l0
  simp only [List.drop_zero] at l0
  cases e1:ks.any fun k=>!w.live k
  · have hall:∀ k∈ks,k<3∧w.live k=true:=fun k hk=>⟨hk3 k hk,by
      simp only [List.any_eq_false,Bool.not_eq_true',Bool.not_eq_false] at e1
      exact e1 k hk⟩
    have l1:=lp_locks2 m1 m2 i write s hs ks bs hbs.symm hbl _ rfl bs.length 0 w (by omega) hw (by simpa using hall)
    push_cast at l1
    simp only [List.drop_zero] at l1
    rw [e1] at l0
    simp only [Bool.false_eq_true,if_false] at l0 ⊢
    have hY:(yieldsI write s ks w).2=true→LockP (yieldsI write s ks w).1.locks:=fun h =>
      (yieldsW_ok ks hw hall hnd (by rw [yields_I,if_pos h])).ok.lk
    generalize yieldsI write s ks w=y at *
    obtain ⟨x,b⟩:=y
    cases b
    · simp only [Bool.false_eq_true,if_false] at l1 ⊢
      rw [ev_fn Tryz.f86 rfl Tryz.func86 rfl rfl rfl (Nat.le_of_ble_eq_true rfl)]
      simp [c0]
      rw [loopC_at ?_ l0]
      · simp
        rw [loopC_at ?_ l1]
        · simp
        · rfl
      · rfl
    · simp only [if_true] at l1 ⊢
      have LX:=hY rfl
      have hlx:x.locks.length≤4000000:=by have:=LX.len;dsimp only at this;omega
      have c4:=fun m m1 m2 m3 hm=>ev_impl_LockGive m m1 m2 m3 hm x.locks hlx LX.bd i write s
      rw [give_I LX hi write hs] at c4
      simp only [rLk] at c4
      generalize lockGive x.locks i write s=g at *
      obtain ⟨t',b'⟩:=g
      rw [ev_fn Tryz.f86 rfl Tryz.func86 rfl rfl rfl (Nat.le_of_ble_eq_true rfl)]
      simp [c0]
      rw [loopC_at ?_ l0]
      · simp
        rw [loopC_at ?_ l1]
        · cases b'<;>simp [c4]
        · rfl
      · rfl
  · rw [e1] at l0
    simp only [if_true] at l0 ⊢
    rw [ev_fn Tryz.f86 rfl Tryz.func86 rfl rfl rfl (Nat.le_of_ble_eq_true rfl)]
    simp [c0]
    rw [loopC_at ?_ l0]
    · simp
    · rfl
set_option maxRecDepth 100000
set_option maxHeartbeats 8000000
structure WorldC (w:WorldT):Prop extends WorldB w where
  stC:StoreC w.st
  ownT:∀ o∈w.owns,o.t.length≤4000000
  keptT:∀ q∈w.kept,q.data.length≤4000000
  lateT:∀ q∈w.late,q.data.length≤4000000
theorem ev_noOwn:ev E 49 []=some { rs:=[.v .own true (ownL noO)],outs:=[] }:=by
  have c:=fun m m'=>ev_Repeat m m' 48 (by omega)
  push_cast at c
  rw [ev_fn Tryz.f49 rfl Tryz.func49 rfl rfl rfl (Nat.le_of_ble_eq_true rfl)]
  simp [c,noO,-List.reduceReplicate]
  rfl
theorem storeAll_code:∀ (qs:List ReqT) (s:StoreT) (i:Nat) (h:i<(storeAll s qs).2.length) (h2:i<qs.length),(storeAll s qs).2[i]=0→ReqP qs[i]
  | [],s,i,h,h2,_=>by simp at h2
  | q::qs,s,0,h,h2,e=>by
    simp only [storeAll,List.getElem_cons_zero] at e ⊢
    exact (storeDo_fine e).1
  | q::qs,s,i+1,h,h2,e=>by
    simp only [storeAll,List.getElem_cons_succ] at e ⊢
    exact storeAll_code qs _ i _ (by simpa using h2) e
theorem lp_iWok0 (m:M) (hm:m.isOwn=false) (w:WorldT) (C:WorldC w) (h1:w.owns.length=3) (h2:w.epochs.length=3) (h3:w.alive.length=3) (h4:w.st.floors.length=3) (a:Code) (ha:a=lp Tryz.f20 0):∀ (n i:Nat),i+n=3 →
    loopC E (ev E) 20 a { V:=[(1,adc 1),(60,.v m false [.sl (w.owns.map ownL)]),(61,vi 3),(62,vi i)],H:=[bxm (.c 1) m (worldL w)],ps:=[] } =
      if allTo (ownAt w) n i=true then some (.exit 0,{ V:=[(1,adc 1),(60,.v m false [.sl (w.owns.map ownL)]),(61,vi 3),(62,vi 3),(63,vb false)],H:=[bxm (.c 1) m (worldL w)],ps:=[] })
      else some (.ret,{ V:=[(2,vb false)],H:=[],ps:=[] })
  | 0,i,h=>by
    rw [loopC_of _ _ _ _ ha]
    obtain rfl:i=3:=by omega
    simp [lp,loopsOf,Tryz.f20,allTo,hm]
  | n+1,i,h=>by
    have hI:(i:Int)<3:=by omega
    have a1:i<w.owns.length:=by omega
    have a2:i<w.epochs.length:=by omega
    have a3:i<w.alive.length:=by omega
    have a4:i<w.st.floors.length:=by omega
    have ih:=lp_iWok0 m hm w C h1 h2 h3 h4 a ha n (i+1) (by omega)
    push_cast at ih
    have hw:=wrapN i (by omega)
    have B:=C.owned _ (List.getElem_mem a1)
    have c1:∀ m,m.isOwn=false→ev E 47 [.v m true (ownL w.owns[i])]=some (rB w.owns[i].ok):=fun m hm=>ev_impl_OwnOk m hm _ _ _ (by have:=C.ownT _ (List.getElem_mem a1);omega) (by have:=B.1;omega) (by have:=B.2;omega)
    have c2:=ev_noOwn
    have c3:=fun m m' hm hm'=>ev_impl_OwnSame2 m m' hm hm' w.owns[i] noO ⟨by decide,by decide⟩
    have hg:ownAt w i=(w.owns[i].ok&&(!ltI w.epochs[i] w.st.floors[i]&&(!ltI 100 w.epochs[i]&&(w.alive[i] || sameOwn w.owns[i] noO)))):=by
      unfold ownAt WorldT.own WorldT.ep WorldT.live
      rw [getD_lt _ a1,getD_lt _ a2,getD_lt _ a3,getD_lt _ a4]
    rw [loopC_of _ _ _ _ ha,allTo,hg]
    clear ha hg
    generalize allTo (ownAt w) n (i+1)=r at ih ⊢
    cases e1:w.owns[i].ok
    · simp [lp,loopsOf,Tryz.f20,hI,a1,hw,hm,c1,e1]
    · cases e2:ltI w.epochs[i] w.st.floors[i]
      · cases e3:ltI 100 w.epochs[i]
        · cases e4:w.alive[i]
          · cases e5:sameOwn w.owns[i] noO<;>simp [lp,loopsOf,Tryz.f20,hI,a1,a2,a3,a4,hw,hm,c1,c2,c3,e1,e2,e3,e4,e5,ih]
          · simp [lp,loopsOf,Tryz.f20,hI,a1,a2,a3,a4,hw,hm,c1,e1,e2,e3,e4,ih]
        · simp [lp,loopsOf,Tryz.f20,hI,a1,a2,a3,a4,hw,hm,c1,e1,e2,e3]
      · simp [lp,loopsOf,Tryz.f20,hI,a1,a2,a3,a4,hw,hm,c1,e1,e2]
theorem lp_iWok1 (m:M) (hm:m.isOwn=false) (w:WorldT) (x:StoreT) (cs:List Int) (hc:cs.length=w.kept.length) (hb:w.kept.length≤4000000) (h2:w.epochs.length=3) (hr:∀ (i:Nat) (h:i<cs.length) (h2:i<w.kept.length),cs[i]=0→ReqP w.kept[i]) (a:Code) (ha:a=lp Tryz.f20 1):∀ (n i:Nat),i+n=w.kept.length →
    loopC E (ev E) 20 a { V:=[(1,adc 1),(5,adc 5),(6,at1 6),(117,.v m false [.sl (w.kept.map reqL)]),(118,vi w.kept.length),(119,vi i)],H:=[bxm (.c 1) m (worldL w),bx (.c 5) (storeL x),ow (.c 6) [.sl (intsL cs)]],ps:=[] } =
      if keptF w (w.kept.drop i) (cs.drop i)=true then some (.exit 2,{ V:=[(1,adc 1),(5,adc 5),(6,at1 6),(117,.v m false [.sl (w.kept.map reqL)]),(118,vi w.kept.length),(119,vi w.kept.length),(120,vb false)],H:=[bxm (.c 1) m (worldL w),bx (.c 5) (storeL x),ow (.c 6) [.sl (intsL cs)]],ps:=[] })
      else some (.ret,{ V:=[(2,vb false)],H:=[],ps:=[] })
  | 0,i,h=>by
    rw [loopC_of _ _ _ _ ha]
    obtain rfl:i=w.kept.length:=by omega
    simp [lp,loopsOf,Tryz.f20,keptF,hm]
  | n+1,i,h=>by
    have hlt:i<w.kept.length:=by omega
    have hlc:i<cs.length:=by omega
    have ih:=lp_iWok1 m hm w x cs hc hb h2 hr a ha n (i+1) (by omega)
    push_cast at ih
    have hw:=wrapN i (by omega)
    rw [loopC_of _ _ _ _ ha,List.drop_eq_getElem_cons hlt,List.drop_eq_getElem_cons hlc,keptF]
    clear ha
    have hrp:=hr i hlc hlt
    generalize keptF w (w.kept.drop (i+1)) (cs.drop (i+1))=r at ih ⊢
    cases e1:eqI cs[i] 0
    · simp [lp,loopsOf,Tryz.f20,hlt,hlc,hw,hm,e1]
    · have hq:=(hrp (eqI_iff.1 e1)).who
      obtain ⟨k,hk⟩:∃ k:Nat,w.kept[i].who=k:=⟨w.kept[i].who.toNat,by omega⟩
      have hk3:k<w.epochs.length:=by omega
      have hep:w.ep k=w.epochs[k]:=getD_lt _ hk3
      rw [hk,Int.toNat_natCast,hep]
      cases e2:eqI w.kept[i].epoch w.epochs[k]<;>simp [lp,loopsOf,Tryz.f20,hlt,hlc,hw,hm,hk,hk3,e1,e2,ih]
theorem lp_iWok2 (m:M) (hm:m.isOwn=false) (w:WorldT) (hb:w.late.length≤8) (hd:∀ q∈w.late,q.data.length≤4000000) (h4:w.st.floors.length=3) (a:Code) (ha:a=lp Tryz.f20 2):∀ (n i:Nat),i+n=w.late.length →
    loopC E (ev E) 20 a { V:=[(1,adc 1),(147,.v m false [.sl (w.late.map reqL)]),(148,vi w.late.length),(149,vi i)],H:=[bxm (.c 1) m (worldL w)],ps:=[] } =
      if (w.late.drop i).all (lateAt w)=true then some (.exit 4,{ V:=[(1,adc 1),(147,.v m false [.sl (w.late.map reqL)]),(148,vi w.late.length),(149,vi w.late.length),(150,vb false)],H:=[bxm (.c 1) m (worldL w)],ps:=[] })
      else some (.ret,{ V:=[(2,vb false)],H:=[],ps:=[] })
  | 0,i,h=>by
    rw [loopC_of _ _ _ _ ha]
    obtain rfl:i=w.late.length:=by omega
    simp [lp,loopsOf,Tryz.f20,hm]
  | n+1,i,h=>by
    have hlt:i<w.late.length:=by omega
    have ih:=lp_iWok2 m hm w hb hd h4 a ha n (i+1) (by omega)
    push_cast at ih
    have hw:=wrapN i (by omega)
    have c1:=fun m=>ev_formed m w.late[i] (hd _ (List.getElem_mem hlt))
    rw [loopC_of _ _ _ _ ha,List.drop_eq_getElem_cons hlt,List.all_cons,lateAt]
    clear ha
    generalize (w.late.drop (i+1)).all (lateAt w)=r at ih ⊢
    cases e1:reqOk w.late[i]
    · simp [lp,loopsOf,Tryz.f20,hlt,hw,hm,c1,e1]
    · have hq:=(reqOk_iff.1 e1).who
      obtain ⟨k,hk⟩:∃ k:Nat,w.late[i].who=k:=⟨w.late[i].who.toNat,by omega⟩
      have hk3:k<w.st.floors.length:=by omega
      rw [hk,Int.toNat_natCast,getD_lt _ hk3]
      simp only [reqL,hk] at c1
      cases e2:ltI w.late[i].epoch w.st.floors[k]<;>simp [lp,loopsOf,Tryz.f20,hlt,hw,hm,hk,hk3,c1,e1,e2,ih]
set_option maxRecDepth 100000
set_option maxHeartbeats 8000000
theorem lp_iWok4 (m:M) (hm:m.isOwn=false) (w:WorldT) (i:Nat) (hi:i<3) (o:OwnT) (ho:w.own i=o) (ht:o.t.length=48) (a:Code) (ha:a=lp Tryz.f20 4):∀ (n j:Nat),j+n=48 →
    loopC E (ev E) 20 a { V:=[(1,adc 1),(11,.v .own false [.str w.file]),(13,adc 13),(14,adc 14),(15,adc 15),(16,adc 16),(17,adc 17),(172,.v m false [.sl (w.owns.map ownL)]),(173,vi 3),(174,vi i),(201,vi j)],H:=[bxm (.c 1) m (worldL w),bxm (.c 13) m (ownL o),bx (.c 14) (pl (inF o.h)),bx (.c 15) (pl (inF o.d)),bx (.c 16) (pl (inF (w.lock i).w)),bx (.c 17) (pl (orP (inF (w.lock i).w) (inF (w.lock i).r)))],ps:=[] } =
      if allTo (heldAt w i) n j=true then some (.exit 8,{ V:=[(1,adc 1),(11,.v .own false [.str w.file]),(13,adc 13),(14,adc 14),(15,adc 15),(16,adc 16),(17,adc 17),(172,.v m false [.sl (w.owns.map ownL)]),(173,vi 3),(174,vi i),(201,vi 48),(202,vb false)],H:=[bxm (.c 1) m (worldL w),bxm (.c 13) m (ownL o),bx (.c 14) (pl (inF o.h)),bx (.c 15) (pl (inF o.d)),bx (.c 16) (pl (inF (w.lock i).w)),bx (.c 17) (pl (orP (inF (w.lock i).w) (inF (w.lock i).r)))],ps:=[] })
      else some (.ret,{ V:=[(2,vb false)],H:=[],ps:=[] })
  | 0,j,h=>by
    rw [loopC_of _ _ _ _ ha]
    obtain rfl:j=48:=by omega
    simp [lp,loopsOf,Tryz.f20,allTo,hm]
  | n+1,j,h=>by
    have hj:j<48:=by omega
    have hJ:(j:Int)<48:=by omega
    have hw:=wrapN j (by omega)
    have h1:1≤48 - j:=by omega
    have hfl:=file_len w
    have hjt:j<o.t.length:=by omega
    have hjf:j<w.file.length:=by omega
    have p1:=pl_take (inF o.h) hj
    have p2:=pl_take (inF o.d) hj
    have p3:=pl_take (inF (w.lock i).w) hj
    have p4:=pl_take (orP (inF (w.lock i).w) (inF (w.lock i).r)) hj
    rw [orP_eq] at p4
    have ih:=lp_iWok4 m hm w i hi o ho ht a ha n (j+1) (by omega)
    push_cast at ih
    have hg:heldAt w i j=(!inF o.h j || ((inF (w.lock i).w j || (!inF o.d j&&inF (w.lock i).r j))&&(inF o.d j || eqI o.t[j].toNat w.file[j].toNat))):=by
      unfold heldAt
      rw [ho,getD_lt _ hjt,getD_lt _ hjf]
    rw [loopC_of _ _ _ _ ha,allTo,hg]
    clear ha hg
    generalize allTo (heldAt w i) n (j+1)=r at ih ⊢
    cases e1:inF o.h j
    · rw [e1] at p1
      simp [lp,loopsOf,Tryz.f20,hJ,hw,hm,h1,show j≤48 by omega,p1,ih]
    · rw [e1] at p1
      cases e2:inF (w.lock i).w j<;>cases e3:inF (w.lock i).r j<;>cases e4:inF o.d j<;>rw [e4] at p2<;>rw [e2] at p3<;>rw [e2,e3] at p4
      · simp [lp,loopsOf,Tryz.f20,hJ,hw,hm,h1,show j≤48 by omega,p1,p2,p3,p4]
      · simp [lp,loopsOf,Tryz.f20,hJ,hw,hm,h1,show j≤48 by omega,p1,p2,p3,p4]
      · cases e5:eqI o.t[j].toNat w.file[j].toNat<;>simp [lp,loopsOf,Tryz.f20,hJ,hw,hm,h1,show j≤48 by omega,hjt,hjf,p1,p2,p3,p4,e5,ih]
      · simp [lp,loopsOf,Tryz.f20,hJ,hw,hm,h1,show j≤48 by omega,p1,p2,p3,p4]
      · cases e5:eqI o.t[j].toNat w.file[j].toNat<;>simp [lp,loopsOf,Tryz.f20,hJ,hw,hm,h1,show j≤48 by omega,hjt,hjf,p1,p2,p3,p4,e5,ih]
      · simp [lp,loopsOf,Tryz.f20,hJ,hw,hm,h1,show j≤48 by omega,p1,p2,p3,p4,ih]
      · cases e5:eqI o.t[j].toNat w.file[j].toNat<;>simp [lp,loopsOf,Tryz.f20,hJ,hw,hm,h1,show j≤48 by omega,hjt,hjf,p1,p2,p3,p4,e5,ih]
      · simp [lp,loopsOf,Tryz.f20,hJ,hw,hm,h1,show j≤48 by omega,p1,p2,p3,p4,ih]
theorem lp_iWok3 (m:M) (hm:m.isOwn=false) (w:WorldT) (LP:LockP w.locks) (h1:w.owns.length=3) (hok:∀ i,i<3→(w.own i).ok=true) (a:Code) (ha:a=lp Tryz.f20 3):∀ (n i:Nat),i+n=3 →
    loopC E (ev E) 20 a { V:=[(1,adc 1),(11,.v .own false [.str w.file]),(172,.v m false [.sl (w.owns.map ownL)]),(173,vi 3),(174,vi i)],H:=[bxm (.c 1) m (worldL w)],ps:=[] } =
      if allTo (fun i=>allTo (heldAt w i) 48 0) n i=true then some (.exit 6,{ V:=[(1,adc 1),(11,.v .own false [.str w.file]),(172,.v m false [.sl (w.owns.map ownL)]),(173,vi 3),(174,vi 3),(175,vb false)],H:=[bxm (.c 1) m (worldL w)],ps:=[] })
      else some (.ret,{ V:=[(2,vb false)],H:=[],ps:=[] })
  | 0,i,h=>by
    rw [loopC_of _ _ _ _ ha]
    obtain rfl:i=3:=by omega
    simp [lp,loopsOf,Tryz.f20,allTo,hm]
  | n+1,i,h=>by
    have hi:i<3:=by omega
    have hI:(i:Int)<3:=by omega
    have hw:=wrapN i (by omega)
    have a1:i<w.owns.length:=by omega
    have a2:i<w.locks.length:=by have:=LP.len;omega
    have ho:w.own i=w.owns[i]:=getD_lt _ a1
    have hl:w.lock i=w.locks[i]:=getD_lt _ a2
    have ok:=ownOk_bd (hok i hi)
    have l1:=LP.r i hi
    have l2:=LP.w i hi
    have e1:w.locks.getD i noH=w.locks[i]:=getD_lt _ a2
    rw [e1] at l1 l2
    rw [ho] at ok
    have c1:=fun m=>of_sps m ok.2.1
    have c2:=fun m=>of_sps m ok.2.2.1
    have c3:=fun m=>of_sps m l2
    have c4:=fun m=>of_sps m l1
    have c5:=fun m m' m''=>put_or m m' m'' (inF w.locks[i].w) (inF w.locks[i].r)
    have ih:=lp_iWok3 m hm w LP h1 hok a ha n (i+1) (by omega)
    push_cast at ih
    have hin:=fun a ha=>lp_iWok4 m hm w i hi w.owns[i] ho ok.1 a ha 48 0 (by omega)
    push_cast at hin
    rw [hl] at hin
    rw [loopC_of _ _ _ _ ha,allTo]
    clear ha
    generalize allTo (fun i=>allTo (heldAt w i) 48 0) n (i+1)=r at ih ⊢
    generalize allTo (heldAt w i) 48 0=z at *
    simp [-shapeT,lp,loopsOf,Tryz.f20,hI,hw,hm,a1,a2,c1,c2,c3,c4,c5,pl_ff]
    rw [hin _ ?_]
    · cases z<;>simp [hw,hm,ih]
    · rfl
theorem ev_impl_WorldOk (m:M) (hm:m.isOwn=false) (w:WorldT) (C:WorldC w):ev E 20 [.v m true (worldL w)]=some (rB (worldOk w)):=by
  have c1:=fun m=>ev_impl_LayOk m w.size w.many
  have c2:=fun m hm=>ev_impl_StoreOk m hm w.st C.stC
  have c3:=fun m hm=>ev_impl_LockOk m hm w.locks C.locks C.holds
  have c4:=fun m hm=>ev_impl_StoreFall m hm w.st C.stC
  unfold worldOk countsOk
  cases e1:layOk w.size w.many
  · rw [ev_fn Tryz.f20 rfl Tryz.func20 rfl rfl rfl (Nat.le_of_ble_eq_true rfl)]
    simp [c1,e1,hm]
  · cases e2:storeOk w.st
    · rw [ev_fn Tryz.f20 rfl Tryz.func20 rfl rfl rfl (Nat.le_of_ble_eq_true rfl)]
      simp [c1,c2,e1,e2,hm]
    · cases e3:lockOk w.locks
      · rw [ev_fn Tryz.f20 rfl Tryz.func20 rfl rfl rfl (Nat.le_of_ble_eq_true rfl)]
        simp [c1,c2,c3,e1,e2,e3,hm]
      · cases e4:eqI w.owns.length 3
        · rw [ev_fn Tryz.f20 rfl Tryz.func20 rfl rfl rfl (Nat.le_of_ble_eq_true rfl)]
          simp [c1,c2,c3,e1,e2,e3,e4,hm]
        · cases e5:eqI w.epochs.length 3
          · rw [ev_fn Tryz.f20 rfl Tryz.func20 rfl rfl rfl (Nat.le_of_ble_eq_true rfl)]
            simp [c1,c2,c3,e1,e2,e3,e4,e5,hm]
          · cases e6:eqI w.alive.length 3
            · rw [ev_fn Tryz.f20 rfl Tryz.func20 rfl rfl rfl (Nat.le_of_ble_eq_true rfl)]
              simp [c1,c2,c3,e1,e2,e3,e4,e5,e6,hm]
            · cases e7:ltI 8 w.late.length
              · have SP:=storeOk_iff.1 e2
                have LP:=lockOk_iff.1 e3
                have h1:=eqI3.1 e4
                have h2:=eqI3.1 e5
                have h3:=eqI3.1 e6
                have h1I:(w.owns.length:Int)=3:=by omega
                have h8:w.late.length≤8:=by rw [ltI_not] at e7;omega
                have FP:=fall_ok SP
                have c5:=fun m m' hm hm'=>ev_impl_StoreAll m m' hm hm' (storeFall w.st) w.kept FP.bd C.kept C.keptT
                rw [if_pos e2] at c4
                rw [if_pos (storeOk_iff.2 FP)] at c5
                simp only [rS1] at c4
                simp only [rStA] at c5
                have c6:=fun m m' hm hm'=>ev_impl_StoreSame m m' hm hm' (storeAll (storeFall w.st) w.kept).1 w.st C.st
                have c7:=fun m hm=>ev_stored m hm w e1 SP.now
                have hcl:=storeAll_len w.kept (storeFall w.st)
                have hcode:=storeAll_code w.kept (storeFall w.st)
                have l0:=lp_iWok0 m hm w C h1 h2 h3 SP.floors _ rfl 3 0 (by omega)
                push_cast at l0
                cases f1:allTo (ownAt w) 3 0
                · rw [f1] at l0
                  rw [ev_fn Tryz.f20 rfl Tryz.func20 rfl rfl rfl (Nat.le_of_ble_eq_true rfl)]
                  simp [c1,c2,c3,e1,e2,e3,e4,e5,e6,e7,hm,h1I]
                  rw [loopC_at ?_ l0]
                  · simp
                  · rfl
                · have hok:∀ i,i<3→(w.own i).ok=true:=fun i hi=>by
                    have:=(allTo_iff _ 3 0).1 f1 i (by omega) (by omega)
                    simp only [ownAt,Bool.and_eq_true] at this
                    exact this.1
                  rw [f1] at l0
                  have l1:=fun a ha=>lp_iWok1 m hm w (storeAll (storeFall w.st) w.kept).1 (storeAll (storeFall w.st) w.kept).2 hcl C.kept h2 hcode a ha w.kept.length 0 (by omega)
                  have l2:=fun a ha=>lp_iWok2 m hm w h8 C.lateT SP.floors a ha w.late.length 0 (by omega)
                  have l3:=fun a ha=>lp_iWok3 m hm w LP h1 hok a ha 3 0 (by omega)
                  push_cast at l1 l2 l3
                  simp only [List.drop_zero] at l1 l2
                  clear hcode
                  generalize storeAll (storeFall w.st) w.kept=z at *
                  generalize keptF w w.kept z.2=g1 at *
                  generalize sameStore z.1 w.st=g2 at *
                  generalize w.late.all (lateAt w)=g3 at *
                  generalize allTo (fun i=>allTo (heldAt w i) 48 0) 3 0=g4 at *
                  rw [ev_fn Tryz.f20 rfl Tryz.func20 rfl rfl rfl (Nat.le_of_ble_eq_true rfl)]
                  simp [c1,c2,c3,e1,e2,e3,e4,e5,e6,e7,hm,h1I]
                  rw [loopC_at ?_ l0]
                  · simp [c4,c5,hm]
                    rw [l1 _ ?_]
                    · cases g1
                      · simp
                      · simp [c6,hm]
                        cases g2
                        · simp [c6,hm]
                        · simp [c6,hm]
                          rw [l2 _ ?_]
                          · cases g3
                            · simp
                            · simp [c7,hm,h1I]
                              rw [l3 _ ?_]
                              · cases g4<;>simp
                              · rfl
                          · rfl
                    · rfl
                  · rfl
              · rw [ev_fn Tryz.f20 rfl Tryz.func20 rfl rfl rfl (Nat.le_of_ble_eq_true rfl)]
                simp [c1,c2,c3,e1,e2,e3,e4,e5,e6,e7,hm]
end Go.Ev

