/- My texts joined: EvT85, EvT86, EvT87, EvT43, EvT88. No condition. -/
import Derived.Test.YtikmfpdfippjhaaGreatDoorEn15
import Derived.Test.YtikmfpdfippjhaaGreatDoorEn16
set_option linter.unusedVariables false
set_option linter.unusedSimpArgs false

set_option maxRecDepth 100000
set_option maxHeartbeats 8000000
namespace Go.Ev
open Go.Proofs
theorem addLate_full:∀ (qs l:List ReqT),ltI l.length 8=false→addLate l qs=l
  | [],l,_=>rfl
  | q::qs,l,h=>by
    rw [addLate,h,Bool.and_false,if_neg Bool.false_ne_true]
    exact addLate_full qs l h
theorem lp_l7Evict (w x:WorldT) (qs:List ReqT) (hq:qs.length≤600) (hd:∀ q∈qs,q.data.length≤4000000) (a:Code) (ha:a=lp Tryz.f100 0):∀ (n i:Nat) (l:List ReqT),i+n=qs.length→l.length≤8 →
    ∃ k:Int,loopC E (ev E) 100 a { V:=[(2,adc 2),(4,adc 4),(6,at1 6),(7,vi i)],H:=[pdw w,bx (.c 2) (worldL { x with late:=l }),bx (.c 4) (worldL noW),ow (.c 6) [.sl (qs.map reqL)]],ps:=[0] } =
      some (.exit 0,{ V:=[(2,adc 2),(4,adc 4),(6,at1 6),(7,vi k),(74,vb false)],H:=[pdw w,bx (.c 2) (worldL { x with late:=addLate l (qs.drop i) }),bx (.c 4) (worldL noW),ow (.c 6) [.sl (qs.map reqL)]],ps:=[0] })
  | 0,i,l,h,hl=>by
    refine ⟨qs.length,?_⟩
    rw [loopC_of _ _ _ _ ha,noW_L]
    obtain rfl:i=qs.length:=by omega
    simp [lp,loopsOf,Tryz.f100,addLate]
  | n+1,i,l,h,hl=>by
    have hlt:i<qs.length:=by omega
    have hw:=wrapN i (by omega)
    have c1:=fun m=>ev_l5Req m qs[i] (hd _ (List.getElem_mem hlt))
    cases e1:ltI l.length 8
    · refine ⟨i,?_⟩
      rw [loopC_of _ _ _ _ ha,noW_L,addLate_full _ _ e1]
      simp [lp,loopsOf,Tryz.f100,hlt,e1]
    · have h8:=ltI_iff.1 e1
      have h1:(l.length+1)*56≤17592186044416:=by omega
      have h2:l.length+1≤17592186044416:=by omega
      cases e2:reqOk qs[i]
      · obtain ⟨k,ih⟩:=lp_l7Evict w x qs hq hd a ha n (i+1) l (by omega) hl
        refine ⟨k,?_⟩
        push_cast at ih
        rw [e2] at c1
        rw [loopC_of _ _ _ _ ha,List.drop_eq_getElem_cons hlt,addLate,e2]
        clear ha
        rw [noW_L] at ih ⊢
        simp [lp,loopsOf,Tryz.f100,hlt,hw,e1,c1]
        simpa [worldL_mk,storeL] using ih
      · obtain ⟨k,ih⟩:=lp_l7Evict w x qs hq hd a ha n (i+1) (l++[qs[i]]) (by omega) (by simp;omega)
        refine ⟨k,?_⟩
        push_cast at ih
        rw [e2] at c1
        rw [loopC_of _ _ _ _ ha,List.drop_eq_getElem_cons hlt,addLate,e2,e1]
        clear ha
        rw [noW_L] at ih ⊢
        simp [lp,loopsOf,Tryz.f100,hlt,hw,e1,c1,h1,h2]
        simpa [worldL_mk,storeL] using ih
theorem ev_l7Evict (m1:M) (w:WorldT) (h:WorldP w) (i:Nat) (hi:i<3):ev E 100 [.own true (worldL w),.v m1 false [.int .i64 i]]=some (rWI .own (evictW w i).1 (evictW w i).2):=by
  have hle:i<w.epochs.length:=by have:=h.epochs;omega
  have hla:i<w.alive.length:=by have:=h.alive;omega
  have hlo:i<w.owns.length:=by have:=h.owns;omega
  have hep:w.ep i=w.epochs[i]:=getD_lt _ hle
  unfold evictW
  have hE:=h.ep i hi
  have hfl:=(h.st.nums i hi).2.2.2
  rw [hep] at hE ⊢
  cases e1:ltI w.epochs[i] 100
  · rw [ev_fn Tryz.f100 rfl Tryz.func100 rfl rfl rfl (Nat.le_of_ble_eq_true rfl)]
    simp [hle,e1,rWI]
  · obtain ⟨r1,r2⟩:=h.reqsB hi whole_ok
    have hw:IntKind.i64.wrap (w.epochs[i]+1)=w.epochs[i]+1:=wrap64 (by have:=ltI_iff.1 e1;omega)
    have c0:=ev_l7Whole
    have c1:=fun m m1 m2 hm=>ev_l7All m m1 m2 hm w h i hi whole whole_ok
    have c2:=fun m hm=>ev_spec_StoreSync m hm w.st h.st.bd
    rw [if_pos (storeOk_iff.2 h.st)] at c2
    have SP:=sync_ok h.st
    have c3:=fun m m' m'' hm=>ev_spec_StoreFence m m' m'' hm (storeSync w.st) i (w.epochs[i]+1) SP.bd
    have hfo:fenceOk i (w.epochs[i]+1)=true:=by
      simp only [fenceOk,who_ok hi,Bool.true_and,Bool.and_eq_true,Bool.not_eq_true',ltI_not]
      have:=ltI_iff.1 e1
      omega
    rw [if_pos (storeOk_iff.2 SP),fenceT,if_pos hfo,Int.toNat_natCast] at c3
    have c4:=fun m m1 hm=>ev_spec_LockOff m m1 hm w.locks (by have:=h.lk.len;omega) h.lk.bd i
    rw [if_pos (lockOk_iff.2 h.lk),if_pos (who_ok hi),Int.toNat_natCast] at c4
    simp only [rS1] at c2
    simp only [rStB] at c3
    simp only [rLk] at c4
    have c5:ev E 113 []=some { rs:=[.v .own true (ownL noO)],outs:=[] }:=ev_l6None
    obtain ⟨k,l0⟩:=lp_l7Evict w { w with st:=storeFence (storeSync w.st) i (w.epochs[i]+1),kept:=[],epochs:=w.epochs.set i (w.epochs[i]+1),locks:=w.locks.set i noH,owns:=w.owns.set i noO,alive:=w.alive.set i true } (w.reqs i whole) r1 r2 _ rfl (w.reqs i whole).length 0 w.late (by omega) h.lateN
    push_cast at l0
    simp only [List.drop_zero] at l0
    rw [noW_L] at l0
    generalize w.reqs i whole=qs at *
    generalize storeFence (storeSync w.st) i (w.epochs[i]+1)=sf at *
    generalize storeSync w.st=sy at *
    simp only [if_true]
    generalize addLate w.late qs=al at *
    rw [ev_fn Tryz.f100 rfl Tryz.func100 rfl rfl rfl (Nat.le_of_ble_eq_true rfl)]
    simp [c0,c1,c2,c3,c4,c5,hle,hla,hlo,hw,e1,List.map_set]
    simp [worldL_mk,storeL,List.map_set] at l0
    rw [loopC_at ?_ l0]
    · simp [rWI,List.map_set]
    · rfl
set_option maxRecDepth 100000
set_option maxHeartbeats 8000000
theorem ev_l7Give (m m1:M) (hm:m.isOwn=false) (w:WorldT) (h:WorldP w) (k:Int):ev E 97 [.v m true (worldL w),.v m1 false [.int .i64 k]]=some (rWI m (giveW w k).1 (giveW w k).2):=by
  have hN:=h.lateN
  unfold giveW
  cases e1:ltI k 0
  · obtain ⟨i,rfl⟩:∃ i:Nat,k=i:=⟨k.toNat,by have:=ltI_not.1 e1;omega⟩
    cases e2:ltI (i:Int) w.late.length
    · rw [ev_fn Tryz.f97 rfl Tryz.func97 rfl rfl rfl (Nat.le_of_ble_eq_true rfl)]
      simp [e1,e2,hm,rWI]
    · have hlt:i<w.late.length:=by have:=ltI_iff.1 e2;omega
      have hg:w.late.getD i ⟨0,0,0,0,0,[]⟩=w.late[i]:=getD_lt _ hlt
      have hq:=(h.late _ (List.getElem_mem hlt)).1
      have hqd:w.late[i].data.length≤4000000:=by have:=(wrOk_len hq.wr);omega
      have c1:=fun m m' hm=>ev_spec_StoreDo m m' hm w.st w.late[i] h.st.bd hqd
      rw [if_pos (storeOk_iff.2 h.st)] at c1
      simp only [rSt] at c1
      have hw:=wrapN i (by omega)
      rw [Int.toNat_natCast,hg]
      generalize storeDo w.st w.late[i]=z at *
      have h1:i*56≤17592186044416:=by omega
      have h2:i≤17592186044416:=by omega
      have h3:(i+(w.late.length - (i+1)))*56≤17592186044416:=by omega
      have h4:i+(w.late.length - (i+1))≤17592186044416:=by omega
      have h6:i≤w.late.length:=by omega
      have h7:i+1≤w.late.length:=by omega
      have h8:(0:Int)≤(i:Int)+1:=by omega
      have h9:(i:Int)+1≤w.late.length:=by omega
      have h5:min i w.late.length=i:=by omega
      rw [ev_fn Tryz.f97 rfl Tryz.func97 rfl rfl rfl (Nat.le_of_ble_eq_true rfl)]
      simp [-List.map_take,-List.map_drop,← List.map_take,← List.map_drop,c1,e1,e2,hlt,hw,h1,h2,h3,h4,h5,h6,h7,h8,h9,hm,rWI]
  · rw [ev_fn Tryz.f97 rfl Tryz.func97 rfl rfl rfl (Nat.le_of_ble_eq_true rfl)]
    simp [e1,hm,rWI]
set_option maxRecDepth 100000
set_option maxHeartbeats 8000000
theorem eqI_ne {a b:Int} (h:a≠b):eqI a b=false:=by
  cases e:eqI a b
  · rfl
  · exact absurd (eqI_iff.1 e) h
theorem WorldP.keptD {w:WorldT} (h:WorldP w):∀ q∈w.kept,q.data.length≤4000000:=by
  intro q hq
  obtain ⟨i,hi,rfl⟩:=List.getElem_of_mem hq
  have hc:=storeAll_code w.kept (storeFall w.st) i (by rw [h.kept];simp [zeros];exact hi) hi (by simp [h.kept,zeros])
  have:=wrOk_len hc.wr
  omega
def OwRo (m:M):Prop:=m=.own∨m=.ro∨m=.tn
def Ans3 (f:M→Option Out) (w:WorldT) (s:Bs) (c:Int):Prop:=∃ mz,OwRo mz∧∀ me,f me=some (rWS mz w s c)
theorem ev_l7Who (w:WorldT) (h:WorldP w) (e:EvT) (i:Nat) (hi:i<3) (he:e.who=i) (hl:w.live i=true) (hs:(e.kind=1∨e.kind=2)→spOk e.span=true) (hd:e.data.length≤4000000) :
    Ans3 (fun me=>ev E 101 [.own true (worldL w),.v me true (evL e)]) (whoW w e).1 (whoW w e).2.1 (whoW w e).2.2:=by
  have htn:e.who.toNat=i:=by omega
  obtain ⟨hlo,ho⟩:=h.own_get hi
  have hla:i<w.alive.length:=by have:=h.alive;omega
  unfold whoW
  rw [htn]
  by_cases k1:e.kind=1
  · have c1:=fun m me hm=>ev_l7Lock m me hm w h e i hi he (hs (.inl k1))
    rw [if_pos k1]
    by_cases hc:(lockW w i e.write e.span).2=0
    · simp only [if_pos hc,rWI,evL,k1] at c1
      refine ⟨.own,.inl rfl,?_⟩
      generalize lockW w i e.write e.span=z at *
      intro me
      dsimp only
      rw [ev_fn Tryz.f101 rfl Tryz.func101 rfl rfl rfl (Nat.le_of_ble_eq_true rfl)]
      simp [k1,c1,rWS]
    · simp only [if_neg hc,rWI,evL,k1] at c1
      refine ⟨.tn,.inr (.inr rfl),?_⟩
      generalize lockW w i e.write e.span=z at *
      intro me
      dsimp only
      rw [ev_fn Tryz.f101 rfl Tryz.func101 rfl rfl rfl (Nat.le_of_ble_eq_true rfl)]
      simp [k1,c1,rWS]
  · rw [if_neg k1]
    by_cases k2:e.kind=2
    · have c1:=fun me=>ev_l7Read me w h e i hi he (hs (.inr k2))
      rw [if_pos k2]
      simp only [rWS,evL,k2] at c1
      refine ⟨.own,.inl rfl,?_⟩
      generalize readW w i e.span=z at *
      intro me
      dsimp only
      rw [ev_fn Tryz.f101 rfl Tryz.func101 rfl rfl rfl (Nat.le_of_ble_eq_true rfl)]
      simp [k2,c1,rWS]
    · rw [if_neg k2]
      by_cases k3:e.kind=3
      · have c1:=fun me=>ev_l7Write me w h e i hi he hd
        rw [if_pos k3]
        simp only [rWI,evL,k3] at c1
        refine ⟨.own,.inl rfl,?_⟩
        generalize writeW w i e.pos e.data=z at *
        intro me
        dsimp only
        rw [ev_fn Tryz.f101 rfl Tryz.func101 rfl rfl rfl (Nat.le_of_ble_eq_true rfl)]
        simp [k3,c1,rWS]
      · rw [if_neg k3]
        have n1:=eqI_ne k1
        have n2:=eqI_ne k2
        have n3:=eqI_ne k3
        have c0:=ev_l7Whole
        by_cases k4:e.kind=4
        · rw [if_pos k4,flush_backs]
          cases hb:backsB w i whole
          · have c1:=fun m1 m2=>ev_flush_own m1 m2 w h i hi whole whole_ok hb
            have c2:=fun m m1 m2 hm=>ev_flush_lent m hm m1 m2 w h i hi whole whole_ok hb
            simp only [rWB] at c1 c2
            refine ⟨.ro,.inr (.inl rfl),?_⟩
            intro me
            dsimp only
            rw [ev_fn Tryz.f101 rfl Tryz.func101 rfl rfl rfl (Nat.le_of_ble_eq_true rfl)]
            simp [k4,he,c0,c1,c2,rWS]
          · have c1:=fun m1 m2=>ev_flush_fine m1 m2 w h i hi whole whole_ok hb
            simp only [rWB] at c1
            refine ⟨.own,.inl rfl,?_⟩
            generalize backsW w i whole=z at *
            intro me
            dsimp only
            rw [ev_fn Tryz.f101 rfl Tryz.func101 rfl rfl rfl (Nat.le_of_ble_eq_true rfl)]
            simp [k4,he,c0,c1,rWS]
        · rw [if_neg k4]
          have n4:=eqI_ne k4
          have c1:ev E 113 []=some { rs:=[.v .own true (ownL noO)],outs:=[] }:=ev_l6None
          refine ⟨.own,.inl rfl,?_⟩
          intro me
          dsimp only
          rw [ev_fn Tryz.f101 rfl Tryz.func101 rfl rfl rfl (Nat.le_of_ble_eq_true rfl)]
          simp [n1,n2,n3,n4,he,hla,hlo,c1,dieW,rWS,List.map_set]
theorem ev_l7Do (w:WorldT) (h:WorldP w) (e:EvT) (hd:e.data.length≤4000000) :
    Ans3 (fun me=>ev E 30 [.own true (worldL w),.v me true (evL e)]) (doW w e).1 (doW w e).2.1 (doW w e).2.2:=by
  unfold doW
  by_cases k5:e.kind=5
  · rw [if_pos k5]
    have c1:=fun m hm=>ev_spec_StoreSync m hm w.st h.st.bd
    rw [if_pos (storeOk_iff.2 h.st)] at c1
    simp only [rS1] at c1
    refine ⟨.own,.inl rfl,?_⟩
    generalize storeSync w.st=z at *
    intro me
    dsimp only
    rw [ev_fn Tryz.f30 rfl Tryz.func30 rfl rfl rfl (Nat.le_of_ble_eq_true rfl)]
    simp [k5,c1,rWS]
  · rw [if_neg k5]
    have n5:=eqI_ne k5
    by_cases k6:e.kind=6
    · rw [if_pos k6]
      have c1:=ev_l7Fall w h h.keptD
      simp only [rW1] at c1
      refine ⟨.own,.inl rfl,?_⟩
      generalize storeAll (storeFall w.st) w.kept=z at *
      intro me
      dsimp only
      rw [ev_fn Tryz.f30 rfl Tryz.func30 rfl rfl rfl (Nat.le_of_ble_eq_true rfl)]
      simp [k6,c1,rWS]
    · rw [if_neg k6]
      have n6:=eqI_ne k6
      by_cases k9:e.kind=9
      · rw [if_pos k9]
        have c1:=fun m m1 hm=>ev_l7Give m m1 hm w h e.pos
        simp only [rWI] at c1
        refine ⟨.tn,.inr (.inr rfl),?_⟩
        generalize giveW w e.pos=z at *
        intro me
        dsimp only
        rw [ev_fn Tryz.f30 rfl Tryz.func30 rfl rfl rfl (Nat.le_of_ble_eq_true rfl)]
        simp [k9,c1,rWS]
      · rw [if_neg k9]
        have n9:=eqI_ne k9
        have c2:=fun m=>ev_spec_l4Who m e.who
        have c3:∀ m,ev E 99 [.v m true (spL e.span)]=some (rB (spOk e.span)):=fun m=>ev_spec_SpanOk m e.span
        have hf:formEv e=(ltI e.kind 1 || ltI 9 e.kind || !whoOk e.who || ((eqI e.kind 1 || eqI e.kind 2)&&!spOk e.span)):=rfl
        cases f1:ltI e.kind 1
        · cases f2:ltI 9 e.kind
          · cases f3:whoOk e.who
            · rw [if_pos (by rw [hf,f1,f2,f3];rfl)]
              refine ⟨.own,.inl rfl,?_⟩
              intro me
              dsimp only
              rw [ev_fn Tryz.f30 rfl Tryz.func30 rfl rfl rfl (Nat.le_of_ble_eq_true rfl)]
              simp [n5,n6,n9,f1,f2,f3,c2,rWS]
            · obtain ⟨i,hi,he⟩:=who_nat f3
              have hla:i<w.alive.length:=by have:=h.alive;omega
              have hlv:w.live i=w.alive[i]:=getD_lt _ hla
              have htn:e.who.toNat=i:=by omega
              cases f4:(eqI e.kind 1 || eqI e.kind 2)&&!spOk e.span
              · rw [if_neg (by rw [hf,f1,f2,f3,f4];simp),htn]
                have hs:(e.kind=1∨e.kind=2)→spOk e.span=true:=fun hk=>by
                  rcases hk with hk | hk<;>simpa [hk] using f4
                by_cases k8:e.kind=8
                · rw [if_pos k8]
                  have c4:=fun m1=>ev_l7Evict m1 w h i hi
                  simp only [rWI] at c4
                  rw [he] at c2
                  refine ⟨.own,.inl rfl,?_⟩
                  generalize evictW w i=z at *
                  intro me
                  dsimp only
                  rw [ev_fn Tryz.f30 rfl Tryz.func30 rfl rfl rfl (Nat.le_of_ble_eq_true rfl)]
                  simp [k8,f3,he,c2,c4,rWS,who_ok hi]
                · rw [if_neg k8,hlv]
                  have n8:=eqI_ne k8
                  cases e1:eqI e.kind 1<;>cases e2:eqI e.kind 2<;>cases e3:spOk e.span<;>simp only [e1,e2,e3,Bool.or_true,Bool.true_or,Bool.or_false,Bool.not_false,Bool.not_true,Bool.and_true,Bool.and_false,Bool.true_eq_false] at f4
                  all_goals
                    cases e4:w.alive[i]
                    · refine ⟨.own,.inl rfl,?_⟩
                      rw [if_pos rfl]
                      rw [he] at c2
                      rw [e3] at c3
                      intro me
                      dsimp only
                      rw [ev_fn Tryz.f30 rfl Tryz.func30 rfl rfl rfl (Nat.le_of_ble_eq_true rfl)]
                      simp [n5,n6,n9,n8,f1,f2,e1,e2,e3,e4,he,hla,c2,c3,rWS,who_ok hi]
                    · rw [if_neg (by simp)]
                      rw [he] at c2
                      rw [e3] at c3
                      obtain ⟨mz,hmz,c5⟩:=ev_l7Who w h e i hi he (by rw [hlv,e4]) hs hd
                      simp only [rWS,evL,he] at c5
                      generalize whoW w e=z at *
                      rcases hmz with rfl | rfl | rfl
                      · refine ⟨.own,.inl rfl,?_⟩
                        intro me
                        dsimp only
                        rw [ev_fn Tryz.f30 rfl Tryz.func30 rfl rfl rfl (Nat.le_of_ble_eq_true rfl)]
                        simp [n5,n6,n9,n8,f1,f2,e1,e2,e3,e4,he,hla,c2,c3,c5,rWS,who_ok hi]
                      · refine ⟨.ro,.inr (.inl rfl),?_⟩
                        intro me
                        dsimp only
                        rw [ev_fn Tryz.f30 rfl Tryz.func30 rfl rfl rfl (Nat.le_of_ble_eq_true rfl)]
                        simp [n5,n6,n9,n8,f1,f2,e1,e2,e3,e4,he,hla,c2,c3,c5,rWS,who_ok hi]
                      · refine ⟨.ro,.inr (.inl rfl),?_⟩
                        intro me
                        dsimp only
                        rw [ev_fn Tryz.f30 rfl Tryz.func30 rfl rfl rfl (Nat.le_of_ble_eq_true rfl)]
                        simp [n5,n6,n9,n8,f1,f2,e1,e2,e3,e4,he,hla,c2,c3,c5,rWS,who_ok hi]
              · rw [if_pos (by rw [hf,f1,f2,f3,f4];rfl)]
                refine ⟨.own,.inl rfl,?_⟩
                rw [he] at c2
                cases e1:eqI e.kind 1<;>cases e2:eqI e.kind 2<;>cases e3:spOk e.span<;>simp only [e1,e2,e3,Bool.or_true,Bool.true_or,Bool.or_false,Bool.not_false,Bool.not_true,Bool.and_true,Bool.and_false,Bool.false_eq_true] at f4
                all_goals
                  rw [e3] at c3
                  intro me
                  dsimp only
                  rw [ev_fn Tryz.f30 rfl Tryz.func30 rfl rfl rfl (Nat.le_of_ble_eq_true rfl)]
                  simp [n5,n6,n9,f1,f2,e1,e2,e3,he,c2,c3,rWS,who_ok hi]
          · rw [if_pos (by rw [hf,f1,f2];rfl)]
            refine ⟨.own,.inl rfl,?_⟩
            intro me
            dsimp only
            rw [ev_fn Tryz.f30 rfl Tryz.func30 rfl rfl rfl (Nat.le_of_ble_eq_true rfl)]
            simp [n5,n6,n9,f1,f2,rWS]
        · rw [if_pos (by rw [hf,f1];rfl)]
          refine ⟨.own,.inl rfl,?_⟩
          intro me
          dsimp only
          rw [ev_fn Tryz.f30 rfl Tryz.func30 rfl rfl rfl (Nat.le_of_ble_eq_true rfl)]
          simp [n5,n6,n9,f1,rWS]
theorem WorldP.wc {w:WorldT} (h:WorldP w):WorldC w:=by
  refine ⟨h.wb,h.st.bd,fun o ho=>?_,h.keptD,fun q hq=>?_⟩
  · obtain ⟨i,hi,rfl⟩:=List.getElem_of_mem ho
    have:=h.own i (by have:=h.owns;omega)
    rw [show w.own i=w.owns[i] from getD_lt _ hi] at this
    have:=(ownOk_bd this).1
    omega
  · have:=wrOk_len (h.late q hq).1.wr
    omega
def worldDo (w:WorldT) (e:EvT):WorldT × Bs × Int:=if worldOk w=true then doW w e else (noW,[],20)
theorem ev_spec_WorldDo (m me:M) (hm:m.isOwn=false) (w:WorldT) (C:WorldC w) (e:EvT) (hd:e.data.length≤4000000) :
    ev E 12 [.v m true (worldL w),.v me true (evL e)]=some (rWS .own (worldDo w e).1 (worldDo w e).2.1 (worldDo w e).2.2):=by
  have c1:=fun m hm=>ev_spec_WorldOk m hm w C
  have c2:=fun m hm=>ev_l7Copy m hm w C.toWorldB
  unfold worldDo
  cases e1:worldOk w
  · rw [e1] at c1
    rw [ev_fn Tryz.f12 rfl Tryz.func12 rfl rfl rfl (Nat.le_of_ble_eq_true rfl)]
    simp [c1,hm,rWS,noW,noS]
  · rw [e1] at c1
    have P:=worldOk_iff.1 e1
    have c3:=fun m hm=>ev_l7Copy m hm _ (doW_ok P e).wb
    simp only [if_true]
    obtain ⟨mz,hmz,c4⟩:=ev_l7Do w P e hd
    simp only [rWS] at c4
    generalize doW w e=z at *
    rw [ev_fn Tryz.f12 rfl Tryz.func12 rfl rfl rfl (Nat.le_of_ble_eq_true rfl)]
    rcases hmz with rfl | rfl | rfl<;>simp [c1,c2,c3,c4,hm,rWS]
set_option maxRecDepth 100000
set_option maxHeartbeats 8000000
theorem ev_l4WhoDraw (bs:List UInt8) (p:Nat) (b:RdB bs p) (hp:p+2≤1099511627776) :
    ∃ k:Int,(-9223372036854775808≤k∧k≤9223372036854775807)∧ev E 73 [rdA bs p]=some { rs:=[.v .own false [.int .i64 k]],outs:=[rdO bs (p+2)] }:=by
  obtain ⟨k,hk,c1⟩:=ev_pick .ro bs p 20 b (by omega)
  by_cases k0:k=0
  · subst k0
    obtain ⟨v,hv,c2⟩:=ev_num .tn bs (p+1) [-1,3,9223372036854775807] (b.add (by omega)) (by simp) (by simp)
    refine ⟨v,?_,?_⟩
    · simp only [List.mem_cons,List.not_mem_nil,or_false] at hv
      omega
    · simp at c2
      rw [ev_fn Tryz.f73 rfl Tryz.func73 rfl rfl rfl (Nat.le_of_ble_eq_true rfl)]
      simp [c1,c2]
  · obtain ⟨j,hj,c2⟩:=ev_pick .ro bs (p+1) 3 (b.add (by omega)) (by omega)
    have hj:=hj (by omega)
    have e0:eqI k 0=false:=eqI_not.2 (by omega)
    refine ⟨j,by omega,?_⟩
    rw [ev_fn Tryz.f73 rfl Tryz.func73 rfl rfl rfl (Nat.le_of_ble_eq_true rfl)]
    simp [c1,c2,e0]
set_option maxRecDepth 100000
set_option maxHeartbeats 40000000
def Sat (P:Out→Prop) (x:Option Out):Prop:=∃ o,x=some o∧P o
def EvD (bs:Bs) (p:Nat) (o:Out):Prop:=∃ (e:EvT) (p':Nat),e.data.length≤300∧p'≤p+300∧o={ rs:=[.v .own true (evL e)],outs:=[rdO bs p'] }
theorem evD_of {bs:Bs} {p p':Nat} {a c f g h:Int} {b:Bool} {x:Bs} (hx:x.length≤300) (hp:p'≤p+300) :
    Sat (EvD bs p) (some { rs:=[.v .own true [.int .i64 a,.int .i64 c,.bool b,.int .i64 f,.int .i64 g,.int .i64 h,.str x]],outs:=[rdO bs p'] }):=⟨_,rfl,⟨a,c,b,(f,g),h,x⟩,p',hx,hp,rfl⟩
theorem ev_l7Ev (m:M) (hm:m.isOwn=false) (w:WorldT) (B:WorldB w) (bs:Bs) (p:Nat) (b:RdB bs p) (hp:p+1000≤1099511627776):Sat (EvD bs p) (ev E 26 [rdA bs p,.v m true (worldL w)]):=by
  obtain ⟨v,hv,c1⟩:=ev_num .tn bs p [1,1,1,2,2,3,3,3,3,4,5,6,7,8,9] b (by simp) (by simp)
  obtain ⟨who,hwho,c2⟩:=ev_pick .ro bs (p+1) 3 ⟨b.b,by omega⟩ (by omega)
  obtain ⟨wr,hwr,c3⟩:=ev_pick .ro bs (p+1+1) 2 ⟨b.b,by omega⟩ (by omega)
  obtain ⟨s,hs,c4⟩:=ev_l1Span bs (p+1+1+1) ⟨b.b,by omega⟩ (by omega)
  obtain ⟨at0,hat0,c5⟩:=ev_pick .ro bs (p+1+1+1+2) 30 ⟨b.b,by omega⟩ (by omega)
  obtain ⟨x,hx,c6⟩:=ev_ofS .tn bs (p+1+1+1+2+1) [[120],[97,98],[113,55,46],[109,110,111,112,113]] ⟨b.b,by omega⟩ (by simp) (by simp)
  have hxl:x.length≤300:=by
    simp only [List.mem_cons,List.not_mem_nil,or_false] at hx
    rcases hx with rfl | rfl | rfl | rfl<;>simp
  obtain ⟨k4,hk4,c7⟩:=ev_pick .ro bs (p+1+1+1+2+1+1) 4 ⟨b.b,by omega⟩ (by omega)
  have hwho:=hwho (by omega)
  have hl:=B.locks
  simp at c1 c6
  obtain ⟨P0,hP0⟩:∃ P0,P0=p+1+1+1+2+1+1:=⟨_,rfl⟩
  rw [← hP0] at c6 c7
  rw [ev_fn Tryz.f26 rfl Tryz.func26 rfl rfl rfl (Nat.le_of_ble_eq_true rfl)]
  simp [c1,c2,c3,c4,c5,c6,hm]
  clear c1 c2 c3 c4 c5 c6
  cases e1:eqI (w.locks.length:Int) 3
  · simp [e1,hm]
    by_cases k9:v=9
    · obtain ⟨g,hg,c9⟩:=ev_num .tn bs (P0) [0,0,1,2,-1] ⟨b.b,by omega⟩ (by simp) (by simp)
      simp at c9
      simp [k9,c9]
      obtain ⟨k,hk,d0⟩:=ev_pick .ro bs (P0+1) 60 ⟨b.b,by omega⟩ (by omega)
      simp [d0]
      by_cases f0:(k:Int)=0
      · obtain ⟨y,hy,d1⟩:=ev_num .tn bs (P0+1+1) [0,10,-1] ⟨b.b,by omega⟩ (by simp) (by simp)
        simp at d1
        simp [f0,d1]
        exact evD_of (by first | assumption | (simp;omega)) (by omega)
      · have f0:=eqI_ne f0
        simp [f0]
        by_cases f1:(k:Int)=1
        · obtain ⟨y,hy,d1⟩:=ev_l4WhoDraw bs (P0+1+1) ⟨b.b,by omega⟩ (by omega)
          simp [f1,d1]
          exact evD_of (by first | assumption | (simp;omega)) (by omega)
        · have f1:=eqI_ne f1
          simp [f1]
          by_cases f2:(k:Int)=2
          · obtain ⟨y,d1⟩:=ev_l1Some bs (P0+1+1) ⟨b.b,by omega⟩ (by omega)
            simp [f2,d1]
            exact evD_of (by first | assumption | (simp;omega)) (by omega)
          · have f2:=eqI_ne f2
            simp [f2]
            by_cases f3:(k:Int)=3
            · obtain ⟨y,q,hy,hq,d1⟩:=ev_l2Data bs (P0+1+1) ⟨b.b,by omega⟩ (by omega)
              have hy300:y.length≤300:=by omega
              simp [f3,d1]
              exact evD_of (by first | assumption | (simp;omega)) (by omega)
            · have f3:=eqI_ne f3
              simp [f3]
              by_cases f4:(k:Int)=4
              · obtain ⟨y,hy,d1⟩:=ev_l2At .ro bs (P0+1+1) [97,98,99] ⟨b.b,by omega⟩ (by omega) (by simp)
                simp [f4,d1]
                exact evD_of (by first | assumption | (simp;omega)) (by omega)
              · have f4:=eqI_ne f4
                simp [f4]
                exact evD_of (by first | assumption | (simp;omega)) (by omega)
    · have n9:=eqI_ne k9
      simp [n9]
      obtain ⟨k,hk,d0⟩:=ev_pick .ro bs (P0) 60 ⟨b.b,by omega⟩ (by omega)
      simp [d0]
      by_cases f0:(k:Int)=0
      · obtain ⟨y,hy,d1⟩:=ev_num .tn bs (P0+1) [0,10,-1] ⟨b.b,by omega⟩ (by simp) (by simp)
        simp at d1
        simp [f0,d1]
        exact evD_of (by first | assumption | (simp;omega)) (by omega)
      · have f0:=eqI_ne f0
        simp [f0]
        by_cases f1:(k:Int)=1
        · obtain ⟨y,hy,d1⟩:=ev_l4WhoDraw bs (P0+1) ⟨b.b,by omega⟩ (by omega)
          simp [f1,d1]
          exact evD_of (by first | assumption | (simp;omega)) (by omega)
        · have f1:=eqI_ne f1
          simp [f1]
          by_cases f2:(k:Int)=2
          · obtain ⟨y,d1⟩:=ev_l1Some bs (P0+1) ⟨b.b,by omega⟩ (by omega)
            simp [f2,d1]
            exact evD_of (by first | assumption | (simp;omega)) (by omega)
          · have f2:=eqI_ne f2
            simp [f2]
            by_cases f3:(k:Int)=3
            · obtain ⟨y,q,hy,hq,d1⟩:=ev_l2Data bs (P0+1) ⟨b.b,by omega⟩ (by omega)
              have hy300:y.length≤300:=by omega
              simp [f3,d1]
              exact evD_of (by first | assumption | (simp;omega)) (by omega)
            · have f3:=eqI_ne f3
              simp [f3]
              by_cases f4:(k:Int)=4
              · obtain ⟨y,hy,d1⟩:=ev_l2At .ro bs (P0+1) [97,98,99] ⟨b.b,by omega⟩ (by omega) (by simp)
                simp [f4,d1]
                exact evD_of (by first | assumption | (simp;omega)) (by omega)
              · have f4:=eqI_ne f4
                simp [f4]
                exact evD_of (by first | assumption | (simp;omega)) (by omega)
  · have hl3:=eqI3.1 e1
    have hw1:who<w.locks.length:=by omega
    have HB:=B.holds _ (List.getElem_mem hw1)
    cases e2:ltI 0 (k4:Int)
    · simp [e1,c7,e2,hm]
      by_cases k9:v=9
      · obtain ⟨g,hg,c9⟩:=ev_num .tn bs (P0+1) [0,0,1,2,-1] ⟨b.b,by omega⟩ (by simp) (by simp)
        simp at c9
        simp [k9,c9]
        obtain ⟨k,hk,d0⟩:=ev_pick .ro bs (P0+1+1) 60 ⟨b.b,by omega⟩ (by omega)
        simp [d0]
        by_cases f0:(k:Int)=0
        · obtain ⟨y,hy,d1⟩:=ev_num .tn bs (P0+1+1+1) [0,10,-1] ⟨b.b,by omega⟩ (by simp) (by simp)
          simp at d1
          simp [f0,d1]
          exact evD_of (by first | assumption | (simp;omega)) (by omega)
        · have f0:=eqI_ne f0
          simp [f0]
          by_cases f1:(k:Int)=1
          · obtain ⟨y,hy,d1⟩:=ev_l4WhoDraw bs (P0+1+1+1) ⟨b.b,by omega⟩ (by omega)
            simp [f1,d1]
            exact evD_of (by first | assumption | (simp;omega)) (by omega)
          · have f1:=eqI_ne f1
            simp [f1]
            by_cases f2:(k:Int)=2
            · obtain ⟨y,d1⟩:=ev_l1Some bs (P0+1+1+1) ⟨b.b,by omega⟩ (by omega)
              simp [f2,d1]
              exact evD_of (by first | assumption | (simp;omega)) (by omega)
            · have f2:=eqI_ne f2
              simp [f2]
              by_cases f3:(k:Int)=3
              · obtain ⟨y,q,hy,hq,d1⟩:=ev_l2Data bs (P0+1+1+1) ⟨b.b,by omega⟩ (by omega)
                have hy300:y.length≤300:=by omega
                simp [f3,d1]
                exact evD_of (by first | assumption | (simp;omega)) (by omega)
              · have f3:=eqI_ne f3
                simp [f3]
                by_cases f4:(k:Int)=4
                · obtain ⟨y,hy,d1⟩:=ev_l2At .ro bs (P0+1+1+1) [97,98,99] ⟨b.b,by omega⟩ (by omega) (by simp)
                  simp [f4,d1]
                  exact evD_of (by first | assumption | (simp;omega)) (by omega)
                · have f4:=eqI_ne f4
                  simp [f4]
                  exact evD_of (by first | assumption | (simp;omega)) (by omega)
      · have n9:=eqI_ne k9
        simp [n9]
        obtain ⟨k,hk,d0⟩:=ev_pick .ro bs (P0+1) 60 ⟨b.b,by omega⟩ (by omega)
        simp [d0]
        by_cases f0:(k:Int)=0
        · obtain ⟨y,hy,d1⟩:=ev_num .tn bs (P0+1+1) [0,10,-1] ⟨b.b,by omega⟩ (by simp) (by simp)
          simp at d1
          simp [f0,d1]
          exact evD_of (by first | assumption | (simp;omega)) (by omega)
        · have f0:=eqI_ne f0
          simp [f0]
          by_cases f1:(k:Int)=1
          · obtain ⟨y,hy,d1⟩:=ev_l4WhoDraw bs (P0+1+1) ⟨b.b,by omega⟩ (by omega)
            simp [f1,d1]
            exact evD_of (by first | assumption | (simp;omega)) (by omega)
          · have f1:=eqI_ne f1
            simp [f1]
            by_cases f2:(k:Int)=2
            · obtain ⟨y,d1⟩:=ev_l1Some bs (P0+1+1) ⟨b.b,by omega⟩ (by omega)
              simp [f2,d1]
              exact evD_of (by first | assumption | (simp;omega)) (by omega)
            · have f2:=eqI_ne f2
              simp [f2]
              by_cases f3:(k:Int)=3
              · obtain ⟨y,q,hy,hq,d1⟩:=ev_l2Data bs (P0+1+1) ⟨b.b,by omega⟩ (by omega)
                have hy300:y.length≤300:=by omega
                simp [f3,d1]
                exact evD_of (by first | assumption | (simp;omega)) (by omega)
              · have f3:=eqI_ne f3
                simp [f3]
                by_cases f4:(k:Int)=4
                · obtain ⟨y,hy,d1⟩:=ev_l2At .ro bs (P0+1+1) [97,98,99] ⟨b.b,by omega⟩ (by omega) (by simp)
                  simp [f4,d1]
                  exact evD_of (by first | assumption | (simp;omega)) (by omega)
                · have f4:=eqI_ne f4
                  simp [f4]
                  exact evD_of (by first | assumption | (simp;omega)) (by omega)
    · have b1:=HB.1
      have b2:=HB.2
      simp [e1,c7,e2,hw1,hm]
      by_cases k2:v=2
      · subst k2
        have h1:w.locks[who].w.length*16≤17592186044416:=by omega
        have h2:w.locks[who].w.length≤17592186044416:=by omega
        have h3:(w.locks[who].w.length+w.locks[who].r.length)*16≤17592186044416:=by omega
        have h4:w.locks[who].w.length+w.locks[who].r.length≤17592186044416:=by omega
        cases e3:ltI 0 ((w.locks[who].w.length:Int)+w.locks[who].r.length)
        · simp [h1,h2,h3,h4,e3,hm,hw1]
          obtain ⟨k,hk,d0⟩:=ev_pick .ro bs (P0+1) 60 ⟨b.b,by omega⟩ (by omega)
          simp [d0]
          by_cases f0:(k:Int)=0
          · obtain ⟨y,hy,d1⟩:=ev_num .tn bs (P0+1+1) [0,10,-1] ⟨b.b,by omega⟩ (by simp) (by simp)
            simp at d1
            simp [f0,d1]
            exact evD_of (by first | assumption | (simp;omega)) (by omega)
          · have f0:=eqI_ne f0
            simp [f0]
            by_cases f1:(k:Int)=1
            · obtain ⟨y,hy,d1⟩:=ev_l4WhoDraw bs (P0+1+1) ⟨b.b,by omega⟩ (by omega)
              simp [f1,d1]
              exact evD_of (by first | assumption | (simp;omega)) (by omega)
            · have f1:=eqI_ne f1
              simp [f1]
              by_cases f2:(k:Int)=2
              · obtain ⟨y,d1⟩:=ev_l1Some bs (P0+1+1) ⟨b.b,by omega⟩ (by omega)
                simp [f2,d1]
                exact evD_of (by first | assumption | (simp;omega)) (by omega)
              · have f2:=eqI_ne f2
                simp [f2]
                by_cases f3:(k:Int)=3
                · obtain ⟨y,q,hy,hq,d1⟩:=ev_l2Data bs (P0+1+1) ⟨b.b,by omega⟩ (by omega)
                  have hy300:y.length≤300:=by omega
                  simp [f3,d1]
                  exact evD_of (by first | assumption | (simp;omega)) (by omega)
                · have f3:=eqI_ne f3
                  simp [f3]
                  by_cases f4:(k:Int)=4
                  · obtain ⟨y,hy,d1⟩:=ev_l2At .ro bs (P0+1+1) [97,98,99] ⟨b.b,by omega⟩ (by omega) (by simp)
                    simp [f4,d1]
                    exact evD_of (by first | assumption | (simp;omega)) (by omega)
                  · have f4:=eqI_ne f4
                    simp [f4]
                    exact evD_of (by first | assumption | (simp;omega)) (by omega)
        · have h30:=ltI_iff.1 e3
          obtain ⟨j,hj,d2⟩:=ev_pick .ro bs (P0+1) ((w.locks[who].w.length:Int)+w.locks[who].r.length) ⟨b.b,by omega⟩ (by omega)
          have hj:=hj (by have:=ltI_iff.1 e3;omega)
          have hjl:j<(w.locks[who].w++w.locks[who].r).length:=by (try simp);omega
          have hg:((w.locks[who].w++w.locks[who].r).map spL)[j]?=some (spL (w.locks[who].w++w.locks[who].r)[j]):=by rw [List.getElem?_map,List.getElem?_eq_getElem hjl];rfl
          generalize (w.locks[who].w++w.locks[who].r)[j]=sp at hg
          try simp only [List.map_append] at hg
          have c8:=fun m m'=>ev_spec_l1Min m m' 5 (IntKind.i64.wrap (sp.2 - sp.1))
          have c10:=fun m m'=>ev_spec_l1Max m m' 1 (minI 5 (IntKind.i64.wrap (sp.2 - sp.1)))
          have hmx:1≤maxI 1 (minI 5 (IntKind.i64.wrap (sp.2 - sp.1)))∧maxI 1 (minI 5 (IntKind.i64.wrap (sp.2 - sp.1)))≤5:=by simp only [maxI,minI,ltI,decide_eq_true_eq];split<;>split<;>omega
          obtain ⟨n,hn,d3⟩:=ev_pick .own bs (P0+1+1) (maxI 1 (minI 5 (IntKind.i64.wrap (sp.2 - sp.1)))) ⟨b.b,by omega⟩ (by omega)
          have hn:=hn hmx.1
          have hw:IntKind.i64.wrap (1+(n:Int))=((1+n:Nat):Int):=by rw [wrap64 (by omega)];push_cast;rfl
          have c11:=fun m m'=>ev_l2Long m m' [122] (1+n) (by omega) (by simp)
          have hxl2:([122]++List.replicate (1+n - 1) 46:Bs).length≤300:=by simp;omega
          push_cast at c11 hw
          simp [h1,h2,h3,h4,e3,hm,hw1,hjl,hg,c8,c10,c11,d2,d3,hw]
          obtain ⟨k,hk,d0⟩:=ev_pick .ro bs (P0+1+1+1) 60 ⟨b.b,by omega⟩ (by omega)
          simp [d0]
          by_cases f0:(k:Int)=0
          · obtain ⟨y,hy,d1⟩:=ev_num .tn bs (P0+1+1+1+1) [0,10,-1] ⟨b.b,by omega⟩ (by simp) (by simp)
            simp at d1
            simp [f0,d1]
            exact evD_of (by first | assumption | (simp;omega)) (by omega)
          · have f0:=eqI_ne f0
            simp [f0]
            by_cases f1:(k:Int)=1
            · obtain ⟨y,hy,d1⟩:=ev_l4WhoDraw bs (P0+1+1+1+1) ⟨b.b,by omega⟩ (by omega)
              simp [f1,d1]
              exact evD_of (by first | assumption | (simp;omega)) (by omega)
            · have f1:=eqI_ne f1
              simp [f1]
              by_cases f2:(k:Int)=2
              · obtain ⟨y,d1⟩:=ev_l1Some bs (P0+1+1+1+1) ⟨b.b,by omega⟩ (by omega)
                simp [f2,d1]
                exact evD_of (by first | assumption | (simp;omega)) (by omega)
              · have f2:=eqI_ne f2
                simp [f2]
                by_cases f3:(k:Int)=3
                · obtain ⟨y,q,hy,hq,d1⟩:=ev_l2Data bs (P0+1+1+1+1) ⟨b.b,by omega⟩ (by omega)
                  have hy300:y.length≤300:=by omega
                  simp [f3,d1]
                  exact evD_of (by first | assumption | (simp;omega)) (by omega)
                · have f3:=eqI_ne f3
                  simp [f3]
                  by_cases f4:(k:Int)=4
                  · obtain ⟨y,hy,d1⟩:=ev_l2At .ro bs (P0+1+1+1+1) [97,98,99] ⟨b.b,by omega⟩ (by omega) (by simp)
                    simp [f4,d1]
                    exact evD_of (by first | assumption | (simp;omega)) (by omega)
                  · have f4:=eqI_ne f4
                    simp [f4]
                    exact evD_of (by first | assumption | (simp;omega)) (by omega)
      · have n2:=eqI_ne k2
        cases e3:ltI 0 (w.locks[who].w.length:Int)
        · simp [n2,e3,hm,hw1]
          by_cases k9:v=9
          · obtain ⟨g,hg,c9⟩:=ev_num .tn bs (P0+1) [0,0,1,2,-1] ⟨b.b,by omega⟩ (by simp) (by simp)
            simp at c9
            simp [k9,c9]
            obtain ⟨k,hk,d0⟩:=ev_pick .ro bs (P0+1+1) 60 ⟨b.b,by omega⟩ (by omega)
            simp [d0]
            by_cases f0:(k:Int)=0
            · obtain ⟨y,hy,d1⟩:=ev_num .tn bs (P0+1+1+1) [0,10,-1] ⟨b.b,by omega⟩ (by simp) (by simp)
              simp at d1
              simp [f0,d1]
              exact evD_of (by first | assumption | (simp;omega)) (by omega)
            · have f0:=eqI_ne f0
              simp [f0]
              by_cases f1:(k:Int)=1
              · obtain ⟨y,hy,d1⟩:=ev_l4WhoDraw bs (P0+1+1+1) ⟨b.b,by omega⟩ (by omega)
                simp [f1,d1]
                exact evD_of (by first | assumption | (simp;omega)) (by omega)
              · have f1:=eqI_ne f1
                simp [f1]
                by_cases f2:(k:Int)=2
                · obtain ⟨y,d1⟩:=ev_l1Some bs (P0+1+1+1) ⟨b.b,by omega⟩ (by omega)
                  simp [f2,d1]
                  exact evD_of (by first | assumption | (simp;omega)) (by omega)
                · have f2:=eqI_ne f2
                  simp [f2]
                  by_cases f3:(k:Int)=3
                  · obtain ⟨y,q,hy,hq,d1⟩:=ev_l2Data bs (P0+1+1+1) ⟨b.b,by omega⟩ (by omega)
                    have hy300:y.length≤300:=by omega
                    simp [f3,d1]
                    exact evD_of (by first | assumption | (simp;omega)) (by omega)
                  · have f3:=eqI_ne f3
                    simp [f3]
                    by_cases f4:(k:Int)=4
                    · obtain ⟨y,hy,d1⟩:=ev_l2At .ro bs (P0+1+1+1) [97,98,99] ⟨b.b,by omega⟩ (by omega) (by simp)
                      simp [f4,d1]
                      exact evD_of (by first | assumption | (simp;omega)) (by omega)
                    · have f4:=eqI_ne f4
                      simp [f4]
                      exact evD_of (by first | assumption | (simp;omega)) (by omega)
          · have n9:=eqI_ne k9
            simp [n9]
            obtain ⟨k,hk,d0⟩:=ev_pick .ro bs (P0+1) 60 ⟨b.b,by omega⟩ (by omega)
            simp [d0]
            by_cases f0:(k:Int)=0
            · obtain ⟨y,hy,d1⟩:=ev_num .tn bs (P0+1+1) [0,10,-1] ⟨b.b,by omega⟩ (by simp) (by simp)
              simp at d1
              simp [f0,d1]
              exact evD_of (by first | assumption | (simp;omega)) (by omega)
            · have f0:=eqI_ne f0
              simp [f0]
              by_cases f1:(k:Int)=1
              · obtain ⟨y,hy,d1⟩:=ev_l4WhoDraw bs (P0+1+1) ⟨b.b,by omega⟩ (by omega)
                simp [f1,d1]
                exact evD_of (by first | assumption | (simp;omega)) (by omega)
              · have f1:=eqI_ne f1
                simp [f1]
                by_cases f2:(k:Int)=2
                · obtain ⟨y,d1⟩:=ev_l1Some bs (P0+1+1) ⟨b.b,by omega⟩ (by omega)
                  simp [f2,d1]
                  exact evD_of (by first | assumption | (simp;omega)) (by omega)
                · have f2:=eqI_ne f2
                  simp [f2]
                  by_cases f3:(k:Int)=3
                  · obtain ⟨y,q,hy,hq,d1⟩:=ev_l2Data bs (P0+1+1) ⟨b.b,by omega⟩ (by omega)
                    have hy300:y.length≤300:=by omega
                    simp [f3,d1]
                    exact evD_of (by first | assumption | (simp;omega)) (by omega)
                  · have f3:=eqI_ne f3
                    simp [f3]
                    by_cases f4:(k:Int)=4
                    · obtain ⟨y,hy,d1⟩:=ev_l2At .ro bs (P0+1+1) [97,98,99] ⟨b.b,by omega⟩ (by omega) (by simp)
                      simp [f4,d1]
                      exact evD_of (by first | assumption | (simp;omega)) (by omega)
                    · have f4:=eqI_ne f4
                      simp [f4]
                      exact evD_of (by first | assumption | (simp;omega)) (by omega)
        · by_cases k3:v=3
          · subst k3
            obtain ⟨j,hj,d2⟩:=ev_pick .ro bs (P0+1) (w.locks[who].w.length:Int) ⟨b.b,by omega⟩ (by omega)
            have hj:=hj (by have:=ltI_iff.1 e3;omega)
            have hjl:j<(w.locks[who].w).length:=by (try simp);omega
            have c8:=fun m m'=>ev_spec_l1Min m m' 5 (IntKind.i64.wrap (w.locks[who].w[j].2 - w.locks[who].w[j].1))
            have c10:=fun m m'=>ev_spec_l1Max m m' 1 (minI 5 (IntKind.i64.wrap (w.locks[who].w[j].2 - w.locks[who].w[j].1)))
            have hmx:1≤maxI 1 (minI 5 (IntKind.i64.wrap (w.locks[who].w[j].2 - w.locks[who].w[j].1)))∧maxI 1 (minI 5 (IntKind.i64.wrap (w.locks[who].w[j].2 - w.locks[who].w[j].1)))≤5:=by simp only [maxI,minI,ltI,decide_eq_true_eq];split<;>split<;>omega
            obtain ⟨n,hn,d3⟩:=ev_pick .own bs (P0+1+1) (maxI 1 (minI 5 (IntKind.i64.wrap (w.locks[who].w[j].2 - w.locks[who].w[j].1)))) ⟨b.b,by omega⟩ (by omega)
            have hn:=hn hmx.1
            have hw:IntKind.i64.wrap (1+(n:Int))=((1+n:Nat):Int):=by rw [wrap64 (by omega)];push_cast;rfl
            have c11:=fun m m'=>ev_l2Long m m' [122] (1+n) (by omega) (by simp)
            have hxl2:([122]++List.replicate (1+n - 1) 46:Bs).length≤300:=by simp;omega
            push_cast at c11 hw
            simp [e3,hm,hw1,hjl,c8,c10,c11,d2,d3,hw]
            obtain ⟨k,hk,d0⟩:=ev_pick .ro bs (P0+1+1+1) 60 ⟨b.b,by omega⟩ (by omega)
            simp [d0]
            by_cases f0:(k:Int)=0
            · obtain ⟨y,hy,d1⟩:=ev_num .tn bs (P0+1+1+1+1) [0,10,-1] ⟨b.b,by omega⟩ (by simp) (by simp)
              simp at d1
              simp [f0,d1]
              exact evD_of (by first | assumption | (simp;omega)) (by omega)
            · have f0:=eqI_ne f0
              simp [f0]
              by_cases f1:(k:Int)=1
              · obtain ⟨y,hy,d1⟩:=ev_l4WhoDraw bs (P0+1+1+1+1) ⟨b.b,by omega⟩ (by omega)
                simp [f1,d1]
                exact evD_of (by first | assumption | (simp;omega)) (by omega)
              · have f1:=eqI_ne f1
                simp [f1]
                by_cases f2:(k:Int)=2
                · obtain ⟨y,d1⟩:=ev_l1Some bs (P0+1+1+1+1) ⟨b.b,by omega⟩ (by omega)
                  simp [f2,d1]
                  exact evD_of (by first | assumption | (simp;omega)) (by omega)
                · have f2:=eqI_ne f2
                  simp [f2]
                  by_cases f3:(k:Int)=3
                  · obtain ⟨y,q,hy,hq,d1⟩:=ev_l2Data bs (P0+1+1+1+1) ⟨b.b,by omega⟩ (by omega)
                    have hy300:y.length≤300:=by omega
                    simp [f3,d1]
                    exact evD_of (by first | assumption | (simp;omega)) (by omega)
                  · have f3:=eqI_ne f3
                    simp [f3]
                    by_cases f4:(k:Int)=4
                    · obtain ⟨y,hy,d1⟩:=ev_l2At .ro bs (P0+1+1+1+1) [97,98,99] ⟨b.b,by omega⟩ (by omega) (by simp)
                      simp [f4,d1]
                      exact evD_of (by first | assumption | (simp;omega)) (by omega)
                    · have f4:=eqI_ne f4
                      simp [f4]
                      exact evD_of (by first | assumption | (simp;omega)) (by omega)
          · have n3:=eqI_ne k3
            simp [n2,n3,e3,hm,hw1]
            by_cases k9:v=9
            · obtain ⟨g,hg,c9⟩:=ev_num .tn bs (P0+1) [0,0,1,2,-1] ⟨b.b,by omega⟩ (by simp) (by simp)
              simp at c9
              simp [k9,c9]
              obtain ⟨k,hk,d0⟩:=ev_pick .ro bs (P0+1+1) 60 ⟨b.b,by omega⟩ (by omega)
              simp [d0]
              by_cases f0:(k:Int)=0
              · obtain ⟨y,hy,d1⟩:=ev_num .tn bs (P0+1+1+1) [0,10,-1] ⟨b.b,by omega⟩ (by simp) (by simp)
                simp at d1
                simp [f0,d1]
                exact evD_of (by first | assumption | (simp;omega)) (by omega)
              · have f0:=eqI_ne f0
                simp [f0]
                by_cases f1:(k:Int)=1
                · obtain ⟨y,hy,d1⟩:=ev_l4WhoDraw bs (P0+1+1+1) ⟨b.b,by omega⟩ (by omega)
                  simp [f1,d1]
                  exact evD_of (by first | assumption | (simp;omega)) (by omega)
                · have f1:=eqI_ne f1
                  simp [f1]
                  by_cases f2:(k:Int)=2
                  · obtain ⟨y,d1⟩:=ev_l1Some bs (P0+1+1+1) ⟨b.b,by omega⟩ (by omega)
                    simp [f2,d1]
                    exact evD_of (by first | assumption | (simp;omega)) (by omega)
                  · have f2:=eqI_ne f2
                    simp [f2]
                    by_cases f3:(k:Int)=3
                    · obtain ⟨y,q,hy,hq,d1⟩:=ev_l2Data bs (P0+1+1+1) ⟨b.b,by omega⟩ (by omega)
                      have hy300:y.length≤300:=by omega
                      simp [f3,d1]
                      exact evD_of (by first | assumption | (simp;omega)) (by omega)
                    · have f3:=eqI_ne f3
                      simp [f3]
                      by_cases f4:(k:Int)=4
                      · obtain ⟨y,hy,d1⟩:=ev_l2At .ro bs (P0+1+1+1) [97,98,99] ⟨b.b,by omega⟩ (by omega) (by simp)
                        simp [f4,d1]
                        exact evD_of (by first | assumption | (simp;omega)) (by omega)
                      · have f4:=eqI_ne f4
                        simp [f4]
                        exact evD_of (by first | assumption | (simp;omega)) (by omega)
            · have n9:=eqI_ne k9
              simp [n9]
              obtain ⟨k,hk,d0⟩:=ev_pick .ro bs (P0+1) 60 ⟨b.b,by omega⟩ (by omega)
              simp [d0]
              by_cases f0:(k:Int)=0
              · obtain ⟨y,hy,d1⟩:=ev_num .tn bs (P0+1+1) [0,10,-1] ⟨b.b,by omega⟩ (by simp) (by simp)
                simp at d1
                simp [f0,d1]
                exact evD_of (by first | assumption | (simp;omega)) (by omega)
              · have f0:=eqI_ne f0
                simp [f0]
                by_cases f1:(k:Int)=1
                · obtain ⟨y,hy,d1⟩:=ev_l4WhoDraw bs (P0+1+1) ⟨b.b,by omega⟩ (by omega)
                  simp [f1,d1]
                  exact evD_of (by first | assumption | (simp;omega)) (by omega)
                · have f1:=eqI_ne f1
                  simp [f1]
                  by_cases f2:(k:Int)=2
                  · obtain ⟨y,d1⟩:=ev_l1Some bs (P0+1+1) ⟨b.b,by omega⟩ (by omega)
                    simp [f2,d1]
                    exact evD_of (by first | assumption | (simp;omega)) (by omega)
                  · have f2:=eqI_ne f2
                    simp [f2]
                    by_cases f3:(k:Int)=3
                    · obtain ⟨y,q,hy,hq,d1⟩:=ev_l2Data bs (P0+1+1) ⟨b.b,by omega⟩ (by omega)
                      have hy300:y.length≤300:=by omega
                      simp [f3,d1]
                      exact evD_of (by first | assumption | (simp;omega)) (by omega)
                    · have f3:=eqI_ne f3
                      simp [f3]
                      by_cases f4:(k:Int)=4
                      · obtain ⟨y,hy,d1⟩:=ev_l2At .ro bs (P0+1+1) [97,98,99] ⟨b.b,by omega⟩ (by omega) (by simp)
                        simp [f4,d1]
                        exact evD_of (by first | assumption | (simp;omega)) (by omega)
                      · have f4:=eqI_ne f4
                        simp [f4]
                        exact evD_of (by first | assumption | (simp;omega)) (by omega)
end Go.Ev

