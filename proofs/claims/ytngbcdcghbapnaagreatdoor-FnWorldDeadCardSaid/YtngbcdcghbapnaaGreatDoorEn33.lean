/- My texts joined: EvT87, EvT90, EvT43. No condition. -/
import Derived.Test.YtngbcdcghbapnaaGreatDoorEn1
import Derived.Test.YtngbcdcghbapnaaGreatDoorEn2
import Derived.Test.YtngbcdcghbapnaaGreatDoorEn5
import Derived.Test.YtngbcdcghbapnaaGreatDoorEn6
import Derived.Test.YtngbcdcghbapnaaGreatDoorEn7
import Derived.Test.YtngbcdcghbapnaaGreatDoorEn8
import Derived.Test.YtngbcdcghbapnaaGreatDoorEn9
import Derived.Test.YtngbcdcghbapnaaGreatDoorEn11
import Derived.Test.YtngbcdcghbapnaaGreatDoorEn12
import Derived.Test.YtngbcdcghbapnaaGreatDoorEn13
import Derived.Test.YtngbcdcghbapnaaGreatDoorEn14
import Derived.Test.YtngbcdcghbapnaaGreatDoorEn16
import Derived.Test.YtngbcdcghbapnaaGreatDoorEn17
import Derived.Test.YtngbcdcghbapnaaGreatDoorEn18
import Derived.Test.YtngbcdcghbapnaaGreatDoorEn19
import Derived.Test.YtngbcdcghbapnaaGreatDoorEn20
import Derived.Test.YtngbcdcghbapnaaGreatDoorEn21
import Derived.Test.YtngbcdcghbapnaaGreatDoorEn22
import Derived.Test.YtngbcdcghbapnaaGreatDoorEn24
import Derived.Test.YtngbcdcghbapnaaGreatDoorEn25
import Derived.Test.YtngbcdcghbapnaaGreatDoorEn26
import Derived.Test.YtngbcdcghbapnaaGreatDoorEn27
import Derived.Test.YtngbcdcghbapnaaGreatDoorEn28
import Derived.Test.YtngbcdcghbapnaaGreatDoorEn30
import Derived.Test.YtngbcdcghbapnaaGreatDoorEn31
import Derived.Test.YtngbcdcghbapnaaGreatDoorEn32
set_option linter.unusedVariables false
set_option linter.unusedSimpArgs false

set_option maxRecDepth 100000
set_option maxHeartbeats 8000000
namespace Go.Ev
open Go.Proofs
theorem WorldP.keptD {w:WorldT} (h:WorldP w):∀ q∈w.kept,q.data.length≤4000000:=by
 intro q hq
 obtain ⟨i,hi,rfl⟩:=List.getElem_of_mem hq
 have hc:=storeAll_code w.kept (storeFall w.st) i (by rw [h.kept];simp [zeros];exact hi) hi (by simp [h.kept,zeros])
 have:=wrOk_len hc.wr
 omega
def Ans3 (f:M→Option Out) (w:WorldT) (s:Bs) (c:Int):Prop:=∃ mz,OwRo mz∧∀ me,f me=some (rWS mz w s c)
theorem ev_l7Who (w:WorldT) (h:WorldP w) (e:EvT) (i:Nat) (hi:i<3) (he:e.who=i) (hl:w.live i=true) (hs:(e.kind=1∨e.kind=2)→spOk e.span=true) (hd:e.data.length≤4000000) :
  Ans3 (fun me=>ev E 155 [.own true (worldL w),.v me true (evL e)]) (whoW w e).1 (whoW w e).2.1 (whoW w e).2.2:=by
 have htn:e.who.toNat=i:=by omega
 obtain ⟨hlo,ho⟩:=h.own_get hi
 have hla:i<w.alive.length:=by have:=h.alive;omega
 unfold whoW
 rw [htn]
 by_cases k1:e.kind=1
 ·have c1:=fun m me hm=>ev_l7Lock m me hm w h e i hi he (hs (.inl k1))
  rw [if_pos k1]
  by_cases hc:(lockW w i e.write e.span).2=0
  ·simp only [if_pos hc,rWI,evL,k1] at c1
   refine ⟨.own,.inl rfl,?_⟩
   generalize lockW w i e.write e.span=z at *
   intro me
   dsimp only
   rw [ev_fn Tryz.f155 rfl Tryz.func155 rfl rfl rfl (Nat.le_of_ble_eq_true rfl)]
   simp [k1,c1,rWS]
  ·simp only [if_neg hc,rWI,evL,k1] at c1
   refine ⟨.tn,.inr (.inr rfl),?_⟩
   generalize lockW w i e.write e.span=z at *
   intro me
   dsimp only
   rw [ev_fn Tryz.f155 rfl Tryz.func155 rfl rfl rfl (Nat.le_of_ble_eq_true rfl)]
   simp [k1,c1,rWS]
 ·rw [if_neg k1]
  by_cases k2:e.kind=2
  ·have c1:=fun me=>ev_l7Read me w h e i hi he (hs (.inr k2))
   rw [if_pos k2]
   simp only [rWS,evL,k2] at c1
   refine ⟨.own,.inl rfl,?_⟩
   generalize readW w i e.span=z at *
   intro me
   dsimp only
   rw [ev_fn Tryz.f155 rfl Tryz.func155 rfl rfl rfl (Nat.le_of_ble_eq_true rfl)]
   simp [k2,c1,rWS]
  ·rw [if_neg k2]
   by_cases k3:e.kind=3
   ·have c1:=fun me=>ev_l7Write me w h e i hi he hd
    rw [if_pos k3]
    simp only [rWI,evL,k3] at c1
    refine ⟨.own,.inl rfl,?_⟩
    generalize writeW w i e.pos e.data=z at *
    intro me
    dsimp only
    rw [ev_fn Tryz.f155 rfl Tryz.func155 rfl rfl rfl (Nat.le_of_ble_eq_true rfl)]
    simp [k3,c1,rWS]
   ·rw [if_neg k3]
    have n1:=eqI_ne k1
    have n2:=eqI_ne k2
    have n3:=eqI_ne k3
    have c0:=ev_l7Whole
    by_cases k4:e.kind=4
    ·rw [if_pos k4,flush_backs]
     cases hb:backsB w i whole
     ·have c1:=fun m1 m2=>ev_flush_own m1 m2 w h i hi whole whole_ok hb
      have c2:=fun m m1 m2 hm=>ev_flush_lent m hm m1 m2 w h i hi whole whole_ok hb
      simp only [rWB] at c1 c2
      refine ⟨.ro,.inr (.inl rfl),?_⟩
      intro me
      dsimp only
      rw [ev_fn Tryz.f155 rfl Tryz.func155 rfl rfl rfl (Nat.le_of_ble_eq_true rfl)]
      simp [k4,he,c0,c1,c2,rWS]
     ·have c1:=fun m1 m2=>ev_flush_fine m1 m2 w h i hi whole whole_ok hb
      simp only [rWB] at c1
      refine ⟨.own,.inl rfl,?_⟩
      generalize backsW w i whole=z at *
      intro me
      dsimp only
      rw [ev_fn Tryz.f155 rfl Tryz.func155 rfl rfl rfl (Nat.le_of_ble_eq_true rfl)]
      simp [k4,he,c0,c1,rWS]
    ·rw [if_neg k4]
     have n4:=eqI_ne k4
     have c1:ev E 97 []=some { rs:=[.v .own true (ownL noO)],outs:=[] }:=ev_l6None
     refine ⟨.own,.inl rfl,?_⟩
     intro me
     dsimp only
     rw [ev_fn Tryz.f155 rfl Tryz.func155 rfl rfl rfl (Nat.le_of_ble_eq_true rfl)]
     simp [n1,n2,n3,n4,he,hla,hlo,c1,dieW,rWS,List.map_set]
theorem ev_l7Do (w:WorldT) (h:WorldP w) (e:EvT) (hd:e.data.length≤4000000) :
  Ans3 (fun me=>ev E 54 [.own true (worldL w),.v me true (evL e)]) (doW w e).1 (doW w e).2.1 (doW w e).2.2:=by
 unfold doW
 by_cases k5:e.kind=5
 ·rw [if_pos k5]
  have c1:=fun m hm=>ev_spec_StoreSync m hm w.st h.st.bd
  rw [if_pos (storeOk_iff.2 h.st)] at c1
  simp only [rS1] at c1
  refine ⟨.own,.inl rfl,?_⟩
  generalize storeSync w.st=z at *
  intro me
  dsimp only
  rw [ev_fn Tryz.f54 rfl Tryz.func54 rfl rfl rfl (Nat.le_of_ble_eq_true rfl)]
  simp [k5,c1,rWS]
 ·rw [if_neg k5]
  have n5:=eqI_ne k5
  by_cases k6:e.kind=6
  ·rw [if_pos k6]
   have c1:=ev_l7Fall w h h.keptD
   simp only [rW1] at c1
   refine ⟨.own,.inl rfl,?_⟩
   generalize storeAll (storeFall w.st) w.kept=z at *
   intro me
   dsimp only
   rw [ev_fn Tryz.f54 rfl Tryz.func54 rfl rfl rfl (Nat.le_of_ble_eq_true rfl)]
   simp [k6,c1,rWS]
  ·rw [if_neg k6]
   have n6:=eqI_ne k6
   by_cases k9:e.kind=9
   ·rw [if_pos k9]
    have c1:=fun m m1 hm=>ev_l7Give m m1 hm w h e.pos
    simp only [rWI] at c1
    refine ⟨.tn,.inr (.inr rfl),?_⟩
    generalize giveW w e.pos=z at *
    intro me
    dsimp only
    rw [ev_fn Tryz.f54 rfl Tryz.func54 rfl rfl rfl (Nat.le_of_ble_eq_true rfl)]
    simp [k9,c1,rWS]
   ·rw [if_neg k9]
    have n9:=eqI_ne k9
    have c2:=fun m=>ev_spec_l4Who m e.who
    have c3:∀ m,ev E 153 [.v m true (spL e.span)]=some (rB (spOk e.span)):=fun m=>ev_spec_SpanOk m e.span
    have hf:formEv e=(ltI e.kind 1 || ltI 9 e.kind || !whoOk e.who || ((eqI e.kind 1 || eqI e.kind 2)&&!spOk e.span)):=rfl
    cases f1:ltI e.kind 1
    ·cases f2:ltI 9 e.kind
     ·cases f3:whoOk e.who
      ·rw [if_pos (by rw [hf,f1,f2,f3];rfl)]
       refine ⟨.own,.inl rfl,?_⟩
       intro me
       dsimp only
       rw [ev_fn Tryz.f54 rfl Tryz.func54 rfl rfl rfl (Nat.le_of_ble_eq_true rfl)]
       simp [n5,n6,n9,f1,f2,f3,c2,rWS]
      ·obtain ⟨i,hi,he⟩:=who_nat f3
       have hla:i<w.alive.length:=by have:=h.alive;omega
       have hlv:w.live i=w.alive[i]:=getD_lt _ hla
       have htn:e.who.toNat=i:=by omega
       cases f4:(eqI e.kind 1 || eqI e.kind 2)&&!spOk e.span
       ·rw [if_neg (by rw [hf,f1,f2,f3,f4];simp),htn]
        have hs:(e.kind=1∨e.kind=2)→spOk e.span=true:=fun hk=>by
         rcases hk with hk | hk<;>simpa [hk] using f4
        by_cases k8:e.kind=8
        ·rw [if_pos k8]
         have c4:=fun m1=>ev_l7Evict m1 w h i hi
         simp only [rWI] at c4
         rw [he] at c2
         refine ⟨.own,.inl rfl,?_⟩
         generalize evictW w i=z at *
         intro me
         dsimp only
         rw [ev_fn Tryz.f54 rfl Tryz.func54 rfl rfl rfl (Nat.le_of_ble_eq_true rfl)]
         simp [k8,f3,he,c2,c4,rWS,who_ok hi]
        ·rw [if_neg k8,hlv]
         have n8:=eqI_ne k8
         cases e1:eqI e.kind 1<;>cases e2:eqI e.kind 2<;>cases e3:spOk e.span<;>simp only [e1,e2,e3,Bool.or_true,Bool.true_or,Bool.or_false,Bool.not_false,Bool.not_true,Bool.and_true,Bool.and_false,Bool.true_eq_false] at f4
         all_goals
          cases e4:w.alive[i]
          ·refine ⟨.own,.inl rfl,?_⟩
           rw [if_pos rfl]
           rw [he] at c2
           rw [e3] at c3
           intro me
           dsimp only
           rw [ev_fn Tryz.f54 rfl Tryz.func54 rfl rfl rfl (Nat.le_of_ble_eq_true rfl)]
           simp [n5,n6,n9,n8,f1,f2,e1,e2,e3,e4,he,hla,c2,c3,rWS,who_ok hi]
          ·rw [if_neg (by simp)]
           rw [he] at c2
           rw [e3] at c3
           obtain ⟨mz,hmz,c5⟩:=ev_l7Who w h e i hi he (by rw [hlv,e4]) hs hd
           simp only [rWS,evL,he] at c5
           generalize whoW w e=z at *
           rcases hmz with rfl | rfl | rfl
           ·refine ⟨.own,.inl rfl,?_⟩
            intro me
            dsimp only
            rw [ev_fn Tryz.f54 rfl Tryz.func54 rfl rfl rfl (Nat.le_of_ble_eq_true rfl)]
            simp [n5,n6,n9,n8,f1,f2,e1,e2,e3,e4,he,hla,c2,c3,c5,rWS,who_ok hi]
           ·refine ⟨.ro,.inr (.inl rfl),?_⟩
            intro me
            dsimp only
            rw [ev_fn Tryz.f54 rfl Tryz.func54 rfl rfl rfl (Nat.le_of_ble_eq_true rfl)]
            simp [n5,n6,n9,n8,f1,f2,e1,e2,e3,e4,he,hla,c2,c3,c5,rWS,who_ok hi]
           ·refine ⟨.ro,.inr (.inl rfl),?_⟩
            intro me
            dsimp only
            rw [ev_fn Tryz.f54 rfl Tryz.func54 rfl rfl rfl (Nat.le_of_ble_eq_true rfl)]
            simp [n5,n6,n9,n8,f1,f2,e1,e2,e3,e4,he,hla,c2,c3,c5,rWS,who_ok hi]
       ·rw [if_pos (by rw [hf,f1,f2,f3,f4];rfl)]
        refine ⟨.own,.inl rfl,?_⟩
        rw [he] at c2
        cases e1:eqI e.kind 1<;>cases e2:eqI e.kind 2<;>cases e3:spOk e.span<;>simp only [e1,e2,e3,Bool.or_true,Bool.true_or,Bool.or_false,Bool.not_false,Bool.not_true,Bool.and_true,Bool.and_false,Bool.false_eq_true] at f4
        all_goals
         rw [e3] at c3
         intro me
         dsimp only
         rw [ev_fn Tryz.f54 rfl Tryz.func54 rfl rfl rfl (Nat.le_of_ble_eq_true rfl)]
         simp [n5,n6,n9,f1,f2,e1,e2,e3,he,c2,c3,rWS,who_ok hi]
     ·rw [if_pos (by rw [hf,f1,f2];rfl)]
      refine ⟨.own,.inl rfl,?_⟩
      intro me
      dsimp only
      rw [ev_fn Tryz.f54 rfl Tryz.func54 rfl rfl rfl (Nat.le_of_ble_eq_true rfl)]
      simp [n5,n6,n9,f1,f2,rWS]
    ·rw [if_pos (by rw [hf,f1];rfl)]
     refine ⟨.own,.inl rfl,?_⟩
     intro me
     dsimp only
     rw [ev_fn Tryz.f54 rfl Tryz.func54 rfl rfl rfl (Nat.le_of_ble_eq_true rfl)]
     simp [n5,n6,n9,f1,rWS]
theorem WorldP.wc {w:WorldT} (h:WorldP w):WorldC w:=by
 refine ⟨h.wb,h.st.bd,fun o ho=>?_,h.keptD,fun q hq=>?_⟩
 ·obtain ⟨i,hi,rfl⟩:=List.getElem_of_mem ho
  have:=h.own i (by have:=h.owns;omega)
  rw [show w.own i=w.owns[i] from getD_lt _ hi] at this
  have:=(ownOk_bd this).1
  omega
 ·have:=wrOk_len (h.late q hq).1.wr
  omega
def worldDo (w:WorldT) (e:EvT):WorldT × Bs × Int:=if worldOk w=true then doW w e else (noW,[],20)
theorem ev_spec_WorldDo (m me:M) (hm:m.isOwn=false) (w:WorldT) (C:WorldC w) (e:EvT) (hd:e.data.length≤4000000) :
  ev E 17 [.v m true (worldL w),.v me true (evL e)]=some (rWS .own (worldDo w e).1 (worldDo w e).2.1 (worldDo w e).2.2):=by
 have c1:=fun m hm=>ev_spec_WorldOk m hm w C
 have c2:=fun m hm=>ev_l7Copy m hm w C.toWorldB
 unfold worldDo
 cases e1:worldOk w
 ·rw [e1] at c1
  rw [ev_fn Tryz.f17 rfl Tryz.func17 rfl rfl rfl (Nat.le_of_ble_eq_true rfl)]
  simp [c1,hm,rWS,noW,noS]
 ·rw [e1] at c1
  have P:=worldOk_iff.1 e1
  have c3:=fun m hm=>ev_l7Copy m hm _ (doW_ok P e).wb
  simp only [if_true]
  obtain ⟨mz,hmz,c4⟩:=ev_l7Do w P e hd
  simp only [rWS] at c4
  generalize doW w e=z at *
  rw [ev_fn Tryz.f17 rfl Tryz.func17 rfl rfl rfl (Nat.le_of_ble_eq_true rfl)]
  rcases hmz with rfl | rfl | rfl<;>simp [c1,c2,c3,c4,hm,rWS]
set_option maxRecDepth 100000
set_option maxHeartbeats 8000000
theorem ev_spec_StoreNew:ev E 95 []=some { rs:=[.v .own true (storeL newSt)],outs:=[] }:=by
 rw [ev_fn Tryz.f95 rfl Tryz.func95 rfl rfl rfl (Nat.le_of_ble_eq_true rfl)]
 simp [newSt]
theorem ev_l4None:ev E 96 []=some { rs:=[.v .own false [.sl ([noH,noH,noH].map holdL)]],outs:=[] }:=by
 rw [ev_fn Tryz.f96 rfl Tryz.func96 rfl rfl rfl (Nat.le_of_ble_eq_true rfl)]
 simp [noH]
def newWL (size many:Int):WorldT:=if layOk size many=true then newW size many else noW
def newAt (size many:Int) (i:Nat):WorldT:={ newW size many with owns:=List.replicate i noO,alive:=List.replicate i true }
theorem lp_sNew (size many:Int) (a:Code) (ha:a=lp Tryz.f37 0) :
  loopC E (ev E) 37 a { V:=[(2,adc 2),(3,adc 3),(4,vi 0)],H:=[bx (.c 2) (worldL noW),bx (.c 3) (worldL (newAt size many 0))],ps:=[] } =
   some (.exit 0,{ V:=[(2,adc 2),(3,adc 3),(4,vi 3),(15,vb false)],H:=[bx (.c 2) (worldL noW),bx (.c 3) (worldL (newAt size many 3))],ps:=[] }):=by
 have c:ev E 97 []=some { rs:=[.v .own true (ownL noO)],outs:=[] }:=ev_l6None
 have w1:IntKind.i64.wrap 1=1:=by decide
 have w2:IntKind.i64.wrap 2=2:=by decide
 have w3:IntKind.i64.wrap 3=3:=by decide
 generalize noO.t=t0 at *
 rw [noW_L]
 simp only [newAt,newW,newSt,List.replicate]
 generalize noO=nO at *
 rw [loopC_of _ _ _ _ ha]
 simp [lp,loopsOf,Tryz.f37,c,w1]
 rw [loopC_of _ _ _ _ ha]
 simp [lp,loopsOf,Tryz.f37,c,w2]
 rw [loopC_of _ _ _ _ ha]
 simp [lp,loopsOf,Tryz.f37,c,w3]
 rw [loopC_of _ _ _ _ ha]
 simp [lp,loopsOf,Tryz.f37]
theorem ev_spec_WorldNew (m:M) (size many:Int):ev E 37 [.v m true (layL size many)]=some (rW1 .own (newWL size many)):=by
 have c1:∀ m,ev E 39 [.v m true (layL size many)]=some (rB (layOk size many)):=fun m=>ev_spec_LayOk m size many
 have c2:=ev_spec_StoreNew
 have c3:=ev_l4None
 unfold newWL
 cases e:layOk size many
 ·rw [e] at c1
  rw [ev_fn Tryz.f37 rfl Tryz.func37 rfl rfl rfl (Nat.le_of_ble_eq_true rfl)]
  simp [c1,rW1,noW,noS]
 ·rw [e] at c1
  have l0:=fun a ha=>lp_sNew size many a ha
  rw [noW_L] at l0
  simp only [newAt,newW,newSt,List.replicate] at l0
  simp only [newSt] at c2
  rw [ev_fn Tryz.f37 rfl Tryz.func37 rfl rfl rfl (Nat.le_of_ble_eq_true rfl)]
  simp [c1,c2,c3]
  simp at l0
  simp only [worldL,strsL,intsL,boolsL,List.map_cons,List.map_nil] at l0
  rw [loopC_at ?_ l0]
  ·simp [rW1,newW,newSt]
  ·rfl
theorem lp_sPlay (ml:M) (hml:ml.isOwn=false) (es:List EvT) (hb:es.length≤1000) (hd:∀ e∈es,e.data.length≤4000000) (a:Code) (ha:a=lp Tryz.f45 0):∀ (n i:Nat) (m:M) (w:WorldT) (cs:List Int),i+n=es.length→OwRo m→WorldP w→cs.length=i →
  ∃ m',OwRo m'∧loopC E (ev E) 45 a { V:=[(1,.v ml false [.sl (es.map evL)]),(4,adc 4),(6,at1 6),(7,adc 7),(8,vi i)],H:=[bx (.c 4) (worldL noW),ow (.c 6) [.sl (intsL cs)],bxm (.c 7) m (worldL w)],ps:=[] } =
   some (.exit 0,{ V:=[(1,.v ml false [.sl (es.map evL)]),(4,adc 4),(6,at1 6),(7,adc 7),(8,vi es.length),(26,vb false)],H:=[bx (.c 4) (worldL noW),ow (.c 6) [.sl (intsL (cs++(playW w (es.drop i)).2))],bxm (.c 7) m' (worldL (playW w (es.drop i)).1)],ps:=[] })
 | 0,i,m,w,cs,h,hm,hw,hc=>by
  refine ⟨m,hm,?_⟩
  rw [loopC_of _ _ _ _ ha,noW_L]
  obtain rfl:i=es.length:=by omega
  rcases hm with rfl | rfl | rfl<;>simp [lp,loopsOf,Tryz.f45,playW,hml]
 | n+1,i,m,w,cs,h,hm,hw,hc=>by
  have hlt:i<es.length:=by omega
  have hwr:=wrapN i (by omega)
  have c1:=fun m hm=>ev_l7Copy m hm w hw.wb
  have h1:(cs.length+1)*8≤17592186044416:=by omega
  have h2:cs.length+1≤17592186044416:=by omega
  obtain ⟨mz,hmz,c2⟩:=ev_l7Do w hw es[i] (hd _ (List.getElem_mem hlt))
  obtain ⟨m',hm',ih⟩:=lp_sPlay ml hml es hb hd a ha n (i+1) (cln mz) (doW w es[i]).1 (cs++[(doW w es[i]).2.2]) (by omega) (cln_ok hmz) (doW_ok hw _) (by simp;omega)
  push_cast at ih
  simp only [rWS] at c2
  refine ⟨m',hm',?_⟩
  rw [loopC_of _ _ _ _ ha,List.drop_eq_getElem_cons hlt,playW]
  clear ha
  dsimp only
  generalize doW w es[i]=z at *
  generalize playW z.1 (es.drop (i+1))=y at *
  rw [noW_L] at ih ⊢
  rcases hm with rfl | rfl | rfl<;>rcases hmz with rfl | rfl | rfl
  all_goals
   simp [lp,loopsOf,Tryz.f45,hlt,hwr,hml,c1,c2,h1,h2]
   simpa [cln] using ih
def worldPlay (size many:Int) (es:List EvT):WorldT × List Int:=if (layOk size many&&!ltI 60 es.length)=true then playW (newW size many) es else (noW,[])
def rWC (w:WorldT) (cs:List Int):Out:={ rs:=[.v .own true (worldL w),.v .own false [.sl (intsL cs)]],outs:=[] }
theorem ev_spec_WorldPlay (m ml:M) (hml:ml.isOwn=false) (size many:Int) (es:List EvT) (hb:es.length≤4000000) (hd:∀ e∈es,e.data.length≤4000000) :
  ev E 45 [.v m true (layL size many),.v ml false [.sl (es.map evL)]]=some (rWC (worldPlay size many es).1 (worldPlay size many es).2):=by
 have c1:∀ m,ev E 39 [.v m true (layL size many)]=some (rB (layOk size many)):=fun m=>ev_spec_LayOk m size many
 have c2:=fun m=>ev_spec_WorldNew m size many
 simp only [newWL,rW1] at c2
 unfold worldPlay
 cases e:layOk size many
 ·rw [e] at c1
  rw [ev_fn Tryz.f45 rfl Tryz.func45 rfl rfl rfl (Nat.le_of_ble_eq_true rfl)]
  simp [c1,hml,rWC,noW,noS]
 ·rw [e] at c1 c2
  simp only [if_true] at c2
  cases e2:ltI 60 es.length
  ·have h60:=ltI_not.1 e2
   have hN:=newW_ok e
   obtain ⟨m',hm',l0⟩:=lp_sPlay ml hml es (by omega) hd _ rfl es.length 0 .own (newW size many) [] (by omega) (.inl rfl) hN rfl
   have c3:=fun m hm=>ev_l7Copy m hm _ (playW_ok es hN).wb
   push_cast at l0
   simp only [List.drop_zero,List.nil_append,List.map_nil] at l0
   rw [noW_L] at l0
   simp only [Bool.not_false,Bool.and_true,if_true]
   generalize newW size many=w0 at *
   generalize playW w0 es=z at *
   rw [ev_fn Tryz.f45 rfl Tryz.func45 rfl rfl rfl (Nat.le_of_ble_eq_true rfl)]
   simp [c1,c2,e2,hml]
   rw [loopC_at ?_ l0]
   ·rcases hm' with rfl | rfl | rfl<;>simp [c3,rWC]
   ·rfl
  ·rw [ev_fn Tryz.f45 rfl Tryz.func45 rfl rfl rfl (Nat.le_of_ble_eq_true rfl)]
   simp [c1,e2,hml,rWC,noW,noS]
set_option maxRecDepth 100000
set_option maxHeartbeats 8000000
theorem ev_l4WhoDraw (bs:List UInt8) (p:Nat) (b:RdB bs p) (hp:p+2≤1099511627776) :
  ∃ k:Int,(-9223372036854775808≤k∧k≤9223372036854775807)∧ev E 133 [rdA bs p]=some { rs:=[.v .own false [.int .i64 k]],outs:=[rdO bs (p+2)] }:=by
 obtain ⟨k,hk,c1⟩:=ev_pick .ro bs p 20 b (by omega)
 by_cases k0:k=0
 ·subst k0
  obtain ⟨v,hv,c2⟩:=ev_num .tn bs (p+1) [-1,3,9223372036854775807] (b.add (by omega)) (by simp) (by simp)
  refine ⟨v,?_,?_⟩
  ·simp only [List.mem_cons,List.not_mem_nil,or_false] at hv
   omega
  ·simp at c2
   rw [ev_fn Tryz.f133 rfl Tryz.func133 rfl rfl rfl (Nat.le_of_ble_eq_true rfl)]
   simp [c1,c2]
 ·obtain ⟨j,hj,c2⟩:=ev_pick .ro bs (p+1) 3 (b.add (by omega)) (by omega)
  have hj:=hj (by omega)
  have e0:eqI k 0=false:=eqI_not.2 (by omega)
  refine ⟨j,by omega,?_⟩
  rw [ev_fn Tryz.f133 rfl Tryz.func133 rfl rfl rfl (Nat.le_of_ble_eq_true rfl)]
  simp [c1,c2,e0]
end Go.Ev

