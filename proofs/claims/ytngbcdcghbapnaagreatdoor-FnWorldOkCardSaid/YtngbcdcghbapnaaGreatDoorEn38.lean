/- My texts joined: EvT102, EvT103, EvW13, EvT100, EvT106. No condition. -/
import Derived.Test.YtngbcdcghbapnaaGreatDoorEn1
import Derived.Test.YtngbcdcghbapnaaGreatDoorEn2
import Derived.Test.YtngbcdcghbapnaaGreatDoorEn3
import Derived.Test.YtngbcdcghbapnaaGreatDoorEn5
import Derived.Test.YtngbcdcghbapnaaGreatDoorEn6
import Derived.Test.YtngbcdcghbapnaaGreatDoorEn7
import Derived.Test.YtngbcdcghbapnaaGreatDoorEn8
import Derived.Test.YtngbcdcghbapnaaGreatDoorEn9
import Derived.Test.YtngbcdcghbapnaaGreatDoorEn10
import Derived.Test.YtngbcdcghbapnaaGreatDoorEn11
import Derived.Test.YtngbcdcghbapnaaGreatDoorEn12
import Derived.Test.YtngbcdcghbapnaaGreatDoorEn13
import Derived.Test.YtngbcdcghbapnaaGreatDoorEn14
import Derived.Test.YtngbcdcghbapnaaGreatDoorEn16
import Derived.Test.YtngbcdcghbapnaaGreatDoorEn17
import Derived.Test.YtngbcdcghbapnaaGreatDoorEn18
import Derived.Test.YtngbcdcghbapnaaGreatDoorEn19
import Derived.Test.YtngbcdcghbapnaaGreatDoorEn20
import Derived.Test.YtngbcdcghbapnaaGreatDoorEn21
import Derived.Test.YtngbcdcghbapnaaGreatDoorEn22
import Derived.Test.YtngbcdcghbapnaaGreatDoorEn24
import Derived.Test.YtngbcdcghbapnaaGreatDoorEn25
import Derived.Test.YtngbcdcghbapnaaGreatDoorEn28
import Derived.Test.YtngbcdcghbapnaaGreatDoorEn29
import Derived.Test.YtngbcdcghbapnaaGreatDoorEn30
import Derived.Test.YtngbcdcghbapnaaGreatDoorEn31
import Derived.Test.YtngbcdcghbapnaaGreatDoorEn32
import Derived.Test.YtngbcdcghbapnaaGreatDoorEn33
import Derived.Test.YtngbcdcghbapnaaGreatDoorEn35
import Derived.Test.YtngbcdcghbapnaaGreatDoorEn36
import Derived.Test.YtngbcdcghbapnaaGreatDoorEn37
set_option linter.unusedVariables false
set_option linter.unusedSimpArgs false

set_option maxRecDepth 100000
set_option maxHeartbeats 8000000
namespace Go.Ev
open Go.Proofs
theorem ev_Delete (m m':M) (qs:List ReqT) (i:Nat) (hi:i<qs.length):ev E 142 [.own false [.sl (qs.map reqL)],.v m false [.int .i64 i],.v m' false [.int .i64 ((i:Int)+1)]] =
  some { rs:=[.v (delM ((qs.take i++qs.drop (i+1)).map reqL)) false [.sl ((qs.take i++qs.drop (i+1)).map reqL)]],outs:=[] }:=by
 have e1:((i:Int)+1).toNat=i+1:=by omega
 have e2:(i:Int)+1≤((qs.map reqL).length:Int):=by rw [List.length_map];omega
 have e3:((qs.map reqL).all fun r=>r.all L.flat)=true:=by
  rw [List.all_eq_true];intro r hr
  obtain ⟨q,_,rfl⟩:=List.mem_map.1 hr
  rfl
 have e4:((qs.map reqL).all fun r=>decide (r.length=6))=true:=by
  rw [List.all_eq_true];intro r hr
  obtain ⟨q,_,rfl⟩:=List.mem_map.1 hr
  rfl
 have e5:(qs.map reqL).take i++(qs.map reqL).drop (i+1)=(qs.take i++qs.drop (i+1)).map reqL:=by simp
 have hk:deleteK [.own false [.sl (qs.map reqL)],.v m false [.int .i64 i],.v m' false [.int .i64 ((i:Int)+1)]]=some { rs:=[.v (delM ((qs.take i++qs.drop (i+1)).map reqL)) false [.sl ((qs.take i++qs.drop (i+1)).map reqL)]],outs:=[] }:=by
  unfold deleteK
  dsimp only
  rw [if_pos ⟨by omega,by omega,e2,e3,e4⟩,Int.toNat_natCast,e1,e5]
 rw [ev_eq]
 simpa using hk
theorem delM_two (qs:List (List L)):delM qs=.own∨delM qs=.ro:=by
 cases qs
 ·exact .inr rfl
 ·exact .inl rfl
theorem ev_give (me:M) (w:WorldT) (h:WorldP w) (e:EvT) (k9:e.kind=9) :
  ∃ mz,(mz=.own∨mz=.ro)∧ev E 53 [.ptr .own (worldL w),.v me true (evL e)]=some { rs:=[.v .own false [.str []],.v .own false [.int .i64 (giveW w e.pos).2]],outs:=[(mz,worldL (giveW w e.pos).1)] }:=by
 have hN:=h.lateN
 unfold giveW
 cases e1:ltI e.pos 0
 case true =>
  refine ⟨.own,.inl rfl,?_⟩
  rw [ev_fn Tryz.f53 rfl Tryz.func53 rfl rfl rfl (Nat.le_of_ble_eq_true rfl)]
  simp [k9,e1]
 cases e2:ltI e.pos w.late.length
 case false =>
  refine ⟨.own,.inl rfl,?_⟩
  rw [ev_fn Tryz.f53 rfl Tryz.func53 rfl rfl rfl (Nat.le_of_ble_eq_true rfl)]
  simp [k9,e1,e2]
 have g1:=ltI_not.1 e1
 have g2:=ltI_iff.1 e2
 obtain ⟨i,hi⟩:∃ i:Nat,e.pos=i:=⟨e.pos.toNat,by omega⟩
 have hil:i<w.late.length:=by omega
 have hq:w.late.getD i ⟨0,0,0,0,0,[]⟩=w.late[i]:=by simp [hil]
 have hqd:(w.late[i]).data.length≤4000000:=by
  have:=(h.late _ (List.getElem_mem hil)).1
  have:=wrOk_len this.wr
  omega
 have c1:=fun m m' hm=>ev_impl_StoreDo m m' hm w.st w.late[i] h.st.bd hqd
 rw [if_pos (storeOk_iff.2 h.st)] at c1
 have c2:=fun m m'=>ev_Delete m m' w.late i hil
 have hw:IntKind.i64.wrap ((i:Int)+1)=(i:Int)+1:=wrap64 (by omega)
 refine ⟨_,delM_two ((w.late.take i++w.late.drop (i+1)).map reqL),?_⟩
 have hmz:=delM_two ((w.late.take i++w.late.drop (i+1)).map reqL)
 rw [if_neg (by simp),hi,Int.toNat_natCast,hq]
 generalize delM ((w.late.take i++w.late.drop (i+1)).map reqL)=mz at *
 generalize w.late.take i++w.late.drop (i+1)=ys at *
 simp only [rSt] at c1
 generalize storeDo w.st w.late[i]=z at *
 have e1':ltI (i:Int) 0=false:=by rw [← hi];exact e1
 have e2':ltI (i:Int) w.late.length=true:=by rw [← hi];exact e2
 rw [ev_fn Tryz.f53 rfl Tryz.func53 rfl rfl rfl (Nat.le_of_ble_eq_true rfl)]
 rcases hmz with rfl | rfl<;>simp [k9,hi,e1',e2',hil,c1,c2,hw]
theorem ev_impl_WorldDoA (w:WorldT) (C:WorldC w) (e:EvT) (hd:e.data.length≤4000000) :
  ∃ mz,OwRo mz∧∀ m me,m.isOwn=false→ev E 16 [.v m true (worldL w),.v me true (evL e)]=some (rWS mz (worldDo w e).1 (worldDo w e).2.1 (worldDo w e).2.2):=by
 by_cases k9:e.kind=9
 ·have c1:=fun m hm=>ev_impl_WorldOk m hm w C
  have c2:=fun m hm=>ev_anew m hm w C
  unfold worldDo
  cases e1:worldOk w
  ·rw [e1] at c1
   refine ⟨.own,.inl rfl,fun m me hm=>?_⟩
   rw [ev_fn Tryz.f16 rfl Tryz.func16 rfl rfl rfl (Nat.le_of_ble_eq_true rfl)]
   simp [c1,hm,rWS,noW,noS]
  ·rw [e1] at c1
   have P:=worldOk_iff.1 e1
   simp only [if_true]
   have c3:=fun me=>ev_give me w P e k9
   have hdo:doW w e=((giveW w e.pos).1,[],(giveW w e.pos).2):=by unfold doW;rw [if_neg (by omega),if_neg (by omega),if_pos k9]
   have hful:=doW_full (w:=w) (e:=e)
   rw [hdo] at hful ⊢
   dsimp only at hful ⊢
   generalize giveW w e.pos=z at *
   obtain ⟨x,c⟩:=z
   dsimp only at c3 hful ⊢
   obtain ⟨mz,hmz,c4⟩:=c3 .ro
   cases e2:ltI c 20
   ·obtain ⟨q1,_⟩:=hful (ltI_not.1 e2)
    subst q1
    refine ⟨.own,.inl rfl,fun m me hm=>?_⟩
    rw [ev_fn Tryz.f16 rfl Tryz.func16 rfl rfl rfl (Nat.le_of_ble_eq_true rfl)]
    rcases hmz with rfl | rfl<;>simp [c1,c2,c4,e2,hm,rWS]
   ·refine ⟨mz,hmz.elim .inl fun q=>.inr (.inl q),fun m me hm=>?_⟩
    rw [ev_fn Tryz.f16 rfl Tryz.func16 rfl rfl rfl (Nat.le_of_ble_eq_true rfl)]
    rcases hmz with rfl | rfl<;>simp [c1,c2,c4,e2,hm,rWS]
 ·exact ⟨.own,.inl rfl,fun m me hm=>ev_impl_WorldDo m me hm w C e hd k9⟩
end Go.Ev


set_option maxRecDepth 100000
set_option maxHeartbeats 8000000
namespace Go.Ev
open Go.Proofs
theorem fall_self {w:WorldT} (h:WorldP w):doW w ⟨6,0,false,(0,0),0,[]⟩=(w,[],0):=by
 unfold doW
 rw [if_neg (by decide),if_pos rfl,h.kept]
theorem law_FnWorldFall (code:List UInt8):ev E 4 [.v .ro false [.sl (rowsOfBytes code)]]=some (rB true):=by
 cases e0:ltI 1048576 code.length
 case true =>
  rw [ev_fn Tryz.f4 rfl Tryz.func4 rfl rfl rfl (Nat.le_of_ble_eq_true rfl)]
  simp [e0]
 obtain ⟨m,w,hm,C,c1⟩:=ev_DrawWorldText code
 have c2:=fun m me hm=>ev_impl_WorldDo m me hm w C ⟨6,0,false,(0,0),0,[]⟩ (by simp) (by simp)
 have c3:=fun m me hm=>ev_spec_WorldDo m me hm w C ⟨6,0,false,(0,0),0,[]⟩ (by simp)
 have c4:=fun m hm=>ev_spec_WorldOk m hm w C
 have c5:=fun m m' hm hm'=>ev_impl_WorldSame m m' hm hm' w w C.toWorldB
 rw [sameWorld_self] at c5
 cases e1:worldOk w
 ·rw [noDo e1] at c2 c3
  rw [e1] at c4
  simp only [rWS,evL] at c2 c3
  rw [ev_fn Tryz.f4 rfl Tryz.func4 rfl rfl rfl (Nat.le_of_ble_eq_true rfl)]
  rcases hm with rfl | rfl | rfl<;>simp [e0,c1,c2,c3,c4,e1]
 ·have P:=worldOk_iff.1 e1
  rw [P.doIs,fall_self P] at c2 c3
  rw [e1] at c4
  simp only [rWS,evL] at c2 c3
  rw [ev_fn Tryz.f4 rfl Tryz.func4 rfl rfl rfl (Nat.le_of_ble_eq_true rfl)]
  rcases hm with rfl | rfl | rfl<;>simp [e0,c1,c2,c3,c4,c5,e1]
theorem law_FnWorldSure (code:List UInt8):ev E 6 [.v .ro false [.sl (rowsOfBytes code)]]=some (rB true):=by
 cases e0:ltI 1048576 code.length
 case true =>
  rw [ev_fn Tryz.f6 rfl Tryz.func6 rfl rfl rfl (Nat.le_of_ble_eq_true rfl)]
  simp [e0]
 obtain ⟨m,w,hm,C,c1⟩:=ev_DrawWorldOk code
 have c2:=fun m me hm=>ev_impl_WorldDo m me hm w C ⟨5,0,false,(0,0),0,[]⟩ (by simp) (by simp)
 have c3:=fun m me hm=>ev_spec_WorldDo m me hm w C ⟨5,0,false,(0,0),0,[]⟩ (by simp)
 cases e1:worldOk w
 ·rw [noDo e1] at c2 c3
  simp only [rWS,evL] at c2 c3
  rw [ev_fn Tryz.f6 rfl Tryz.func6 rfl rfl rfl (Nat.le_of_ble_eq_true rfl)]
  rcases hm with rfl | rfl | rfl<;>simp [e0,c1,c2,c3,e1]
 ·have P:=worldOk_iff.1 e1
  have hdo:doW w ⟨5,0,false,(0,0),0,[]⟩=({ w with st:=storeSync w.st,kept:=[] },[],0):=by unfold doW;rw [if_pos rfl]
  have SP:=sync_ok P.st
  have sf:storeFall (storeSync w.st)=storeSync w.st:=rfl
  have c4:=fun m hm=>ev_impl_StoreSync m hm w.st P.st.bd
  have c5:=fun m hm=>ev_impl_StoreFall m hm (storeSync w.st) SP.bd
  rw [sf,if_pos (storeOk_iff.2 SP)] at c5
  rw [if_pos (storeOk_iff.2 P.st)] at c4
  have c6:=fun m m' hm hm'=>ev_impl_StoreSame m m' hm hm' (storeSync w.st) (storeSync w.st) SP.bd.toStoreB
  rw [show sameStore (storeSync w.st) (storeSync w.st)=true from sameStore_iff.2 rfl] at c6
  have c7:=fun m m' hm hm'=>ev_impl_LockSame m m' hm hm' w.locks w.locks P.locksB.1 P.locksB.2
  rw [locks_self] at c7
  rw [P.doIs,hdo] at c2 c3
  simp only [rWS,evL] at c2 c3
  simp only [rS1] at c4 c5
  generalize storeSync w.st=z at *
  rw [ev_fn Tryz.f6 rfl Tryz.func6 rfl rfl rfl (Nat.le_of_ble_eq_true rfl)]
  rcases hm with rfl | rfl | rfl<;>simp [e0,c1,c2,c3,c4,c5,c6,c7,e1]
theorem law_FnWorldBent (code:List UInt8):ev E 7 [.v .ro false [.sl (rowsOfBytes code)]]=some (rB true):=by
 cases e0:ltI 1048576 code.length
 case true =>
  rw [ev_fn Tryz.f7 rfl Tryz.func7 rfl rfl rfl (Nat.le_of_ble_eq_true rfl)]
  simp [e0]
 obtain ⟨m,w,hm,C,c1⟩:=ev_DrawWorldOk code
 have c2:=fun m hm=>ev_impl_WorldOk m hm w C
 have c3:=fun m hm=>ev_spec_WorldOk m hm w C
 cases e1:worldOk w
 ·rw [e1] at c2 c3
  have c4:=fun m me hm=>ev_impl_WorldDo m me hm w C ⟨5,0,false,(0,0),0,[]⟩ (by simp) (by simp)
  rw [noDo e1] at c4
  have c5:=fun m hm=>ev_iText m hm w C
  have c6:=fun m hm=>ev_impl_WorldFile m hm w C
  unfold fileB at c6
  rw [e1] at c5 c6
  simp only [Bool.false_eq_true,if_false] at c5 c6
  have c7:=fun m m' hm hm'=>ev_impl_WorldSame m m' hm hm' noW noW noW_wb
  rw [sameWorld_self] at c7
  simp only [rWS,evL] at c4
  simp only [noW,noS] at c4 c7
  simp only [worldL,strsL,intsL,boolsL,List.map_nil] at c7
  rw [ev_fn Tryz.f7 rfl Tryz.func7 rfl rfl rfl (Nat.le_of_ble_eq_true rfl)]
  rcases hm with rfl | rfl | rfl<;>simp [e0,c1,c2,c3,c4,c5,c6,c7,e1]
 ·rw [e1] at c2 c3
  rw [ev_fn Tryz.f7 rfl Tryz.func7 rfl rfl rfl (Nat.le_of_ble_eq_true rfl)]
  rcases hm with rfl | rfl | rfl<;>simp [e0,c1,c2,c3,e1]
end Go.Ev


namespace Go.Ev
theorem doW_held {w:WorldT} {e:EvT} (hk:e.kind=1) (h:(doW w e).2.2=22):(doW w e).1=w∧(doW w e).2.1=[]∧formEv e=false∧w.live e.who.toNat=true∧e.who.toNat<3∧0≤e.who∧spOk e.span=true∧((lockBars w.locks e.who.toNat e.write e.span).any fun k=>!w.live k)=true:=by
 obtain ⟨g1,g2⟩:=doW_full (w:=w) (e:=e) (by omega)
 refine ⟨g1,g2,?_⟩
 unfold doW at h
 rw [if_neg (by omega),if_neg (by omega),if_neg (by omega)] at h
 by_cases hf:formEv e=true
 ·rw [if_pos hf] at h;simp at h
 rw [if_neg hf,if_neg (by omega)] at h
 by_cases hl:w.live e.who.toNat=false
 ·rw [if_pos hl] at h;simp at h
 rw [if_neg hl] at h
 obtain ⟨hi,h0,h3,_,_,hs⟩:=form_who hf
 unfold whoW at h
 rw [if_pos hk] at h
 dsimp only at h
 refine ⟨by simpa using hf,by simpa using hl,hi,h0,hs (.inl hk),?_⟩
 unfold lockW at h
 split at h
 ·assumption
 ·split at h
  ·simp at h
  ·split at h<;>simp at h
theorem evictsW_live {w:WorldT} {dead:Nat→Bool} {ks:List Nat} (hw:WorldP w) (hk:∀ k∈ks,k<3) (h:(evictsW dead ks w).2=true) {i:Nat} (hi:i<3) (hl:w.live i=true):(evictsW dead ks w).1.live i=true:=by
 obtain ⟨g1,g2⟩:=evicts_R (dead:=dead) ks hw hk h
 obtain ⟨a1,a2,_⟩:=g2 i hi
 by_cases hm:i∈ks
 ·cases hd:dead i
  ·rw [(a2 (.inr hd)).2];exact hl
  ·exact (a1 hm hd).2
 ·rw [(a2 (.inl hm)).2];exact hl
theorem lockW_three (w:WorldT) (i:Nat) (write:Bool) (s:Sp):(lockW w i write s).2=0∨(lockW w i write s).2=22∨(lockW w i write s).2=24:=by
 unfold lockW
 split
 ·simp
 ·split
  ·simp
  ·split<;>simp
theorem doW_again {w y:WorldT} {e:EvT} (hk:e.kind=1) (hf:formEv e=false) (hl:y.live e.who.toNat=true):(doW y e).2.2=(lockW y e.who.toNat e.write e.span).2:=by
 unfold doW
 rw [if_neg (by omega),if_neg (by omega),if_neg (by omega),hf,if_neg (by simp),if_neg (by omega),hl,if_neg (by simp)]
 unfold whoW
 rw [if_pos hk]
theorem WriteR.sub {w x:WorldT} {i lo:Nat} {data:Bs} (hw:WorldP w) (hi:i<3) (R:WriteR w i lo data x):subS x.text ((lo:Int),(lo:Int)+data.length)=data:=by
 have hl:=wrOk_len R.wr
 obtain ⟨t1,t2⟩:=R.ok.textGet
 have e1:((lo:Int)+data.length).toNat=lo+data.length:=by omega
 apply List.ext_getElem?
 intro j
 simp only [subS,Int.toNat_natCast,e1,List.getElem?_take,List.getElem?_drop]
 by_cases hj:j<data.length
 ·rw [if_pos (by omega),List.getElem?_eq_getElem hj]
  have g:=t2 (lo+j) (by omega)
  rw [R.see hw hi (by omega),if_pos (by omega)] at g
  rw [List.getD_eq_getElem?_getD,List.getD_eq_getElem?_getD,List.getElem?_eq_getElem (by omega),show lo+j - lo=j by omega,List.getElem?_eq_getElem hj] at g
  simp only [Option.getD_some] at g
  rw [List.getElem?_eq_getElem (by omega),g]
 ·rw [if_neg (by omega),List.getElem?_eq_none (by omega)]
end Go.Ev


set_option maxRecDepth 100000
set_option maxHeartbeats 8000000
namespace Go.Ev
open Go.Proofs
def ev8 (k:Nat):EvT:=⟨8,k,false,(0,0),0,[]⟩
theorem doW_ev8 {w:WorldT} {k:Nat} (hk:k<3):doW w (ev8 k)=((evictW w k).1,[],(evictW w k).2):=by
 unfold doW ev8
 have hf:¬ formEv ⟨8,k,false,(0,0),0,[]⟩=true:=by simp [formEv,whoOk,ltI,eqI];omega
 rw [if_neg (by simp),if_neg (by simp),if_neg (by simp),if_neg hf,if_pos rfl]
 simp
theorem lp_FnWorldHeld (m:M) (hm:m.isOwn=false) (w:WorldT) (hw:WorldP w) (evs:List L) (bs:List Nat) (hb:∀ b∈bs,b<3) (hbl:bs.length≤3) (a:Code) (ha:a=lp Tryz.f3 0):∀ (n i:Nat) (my:M) (y:WorldT) (dead:Nat),i+n=bs.length→OwRo my→WorldP y→dead≤i →
  ∃ my':M,OwRo my' ∧
  loopC E (ev E) 3 a { V:=[(3,adc 3),(4,adc 4),(11,at1 11),(12,vi dead),(13,adc 13),(14,vi i)],H:=[bxm (.c 3) m (worldL w),bx (.c 4) evs,ow (.c 11) [.sl (intsL (bs.map fun k:Nat=>(k:Int)))],bxm (.c 13) my (worldL y)],ps:=[] } =
   if (evictsW (fun k=>!w.live k) (bs.drop i) y).2=true then some (.exit 0,{ V:=[(3,adc 3),(4,adc 4),(11,at1 11),(12,vi (dead+(bs.drop i).countP (fun k=>!w.live k):Nat)),(13,adc 13),(14,vi bs.length),(69,vb false)],H:=[bxm (.c 3) m (worldL w),bx (.c 4) evs,ow (.c 11) [.sl (intsL (bs.map fun k:Nat=>(k:Int)))],bxm (.c 13) my' (worldL (evictsW (fun k=>!w.live k) (bs.drop i) y).1)],ps:=[] })
   else some (.ret,{ V:=[(2,vb true)],H:=[],ps:=[] })
 | 0,i,my,y,dead,h0,hmy,P,hdd=>by
  refine ⟨my,hmy,?_⟩
  rw [loopC_of _ _ _ _ ha]
  obtain rfl:i=bs.length:=by omega
  simp only [List.drop_length,evictsW,List.countP_nil,Nat.add_zero]
  rcases hmy with rfl | rfl | rfl<;>simp [lp,loopsOf,Tryz.f3,hm]
 | n+1,i,my,y,dead,h0,hmy,P,hdd=>by
  have hlt:i<bs.length:=by omega
  have hw1:=wrapN i (by omega)
  have hw2:=wrapN dead (by omega)
  have hbi:=hb _ (List.getElem_mem hlt)
  have ha3:=hw.alive
  have h3:bs[i]<w.alive.length:=by omega
  have hal:w.live bs[i]=w.alive[bs[i]]:=by simp [WorldT.live,h3]
  rw [List.drop_eq_getElem_cons hlt]
  simp only [evictsW,List.countP_cons,hal]
  cases e1:w.alive[bs[i]]
  ·have c1:=fun m me hm=>ev_impl_WorldDo m me hm y P.wc (ev8 bs[i]) (by simp [ev8]) (by simp [ev8])
   rw [P.doIs,doW_ev8 hbi] at c1
   simp only [rWS,ev8,evL] at c1
   cases e2:eqI (evictW y bs[i]).2 0
   ·have e3:=(show ¬ (evictW y bs[i]).2=0 from fun q=>by rw [q] at e2;simp [eqI] at e2)
    refine ⟨my,hmy,?_⟩
    simp only [Bool.not_false,if_true,if_neg e3,Bool.false_eq_true,if_false]
    rw [loopC_of _ _ _ _ ha]
    clear ha
    rcases hmy with rfl | rfl | rfl<;>simp [lp,loopsOf,Tryz.f3,hlt,hw1,hw2,hm,h3,e1,c1,e2]
   ·have e3:=eqI_iff.1 e2
    have R:=evict_R P hbi e3
    obtain ⟨my',hmy',ih⟩:=lp_FnWorldHeld m hm w hw evs bs hb hbl a ha n (i+1) .own (evictW y bs[i]).1 (dead+1) (by omega) (.inl rfl) R.ok (by omega)
    refine ⟨my',hmy',?_⟩
    simp only [Bool.not_false,if_true,if_pos e3]
    rw [show dead+1+(bs.drop (i+1)).countP (fun k=>!w.live k)=dead+((bs.drop (i+1)).countP (fun k=>!w.live k)+1) by omega] at ih
    push_cast at ih ⊢
    generalize hR:(if (evictsW (fun k=>!w.live k) (bs.drop (i+1)) (evictW y bs[i]).1).2=true then _ else _)=R2 at ih ⊢
    rw [loopC_of _ _ _ _ ha]
    clear ha
    rcases hmy with rfl | rfl | rfl<;>(simp [lp,loopsOf,Tryz.f3,hlt,hw1,hw2,hm,h3,e1,c1,e2];simpa using ih)
  ·obtain ⟨my',hmy',ih⟩:=lp_FnWorldHeld m hm w hw evs bs hb hbl a ha n (i+1) my y dead (by omega) hmy P (by omega)
   refine ⟨my',hmy',?_⟩
   simp only [Bool.not_true,Bool.false_eq_true,if_false,Nat.add_zero]
   push_cast at ih ⊢
   generalize hR:(if (evictsW (fun k=>!w.live k) (bs.drop (i+1)) y).2=true then _ else _)=R2 at ih ⊢
   rw [loopC_of _ _ _ _ ha]
   clear ha
   rcases hmy with rfl | rfl | rfl<;>(simp [lp,loopsOf,Tryz.f3,hlt,hw1,hw2,hm,h3,e1];simpa using ih)
theorem law_FnWorldHeld (code:List UInt8):ev E 3 [.v .ro false [.sl (rowsOfBytes code)]]=some (rB true):=by
 cases e0:ltI 1048576 code.length
 case true =>
  rw [ev_fn Tryz.f3 rfl Tryz.func3 rfl rfl rfl (Nat.le_of_ble_eq_true rfl)]
  simp [e0]
 obtain ⟨m,w,e,hm,C,hd,c1⟩:=ev_DrawWorldDo code
 obtain ⟨k,who,wr,s,pos,dat⟩:=e
 have c2:=fun m me hm=>ev_impl_WorldDo m me hm w C ⟨1,who,wr,s,pos,dat⟩ (by dsimp only at hd ⊢;omega) (by simp)
 have c3:=fun m me hm=>ev_spec_WorldDo m me hm w C ⟨1,who,wr,s,pos,dat⟩ (by dsimp only at hd ⊢;omega)
 cases hc:eqI (worldDo w ⟨1,who,wr,s,pos,dat⟩).2.2 22
 ·simp only [rWS,evL] at c2 c3
  generalize worldDo w ⟨1,who,wr,s,pos,dat⟩=z at *
  rw [ev_fn Tryz.f3 rfl Tryz.func3 rfl rfl rfl (Nat.le_of_ble_eq_true rfl)]
  rcases hm with rfl | rfl | rfl<;>simp [e0,c1,c2,c3,hc]
 ·have hc0:=eqI_iff.1 hc
  have P:WorldP w:=by
   unfold worldDo at hc0
   cases hq:worldOk w
   ·rw [hq] at hc0;simp at hc0
   ·exact worldOk_iff.1 hq
  rw [P.doIs] at c2 c3 hc0
  obtain ⟨q1,q2,hf,hl,hi,h0,hs,hany⟩:=doW_held rfl hc0
  dsimp only at hl hi h0 hs hany
  rw [hc0,q1,q2] at c2 c3
  simp only [rWS,evL] at c2 c3
  have c4:=fun m m' hm hm'=>ev_impl_WorldSame m m' hm hm' w w C.toWorldB
  rw [sameWorld_self] at c4
  obtain ⟨i0,rfl⟩:∃ i0:Nat,who=i0:=⟨who.toNat,by omega⟩
  simp only [Int.toNat_natCast] at hl hi hany
  have w3:whoOk (i0:Int)=true:=by simp [whoOk,ltI];omega
  have lkx:lockOk w.locks=true:=lockOk_iff.2 P.lk
  have c5:=fun m m1 m2 m3 hm=>ev_impl_LockBars m m1 m2 m3 hm w.locks P.locksB.1 P.locksB.2 (i0:Int) wr s
  have eb:barsI w.locks (i0:Int) wr s=(lockBars w.locks i0 wr s).map fun k:Nat=>(k:Int):=by
   unfold barsI barsL
   rw [lkx,w3,hs]
   simp
  rw [eb] at c5
  have hbs:∀ b∈lockBars w.locks i0 wr s,b<3:=fun b hb=>(bars_mem.1 hb).1
  have hbl:(lockBars w.locks i0 wr s).length≤3:=by
   have:=List.length_filter_le (barsAt w.locks i0 wr s) (List.range 3)
   simpa [lockBars] using this
  have hag:=fun h=>held_again (i:=i0) (write:=wr) (s:=s) P h
  have hlv:=fun h=>evictsW_live (dead:=fun k=>!w.live k) (ks:=lockBars w.locks i0 wr s) P hbs h hi hl
  have hPy:=fun h=>(evicts_R (dead:=fun k=>!w.live k) (lockBars w.locks i0 wr s) P hbs h).1
  have hcnt:0<(lockBars w.locks i0 wr s).countP fun k=>!w.live k:=by
   rw [List.countP_pos_iff]
   simpa using hany
  have key:∀ (m my:M),m.isOwn=false→OwRo my→True:=fun _ _ _ _=>trivial
  generalize lockBars w.locks i0 wr s=bs at *
  have hl0:=fun m hm my hmy=>lp_FnWorldHeld m hm w P (evL ⟨1,i0,wr,s,pos,dat⟩) bs hbs hbl _ rfl bs.length 0 my w 0 (by omega) hmy P (by omega)
  simp only [List.drop_zero,Nat.zero_add] at hl0
  push_cast at hl0
  cases hev:(evictsW (fun k=>!w.live k) bs w).2
  ·simp only [hev,Bool.false_eq_true,if_false] at hl0
   rcases hm with rfl | rfl | rfl
   ·obtain ⟨my',_,hl⟩:=hl0 .ro rfl .ro (.inr (.inl rfl))
    rw [ev_fn Tryz.f3 rfl Tryz.func3 rfl rfl rfl (Nat.le_of_ble_eq_true rfl)]
    simp [e0,c1,c2,c3,c4,c5]
    simp only [intsL,List.map_map] at hl
    rw [loopC_at ?_ hl]
    ·simp
    ·rfl
   ·obtain ⟨my',_,hl⟩:=hl0 .ro rfl .ro (.inr (.inl rfl))
    rw [ev_fn Tryz.f3 rfl Tryz.func3 rfl rfl rfl (Nat.le_of_ble_eq_true rfl)]
    simp [e0,c1,c2,c3,c4,c5]
    simp only [intsL,List.map_map] at hl
    rw [loopC_at ?_ hl]
    ·simp
    ·rfl
   ·obtain ⟨my',_,hl⟩:=hl0 .ro rfl .ro (.inr (.inl rfl))
    rw [ev_fn Tryz.f3 rfl Tryz.func3 rfl rfl rfl (Nat.le_of_ble_eq_true rfl)]
    simp [e0,c1,c2,c3,c4,c5]
    simp only [intsL,List.map_map] at hl
    rw [loopC_at ?_ hl]
    ·simp
    ·rfl
  ·simp only [hev,if_true] at hl0
   have hne:=hag hev
   have hly:=hlv hev
   have Py:=hPy hev
   have c6:=fun m me hm=>ev_impl_WorldDo m me hm _ Py.wc ⟨1,i0,wr,s,pos,dat⟩ (by dsimp only at hd ⊢;omega) (by simp)
   rw [Py.doIs] at c6
   have hagain:=doW_again (w:=w) (y:=(evictsW (fun k=>!w.live k) bs w).1) (e:=⟨1,i0,wr,s,pos,dat⟩) rfl hf (by simpa using hly)
   have hcode:(doW (evictsW (fun k=>!w.live k) bs w).1 ⟨1,i0,wr,s,pos,dat⟩).2.2=0∨(doW (evictsW (fun k=>!w.live k) bs w).1 ⟨1,i0,wr,s,pos,dat⟩).2.2=24:=by
    rw [hagain]
    simp only [Int.toNat_natCast]
    have:=lockW_three (evictsW (fun k=>!w.live k) bs w).1 i0 wr s
    omega
   clear hagain
   simp only [rWS,evL] at c6
   generalize (evictsW (fun k=>!w.live k) bs w).1=y at *
   generalize doW y ⟨1,i0,wr,s,pos,dat⟩=z at *
   generalize bs.countP (fun k=>!w.live k)=cn at *
   have hcn:ltI 0 (cn:Int)=true:=by simp [ltI];omega
   have hz:eqI z.2.2 0=false→eqI z.2.2 24=true:=fun q=>by
    rw [eqI_iff]
    rcases hcode with r | r
    ·rw [r] at q;simp [eqI] at q
    ·exact r
   rcases hm with rfl | rfl | rfl
   ·obtain ⟨my',hmy',hl⟩:=hl0 .ro rfl .ro (.inr (.inl rfl))
    rw [ev_fn Tryz.f3 rfl Tryz.func3 rfl rfl rfl (Nat.le_of_ble_eq_true rfl)]
    cases e5:eqI z.2.2 0<;>rcases hmy' with rfl | rfl | rfl <;>
    ·simp [e0,c1,c2,c3,c4,c5]
     simp only [intsL,List.map_map] at hl
     rw [loopC_at ?_ hl]
     ·simp [c6,hcn,e5,hz]
     ·rfl
   ·obtain ⟨my',hmy',hl⟩:=hl0 .ro rfl .ro (.inr (.inl rfl))
    rw [ev_fn Tryz.f3 rfl Tryz.func3 rfl rfl rfl (Nat.le_of_ble_eq_true rfl)]
    cases e5:eqI z.2.2 0<;>rcases hmy' with rfl | rfl | rfl <;>
    ·simp [e0,c1,c2,c3,c4,c5]
     simp only [intsL,List.map_map] at hl
     rw [loopC_at ?_ hl]
     ·simp [c6,hcn,e5,hz]
     ·rfl
   ·obtain ⟨my',hmy',hl⟩:=hl0 .ro rfl .ro (.inr (.inl rfl))
    rw [ev_fn Tryz.f3 rfl Tryz.func3 rfl rfl rfl (Nat.le_of_ble_eq_true rfl)]
    cases e5:eqI z.2.2 0<;>rcases hmy' with rfl | rfl | rfl <;>
    ·simp [e0,c1,c2,c3,c4,c5]
     simp only [intsL,List.map_map] at hl
     rw [loopC_at ?_ hl]
     ·simp [c6,hcn,e5,hz]
     ·rfl
end Go.Ev


set_option maxRecDepth 100000
set_option maxHeartbeats 8000000
namespace Go.Ev
open Go.Proofs
theorem worldDo_wb {w:WorldT} (e:EvT):WorldB (worldDo w e).1:=by
 unfold worldDo
 split
 ·rename_i h
  exact (doW_ok (worldOk_iff.1 h) e).wc.toWorldB
 ·exact noW_wb
theorem law_FnWorldOk (code:List UInt8):ev E 9 [.v .ro false [.sl (rowsOfBytes code)]]=some (rB true):=by
 cases e0:ltI 1048576 code.length
 case true =>
  rw [ev_fn Tryz.f9 rfl Tryz.func9 rfl rfl rfl (Nat.le_of_ble_eq_true rfl)]
  simp [e0]
 obtain ⟨m,w,e,hm,C,hd,c1⟩:=ev_DrawWorldDo code
 obtain ⟨mz,hmz,c2⟩:=ev_impl_WorldDoA w C e (by omega)
 have c3:=fun m me hm=>ev_spec_WorldDo m me hm w C e (by omega)
 have c4:=fun m hm=>ev_impl_WorldOk m hm w C
 have c5:=fun m hm=>ev_spec_WorldOk m hm w C
 have c6:=fun m m' hm hm'=>ev_impl_WorldSame m m' hm hm' (worldDo w e).1 (worldDo w e).1 (worldDo_wb e)
 rw [sameWorld_self] at c6
 simp only [rWS,evL] at c2 c3
 cases e1:worldOk w
 ·rw [noDo e1] at c2 c3 c6
  rw [e1] at c4 c5
  have c7:=fun m m' hm hm'=>ev_impl_WorldSame m m' hm hm' noW noW noW_wb
  rw [sameWorld_self] at c7
  simp only [noW,noS] at c2 c3 c6 c7
  simp only [worldL,strsL,intsL,boolsL,List.map_nil] at c6 c7
  rw [ev_fn Tryz.f9 rfl Tryz.func9 rfl rfl rfl (Nat.le_of_ble_eq_true rfl)]
  rcases hm with rfl | rfl | rfl<;>rcases hmz with rfl | rfl | rfl<;>simp [e0,c1,c2,c3,c4,c5,c6,c7,e1]
 ·have P:=worldOk_iff.1 e1
  rw [e1] at c4 c5
  rw [P.doIs] at c2 c3 c6
  have hok:=doW_ok P e
  have hful:=doW_full (w:=w) (e:=e)
  generalize doW w e=z at *
  obtain ⟨x,s,c⟩:=z
  dsimp only at c2 c3 c6 hok hful
  have c7:=fun m hm=>ev_impl_WorldOk m hm x hok.wc
  rw [worldOk_iff.2 hok] at c7
  cases e2:ltI c 20
  ·obtain ⟨q1,q2⟩:=hful (ltI_not.1 e2)
   subst q1 q2
   rw [ev_fn Tryz.f9 rfl Tryz.func9 rfl rfl rfl (Nat.le_of_ble_eq_true rfl)]
   rcases hm with rfl | rfl | rfl<;>rcases hmz with rfl | rfl | rfl<;>simp [e0,c1,c2,c3,c4,c5,c6,c7,e1,e2]
  ·rw [ev_fn Tryz.f9 rfl Tryz.func9 rfl rfl rfl (Nat.le_of_ble_eq_true rfl)]
   rcases hm with rfl | rfl | rfl<;>rcases hmz with rfl | rfl | rfl<;>simp [e0,c1,c2,c3,c4,c5,c6,c7,e1,e2]
end Go.Ev

