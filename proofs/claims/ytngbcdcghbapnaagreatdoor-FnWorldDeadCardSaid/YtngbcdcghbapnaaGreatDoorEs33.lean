/- My texts joined: EvT120. No condition. -/
import Derived.Test.YtngbcdcghbapnaaGreatDoorEs11
import Derived.Test.YtngbcdcghbapnaaGreatDoorEs13
import Derived.Test.YtngbcdcghbapnaaGreatDoorEs14
import Derived.Test.YtngbcdcghbapnaaGreatDoorEs19
set_option linter.unusedVariables false
set_option linter.unusedSimpArgs false

set_option maxRecDepth 100000
set_option maxHeartbeats 8000000
namespace Go.Ev
open Go.Proofs
theorem doW_dead {w:WorldT} {e:EvT} (h1:1≤e.kind) (h4:e.kind≤4) (hl:w.live e.who.toNat=false):(doW w e).1=w∧((doW w e).2.2=20∨(doW w e).2.2=21):=by
 unfold doW
 rw [if_neg (by omega),if_neg (by omega),if_neg (by omega)]
 by_cases hf:formEv e=true
 ·rw [if_pos hf];exact ⟨rfl,.inl rfl⟩
 ·rw [if_neg hf,if_neg (by omega),if_pos hl];exact ⟨rfl,.inr rfl⟩
theorem law_FnWorldDead (code:List UInt8):ev E 11 [.v .ro false [.sl (rowsOfBytes code)]]=some (rB true):=by
 cases e0:ltI 1048576 code.length
 case true =>
  rw [ev_fn Tryz.f11 rfl Tryz.func11 rfl rfl rfl (Nat.le_of_ble_eq_true rfl)]
  simp [e0]
 obtain ⟨m,w,e,hm,C,hd,c1⟩:=ev_DrawWorldDo code
 obtain ⟨k,who,wr,s,pos,dat⟩:=e
 dsimp only at hd
 obtain ⟨mz,hmz,c2⟩:=ev_impl_WorldDoR w C ⟨k,who,wr,s,pos,dat⟩ (by dsimp only;omega)
 have c3:=fun m me hm=>ev_spec_WorldDo m me hm w C ⟨k,who,wr,s,pos,dat⟩ (by dsimp only;omega)
 have c5:=fun m hm=>ev_spec_WorldOk m hm w C
 simp only [rWS,evL] at c2 c3
 cases e1:worldOk w
 ·rw [e1] at c5
  generalize worldDo w ⟨k,who,wr,s,pos,dat⟩=z at *
  rw [ev_fn Tryz.f11 rfl Tryz.func11 rfl rfl rfl (Nat.le_of_ble_eq_true rfl)]
  rcases hm with rfl | rfl | rfl<;>rcases hmz with rfl | rfl<;>simp [e0,c1,c2,c3,c5,e1]
 ·have P:=worldOk_iff.1 e1
  rw [e1] at c5
  rw [P.doIs] at c2 c3
  have hdead:=doW_dead (w:=w) (e:=⟨k,who,wr,s,pos,dat⟩)
  dsimp only at hdead
  generalize doW w ⟨k,who,wr,s,pos,dat⟩=z at *
  obtain ⟨x,s2,c⟩:=z
  dsimp only at c2 c3 hdead
  cases e2:ltI who 0
  case true =>
   rw [ev_fn Tryz.f11 rfl Tryz.func11 rfl rfl rfl (Nat.le_of_ble_eq_true rfl)]
   rcases hm with rfl | rfl | rfl<;>rcases hmz with rfl | rfl<;>simp [e0,c1,c2,c3,c5,e1,e2]
  cases e3:ltI who 3
  case false =>
   rw [ev_fn Tryz.f11 rfl Tryz.func11 rfl rfl rfl (Nat.le_of_ble_eq_true rfl)]
   rcases hm with rfl | rfl | rfl<;>rcases hmz with rfl | rfl<;>simp [e0,c1,c2,c3,c5,e1,e2,e3]
  have g2:=ltI_not.1 e2
  have g3:=ltI_iff.1 e3
  obtain ⟨i,rfl⟩:∃ i:Nat,who=i:=⟨who.toNat,by omega⟩
  have hi:i<3:=by omega
  have ha3:=P.alive
  have hla:i<w.alive.length:=by omega
  have hal:w.live i=w.alive[i]:=getD_lt _ hla
  cases e4:w.alive[i]
  case true =>
   rw [ev_fn Tryz.f11 rfl Tryz.func11 rfl rfl rfl (Nat.le_of_ble_eq_true rfl)]
   rcases hm with rfl | rfl | rfl<;>rcases hmz with rfl | rfl<;>simp [e0,c1,c2,c3,c5,e1,e2,e3,hi,hla,e4]
  cases e5:ltI k 1
  case true =>
   rw [ev_fn Tryz.f11 rfl Tryz.func11 rfl rfl rfl (Nat.le_of_ble_eq_true rfl)]
   rcases hm with rfl | rfl | rfl<;>rcases hmz with rfl | rfl<;>simp [e0,c1,c2,c3,c5,e1,e2,e3,hi,hla,e4,e5]
  cases e6:ltI 4 k
  case true =>
   rw [ev_fn Tryz.f11 rfl Tryz.func11 rfl rfl rfl (Nat.le_of_ble_eq_true rfl)]
   rcases hm with rfl | rfl | rfl<;>rcases hmz with rfl | rfl<;>simp [e0,c1,c2,c3,c5,e1,e2,e3,hi,hla,e4,e5,e6]
  obtain ⟨hx,hc⟩:=hdead (ltI_not.1 e5) (ltI_not.1 e6) (by rw [Int.toNat_natCast,hal,e4])
  subst hx
  have c6:=fun m m' hm hm'=>ev_impl_WorldSame m m' hm hm' x x C.toWorldB
  rw [sameWorld_self] at c6
  have c7:=fun m me hm=>ev_impl_WorldDo m me hm x C ⟨8,i,false,(0,0),0,[]⟩ (by simp) (by simp)
  have hev:doW x ⟨8,i,false,(0,0),0,[]⟩=((evictW x i).1,[],(evictW x i).2):=by
   unfold doW
   have hf:¬ formEv ⟨8,i,false,(0,0),0,[]⟩=true:=by simp [formEv,whoOk,ltI,eqI];omega
   rw [if_neg (by simp),if_neg (by simp),if_neg (by simp),if_neg hf,if_pos rfl]
   simp
  rw [P.doIs,hev] at c7
  simp only [rWS,evL] at c7
  have hie:i<x.epochs.length:=by rw [P.epochs];exact hi
  have hep:x.ep i=x.epochs[i]:=getD_lt _ hie
  have hpe:=P.ep i hi
  have hfl0:0≤x.st.floors.getD i 0:=by
   have:=P.st.nums i hi
   omega
  have hw:IntKind.i64.wrap (x.epochs[i]+1)=x.epochs[i]+1:=wrap64 (by rw [← hep];omega)
  have w00:IntKind.i64.wrap 0=0:=by decide
  have hf:=evict_fine (w:=x) (k:=i)
  rw [hep] at hf
  have hy:=P.epochs
  have hlk:=P.lk.len
  generalize evictW x i=y at *
  obtain ⟨y,d⟩:=y
  dsimp only at c7 hf
  cases e8:eqI d 0
  ·have hcs:eqI c 20=false→eqI c 21=true:=fun q=>by
    rcases hc with r | r
    ·rw [r] at q;simp [eqI] at q
    ·rw [r];rfl
   rw [ev_fn Tryz.f11 rfl Tryz.func11 rfl rfl rfl (Nat.le_of_ble_eq_true rfl)]
   rcases hc with rfl | rfl<;>rcases hm with rfl | rfl | rfl<;>rcases hmz with rfl | rfl<;>simp [e0,c1,c2,c3,c5,c6,c7,e1,e2,e3,hi,hla,e4,e5,e6,e8]
  ·obtain ⟨f1,f2,f3,f4,_⟩:=hf (eqI_iff.1 e8)
   obtain ⟨ysz,ymany,yst,ylocks,yowns,yep,yal,ykept,ylate⟩:=y
   dsimp only at f1 f2 f4 c7
   subst f1 f2 f4
   rw [ev_fn Tryz.f11 rfl Tryz.func11 rfl rfl rfl (Nat.le_of_ble_eq_true rfl)]
   rcases hc with rfl | rfl<;>rcases hm with rfl | rfl | rfl<;>rcases hmz with rfl | rfl<;>simp [e0,c1,c2,c3,c5,c6,c7,e1,e2,e3,hi,hla,e4,e5,e6,e8,ha3,hy,hlk,hw,noH,w00]
end Go.Ev

