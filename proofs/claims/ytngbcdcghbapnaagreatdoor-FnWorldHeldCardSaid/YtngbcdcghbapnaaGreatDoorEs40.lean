/- My texts joined: EvT100. No condition. -/
import Derived.Test.YtngbcdcghbapnaaGreatDoorEs7
import Derived.Test.YtngbcdcghbapnaaGreatDoorEs11
import Derived.Test.YtngbcdcghbapnaaGreatDoorEs13
import Derived.Test.YtngbcdcghbapnaaGreatDoorEs14
import Derived.Test.YtngbcdcghbapnaaGreatDoorEs25
import Derived.Test.YtngbcdcghbapnaaGreatDoorEs39
set_option linter.unusedVariables false
set_option linter.unusedSimpArgs false

set_option maxRecDepth 100000
set_option maxHeartbeats 8000000
namespace Go.Ev
open Go.Proofs
def ev8 (k:Nat):EvT:=⟨8,k,false,(0,0),0,[]⟩
theorem doW_ev8 {w:WorldT} {k:Nat} (hk:k<3):doW w (ev8 k)=((evictW w k).1,[],(evictW w k).2):=by
 unfold doW ev8
 have hf:¬ formEv ⟨8,k,false,(0,0),0,[]⟩=true:=by simp [formEv,whoOk,ltI,eqI];omega
 rw [if_neg (by simp),if_neg (by simp),if_neg (by simp),if_neg hf,if_pos rfl]
 simp
theorem lp_FnWorldHeld (m:M) (hm:m.isOwn=false) (w:WorldT) (hw:WorldP w) (evs:List L) (bs:List Nat) (hb:∀ b∈bs,b<3) (hbl:bs.length≤3) (a:Code) (ha:a=lp Tryz.f3 0):∀ (n i:Nat) (my:M) (y:WorldT) (dead:Nat),i+n=bs.length→OwRo my→WorldP y→dead≤i →
  ∃ my':M,OwRo my' ∧
  loopC E (ev E) 3 a { V:=[(3,adc 3),(4,adc 4),(11,at1 11),(12,vi dead),(13,adc 13),(14,vi i)],H:=[bxm (.c 3) m (worldL w),bx (.c 4) evs,ow (.c 11) [.sl (intsL (bs.map fun k:Nat=>(k:Int)))],bxm (.c 13) my (worldL y)],ps:=[] } =
   if (evictsW (fun k=>!w.live k) (bs.drop i) y).2=true then some (.exit 0,{ V:=[(3,adc 3),(4,adc 4),(11,at1 11),(12,vi (dead+(bs.drop i).countP (fun k=>!w.live k):Nat)),(13,adc 13),(14,vi bs.length),(69,vb false)],H:=[bxm (.c 3) m (worldL w),bx (.c 4) evs,ow (.c 11) [.sl (intsL (bs.map fun k:Nat=>(k:Int)))],bxm (.c 13) my' (worldL (evictsW (fun k=>!w.live k) (bs.drop i) y).1)],ps:=[] })
   else some (.ret,{ V:=[(2,vb true)],H:=[],ps:=[] })
 | 0,i,my,y,dead,h0,hmy,P,hdd=>by
  refine ⟨my,hmy,?_⟩
  rw [loopC_of _ _ _ _ ha]
  obtain rfl:i=bs.length:=by omega
  simp only [List.drop_length,evictsW,List.countP_nil,Nat.add_zero]
  rcases hmy with rfl | rfl | rfl<;>simp [lp,loopsOf,Tryz.f3,hm]
 | n+1,i,my,y,dead,h0,hmy,P,hdd=>by
  have hlt:i<bs.length:=by omega
  have hw1:=wrapN i (by omega)
  have hw2:=wrapN dead (by omega)
  have hbi:=hb _ (List.getElem_mem hlt)
  have ha3:=hw.alive
  have h3:bs[i]<w.alive.length:=by omega
  have hal:w.live bs[i]=w.alive[bs[i]]:=by simp [WorldT.live,h3]
  rw [List.drop_eq_getElem_cons hlt]
  simp only [evictsW,List.countP_cons,hal]
  cases e1:w.alive[bs[i]]
  ·have c1:=fun m me hm=>ev_impl_WorldDo m me hm y P.wc (ev8 bs[i]) (by simp [ev8]) (by simp [ev8])
   rw [P.doIs,doW_ev8 hbi] at c1
   simp only [rWS,ev8,evL] at c1
   cases e2:eqI (evictW y bs[i]).2 0
   ·have e3:=(show ¬ (evictW y bs[i]).2=0 from fun q=>by rw [q] at e2;simp [eqI] at e2)
    refine ⟨my,hmy,?_⟩
    simp only [Bool.not_false,if_true,if_neg e3,Bool.false_eq_true,if_false]
    rw [loopC_of _ _ _ _ ha]
    clear ha
    rcases hmy with rfl | rfl | rfl<;>simp [lp,loopsOf,Tryz.f3,hlt,hw1,hw2,hm,h3,e1,c1,e2]
   ·have e3:=eqI_iff.1 e2
    have R:=evict_R P hbi e3
    obtain ⟨my',hmy',ih⟩:=lp_FnWorldHeld m hm w hw evs bs hb hbl a ha n (i+1) .own (evictW y bs[i]).1 (dead+1) (by omega) (.inl rfl) R.ok (by omega)
    refine ⟨my',hmy',?_⟩
    simp only [Bool.not_false,if_true,if_pos e3]
    rw [show dead+1+(bs.drop (i+1)).countP (fun k=>!w.live k)=dead+((bs.drop (i+1)).countP (fun k=>!w.live k)+1) by omega] at ih
    push_cast at ih ⊢
    generalize hR:(if (evictsW (fun k=>!w.live k) (bs.drop (i+1)) (evictW y bs[i]).1).2=true then _ else _)=R2 at ih ⊢
    rw [loopC_of _ _ _ _ ha]
    clear ha
    rcases hmy with rfl | rfl | rfl<;>(simp [lp,loopsOf,Tryz.f3,hlt,hw1,hw2,hm,h3,e1,c1,e2];simpa using ih)
  ·obtain ⟨my',hmy',ih⟩:=lp_FnWorldHeld m hm w hw evs bs hb hbl a ha n (i+1) my y dead (by omega) hmy P (by omega)
   refine ⟨my',hmy',?_⟩
   simp only [Bool.not_true,Bool.false_eq_true,if_false,Nat.add_zero]
   push_cast at ih ⊢
   generalize hR:(if (evictsW (fun k=>!w.live k) (bs.drop (i+1)) y).2=true then _ else _)=R2 at ih ⊢
   rw [loopC_of _ _ _ _ ha]
   clear ha
   rcases hmy with rfl | rfl | rfl<;>(simp [lp,loopsOf,Tryz.f3,hlt,hw1,hw2,hm,h3,e1];simpa using ih)
theorem law_FnWorldHeld (code:List UInt8):ev E 3 [.v .ro false [.sl (rowsOfBytes code)]]=some (rB true):=by
 cases e0:ltI 1048576 code.length
 case true =>
  rw [ev_fn Tryz.f3 rfl Tryz.func3 rfl rfl rfl (Nat.le_of_ble_eq_true rfl)]
  simp [e0]
 obtain ⟨m,w,e,hm,C,hd,c1⟩:=ev_DrawWorldDo code
 obtain ⟨k,who,wr,s,pos,dat⟩:=e
 have c2:=fun m me hm=>ev_impl_WorldDo m me hm w C ⟨1,who,wr,s,pos,dat⟩ (by dsimp only at hd ⊢;omega) (by simp)
 have c3:=fun m me hm=>ev_spec_WorldDo m me hm w C ⟨1,who,wr,s,pos,dat⟩ (by dsimp only at hd ⊢;omega)
 cases hc:eqI (worldDo w ⟨1,who,wr,s,pos,dat⟩).2.2 22
 ·simp only [rWS,evL] at c2 c3
  generalize worldDo w ⟨1,who,wr,s,pos,dat⟩=z at *
  rw [ev_fn Tryz.f3 rfl Tryz.func3 rfl rfl rfl (Nat.le_of_ble_eq_true rfl)]
  rcases hm with rfl | rfl | rfl<;>simp [e0,c1,c2,c3,hc]
 ·have hc0:=eqI_iff.1 hc
  have P:WorldP w:=by
   unfold worldDo at hc0
   cases hq:worldOk w
   ·rw [hq] at hc0;simp at hc0
   ·exact worldOk_iff.1 hq
  rw [P.doIs] at c2 c3 hc0
  obtain ⟨q1,q2,hf,hl,hi,h0,hs,hany⟩:=doW_held rfl hc0
  dsimp only at hl hi h0 hs hany
  rw [hc0,q1,q2] at c2 c3
  simp only [rWS,evL] at c2 c3
  have c4:=fun m m' hm hm'=>ev_impl_WorldSame m m' hm hm' w w C.toWorldB
  rw [sameWorld_self] at c4
  obtain ⟨i0,rfl⟩:∃ i0:Nat,who=i0:=⟨who.toNat,by omega⟩
  simp only [Int.toNat_natCast] at hl hi hany
  have w3:whoOk (i0:Int)=true:=by simp [whoOk,ltI];omega
  have lkx:lockOk w.locks=true:=lockOk_iff.2 P.lk
  have c5:=fun m m1 m2 m3 hm=>ev_impl_LockBars m m1 m2 m3 hm w.locks P.locksB.1 P.locksB.2 (i0:Int) wr s
  have eb:barsI w.locks (i0:Int) wr s=(lockBars w.locks i0 wr s).map fun k:Nat=>(k:Int):=by
   unfold barsI barsL
   rw [lkx,w3,hs]
   simp
  rw [eb] at c5
  have hbs:∀ b∈lockBars w.locks i0 wr s,b<3:=fun b hb=>(bars_mem.1 hb).1
  have hbl:(lockBars w.locks i0 wr s).length≤3:=by
   have:=List.length_filter_le (barsAt w.locks i0 wr s) (List.range 3)
   simpa [lockBars] using this
  have hag:=fun h=>held_again (i:=i0) (write:=wr) (s:=s) P h
  have hlv:=fun h=>evictsW_live (dead:=fun k=>!w.live k) (ks:=lockBars w.locks i0 wr s) P hbs h hi hl
  have hPy:=fun h=>(evicts_R (dead:=fun k=>!w.live k) (lockBars w.locks i0 wr s) P hbs h).1
  have hcnt:0<(lockBars w.locks i0 wr s).countP fun k=>!w.live k:=by
   rw [List.countP_pos_iff]
   simpa using hany
  have key:∀ (m my:M),m.isOwn=false→OwRo my→True:=fun _ _ _ _=>trivial
  generalize lockBars w.locks i0 wr s=bs at *
  have hl0:=fun m hm my hmy=>lp_FnWorldHeld m hm w P (evL ⟨1,i0,wr,s,pos,dat⟩) bs hbs hbl _ rfl bs.length 0 my w 0 (by omega) hmy P (by omega)
  simp only [List.drop_zero,Nat.zero_add] at hl0
  push_cast at hl0
  cases hev:(evictsW (fun k=>!w.live k) bs w).2
  ·simp only [hev,Bool.false_eq_true,if_false] at hl0
   rcases hm with rfl | rfl | rfl
   ·obtain ⟨my',_,hl⟩:=hl0 .ro rfl .ro (.inr (.inl rfl))
    rw [ev_fn Tryz.f3 rfl Tryz.func3 rfl rfl rfl (Nat.le_of_ble_eq_true rfl)]
    simp [e0,c1,c2,c3,c4,c5]
    simp only [intsL,List.map_map] at hl
    rw [loopC_at ?_ hl]
    ·simp
    ·rfl
   ·obtain ⟨my',_,hl⟩:=hl0 .ro rfl .ro (.inr (.inl rfl))
    rw [ev_fn Tryz.f3 rfl Tryz.func3 rfl rfl rfl (Nat.le_of_ble_eq_true rfl)]
    simp [e0,c1,c2,c3,c4,c5]
    simp only [intsL,List.map_map] at hl
    rw [loopC_at ?_ hl]
    ·simp
    ·rfl
   ·obtain ⟨my',_,hl⟩:=hl0 .ro rfl .ro (.inr (.inl rfl))
    rw [ev_fn Tryz.f3 rfl Tryz.func3 rfl rfl rfl (Nat.le_of_ble_eq_true rfl)]
    simp [e0,c1,c2,c3,c4,c5]
    simp only [intsL,List.map_map] at hl
    rw [loopC_at ?_ hl]
    ·simp
    ·rfl
  ·simp only [hev,if_true] at hl0
   have hne:=hag hev
   have hly:=hlv hev
   have Py:=hPy hev
   have c6:=fun m me hm=>ev_impl_WorldDo m me hm _ Py.wc ⟨1,i0,wr,s,pos,dat⟩ (by dsimp only at hd ⊢;omega) (by simp)
   rw [Py.doIs] at c6
   have hagain:=doW_again (w:=w) (y:=(evictsW (fun k=>!w.live k) bs w).1) (e:=⟨1,i0,wr,s,pos,dat⟩) rfl hf (by simpa using hly)
   have hcode:(doW (evictsW (fun k=>!w.live k) bs w).1 ⟨1,i0,wr,s,pos,dat⟩).2.2=0∨(doW (evictsW (fun k=>!w.live k) bs w).1 ⟨1,i0,wr,s,pos,dat⟩).2.2=24:=by
    rw [hagain]
    simp only [Int.toNat_natCast]
    have:=lockW_three (evictsW (fun k=>!w.live k) bs w).1 i0 wr s
    omega
   clear hagain
   simp only [rWS,evL] at c6
   generalize (evictsW (fun k=>!w.live k) bs w).1=y at *
   generalize doW y ⟨1,i0,wr,s,pos,dat⟩=z at *
   generalize bs.countP (fun k=>!w.live k)=cn at *
   have hcn:ltI 0 (cn:Int)=true:=by simp [ltI];omega
   have hz:eqI z.2.2 0=false→eqI z.2.2 24=true:=fun q=>by
    rw [eqI_iff]
    rcases hcode with r | r
    ·rw [r] at q;simp [eqI] at q
    ·exact r
   rcases hm with rfl | rfl | rfl
   ·obtain ⟨my',hmy',hl⟩:=hl0 .ro rfl .ro (.inr (.inl rfl))
    rw [ev_fn Tryz.f3 rfl Tryz.func3 rfl rfl rfl (Nat.le_of_ble_eq_true rfl)]
    cases e5:eqI z.2.2 0<;>rcases hmy' with rfl | rfl | rfl <;>
    ·simp [e0,c1,c2,c3,c4,c5]
     simp only [intsL,List.map_map] at hl
     rw [loopC_at ?_ hl]
     ·simp [c6,hcn,e5,hz]
     ·rfl
   ·obtain ⟨my',hmy',hl⟩:=hl0 .ro rfl .ro (.inr (.inl rfl))
    rw [ev_fn Tryz.f3 rfl Tryz.func3 rfl rfl rfl (Nat.le_of_ble_eq_true rfl)]
    cases e5:eqI z.2.2 0<;>rcases hmy' with rfl | rfl | rfl <;>
    ·simp [e0,c1,c2,c3,c4,c5]
     simp only [intsL,List.map_map] at hl
     rw [loopC_at ?_ hl]
     ·simp [c6,hcn,e5,hz]
     ·rfl
   ·obtain ⟨my',hmy',hl⟩:=hl0 .ro rfl .ro (.inr (.inl rfl))
    rw [ev_fn Tryz.f3 rfl Tryz.func3 rfl rfl rfl (Nat.le_of_ble_eq_true rfl)]
    cases e5:eqI z.2.2 0<;>rcases hmy' with rfl | rfl | rfl <;>
    ·simp [e0,c1,c2,c3,c4,c5]
     simp only [intsL,List.map_map] at hl
     rw [loopC_at ?_ hl]
     ·simp [c6,hcn,e5,hz]
     ·rfl
end Go.Ev

