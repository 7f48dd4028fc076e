/- My texts joined: EvT113. No condition. -/
import Derived.Test.YtngbcdcghbapnaaGreatDoorEs2
import Derived.Test.YtngbcdcghbapnaaGreatDoorEs7
import Derived.Test.YtngbcdcghbapnaaGreatDoorEs15
set_option linter.unusedVariables false
set_option linter.unusedSimpArgs false

set_option maxRecDepth 100000
set_option maxHeartbeats 8000000
namespace Go.Ev
open Go.Proofs
theorem ev_impl_WorldDoR (w:WorldT) (C:WorldC w) (e:EvT) (hd:e.data.length≤4000000) :
  ∃ mz,(mz=.own∨mz=.ro)∧∀ m me,m.isOwn=false→ev E 16 [.v m true (worldL w),.v me true (evL e)]=some (rWS mz (worldDo w e).1 (worldDo w e).2.1 (worldDo w e).2.2):=by
 by_cases k9:e.kind=9
 ·have c1:=fun m hm=>ev_impl_WorldOk m hm w C
  have c2:=fun m hm=>ev_anew m hm w C
  unfold worldDo
  cases e1:worldOk w
  ·rw [e1] at c1
   refine ⟨.own,.inl rfl,fun m me hm=>?_⟩
   rw [ev_fn Tryz.f16 rfl Tryz.func16 rfl rfl rfl (Nat.le_of_ble_eq_true rfl)]
   simp [c1,hm,rWS,noW,noS]
  ·rw [e1] at c1
   have P:=worldOk_iff.1 e1
   simp only [if_true]
   have c3:=fun me=>ev_give me w P e k9
   have hdo:doW w e=((giveW w e.pos).1,[],(giveW w e.pos).2):=by unfold doW;rw [if_neg (by omega),if_neg (by omega),if_pos k9]
   have hful:=doW_full (w:=w) (e:=e)
   rw [hdo] at hful ⊢
   dsimp only at hful ⊢
   generalize giveW w e.pos=z at *
   obtain ⟨x,c⟩:=z
   dsimp only at c3 hful ⊢
   obtain ⟨mz,hmz,c4⟩:=c3 .ro
   cases e2:ltI c 20
   ·obtain ⟨q1,_⟩:=hful (ltI_not.1 e2)
    subst q1
    refine ⟨.own,.inl rfl,fun m me hm=>?_⟩
    rw [ev_fn Tryz.f16 rfl Tryz.func16 rfl rfl rfl (Nat.le_of_ble_eq_true rfl)]
    rcases hmz with rfl | rfl<;>simp [c1,c2,c4,e2,hm,rWS]
   ·refine ⟨mz,hmz,fun m me hm=>?_⟩
    rw [ev_fn Tryz.f16 rfl Tryz.func16 rfl rfl rfl (Nat.le_of_ble_eq_true rfl)]
    rcases hmz with rfl | rfl<;>simp [c1,c2,c4,e2,hm,rWS]
 ·exact ⟨.own,.inl rfl,fun m me hm=>ev_impl_WorldDo m me hm w C e hd k9⟩
end Go.Ev

