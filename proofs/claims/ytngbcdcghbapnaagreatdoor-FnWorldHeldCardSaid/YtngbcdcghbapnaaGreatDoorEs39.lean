/- My texts joined: EvW13. No condition. -/
import Derived.Test.YtngbcdcghbapnaaGreatDoorEn20
set_option linter.unusedVariables false
set_option linter.unusedSimpArgs false

namespace Go.Ev
theorem doW_held {w:WorldT} {e:EvT} (hk:e.kind=1) (h:(doW w e).2.2=22):(doW w e).1=w∧(doW w e).2.1=[]∧formEv e=false∧w.live e.who.toNat=true∧e.who.toNat<3∧0≤e.who∧spOk e.span=true∧((lockBars w.locks e.who.toNat e.write e.span).any fun k=>!w.live k)=true:=by
 obtain ⟨g1,g2⟩:=doW_full (w:=w) (e:=e) (by omega)
 refine ⟨g1,g2,?_⟩
 unfold doW at h
 rw [if_neg (by omega),if_neg (by omega),if_neg (by omega)] at h
 by_cases hf:formEv e=true
 ·rw [if_pos hf] at h;simp at h
 rw [if_neg hf,if_neg (by omega)] at h
 by_cases hl:w.live e.who.toNat=false
 ·rw [if_pos hl] at h;simp at h
 rw [if_neg hl] at h
 obtain ⟨hi,h0,h3,_,_,hs⟩:=form_who hf
 unfold whoW at h
 rw [if_pos hk] at h
 dsimp only at h
 refine ⟨by simpa using hf,by simpa using hl,hi,h0,hs (.inl hk),?_⟩
 unfold lockW at h
 split at h
 ·assumption
 ·split at h
  ·simp at h
  ·split at h<;>simp at h
theorem evictsW_live {w:WorldT} {dead:Nat→Bool} {ks:List Nat} (hw:WorldP w) (hk:∀ k∈ks,k<3) (h:(evictsW dead ks w).2=true) {i:Nat} (hi:i<3) (hl:w.live i=true):(evictsW dead ks w).1.live i=true:=by
 obtain ⟨g1,g2⟩:=evicts_R (dead:=dead) ks hw hk h
 obtain ⟨a1,a2,_⟩:=g2 i hi
 by_cases hm:i∈ks
 ·cases hd:dead i
  ·rw [(a2 (.inr hd)).2];exact hl
  ·exact (a1 hm hd).2
 ·rw [(a2 (.inl hm)).2];exact hl
theorem lockW_three (w:WorldT) (i:Nat) (write:Bool) (s:Sp):(lockW w i write s).2=0∨(lockW w i write s).2=22∨(lockW w i write s).2=24:=by
 unfold lockW
 split
 ·simp
 ·split
  ·simp
  ·split<;>simp
theorem doW_again {w y:WorldT} {e:EvT} (hk:e.kind=1) (hf:formEv e=false) (hl:y.live e.who.toNat=true):(doW y e).2.2=(lockW y e.who.toNat e.write e.span).2:=by
 unfold doW
 rw [if_neg (by omega),if_neg (by omega),if_neg (by omega),hf,if_neg (by simp),if_neg (by omega),hl,if_neg (by simp)]
 unfold whoW
 rw [if_pos hk]
end Go.Ev

