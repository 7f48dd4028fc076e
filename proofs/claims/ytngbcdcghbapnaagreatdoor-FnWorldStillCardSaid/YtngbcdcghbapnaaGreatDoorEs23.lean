/- My texts joined: EvW7. No condition. -/
import Derived.Test.YtngbcdcghbapnaaGreatDoorEn18
set_option linter.unusedVariables false
set_option linter.unusedSimpArgs false

namespace Go.Ev
theorem see_congr {w x:WorldT} (ho:∀ i,i<3→x.own i=w.own i) (hb:∀ j,x.byte j=w.byte j) (j:Nat):x.see j=w.see j:=by
 unfold WorldT.see
 rw [ho 0 (by omega),ho 1 (by omega),ho 2 (by omega),hb]
theorem lockW_see {w:WorldT} {i:Nat} {write:Bool} {s:Sp} (hw:WorldP w) (hi:i<3) {j:Nat} (hj:j<48):(lockW w i write s).1.see j=w.see j:=by
 unfold lockW
 split
 ·rfl
 ·rename_i hd
  split
  ·rfl
  ·rename_i x hx
   split
   ·have hall:∀ k∈lockBars w.locks i write s,k<3∧w.live k=true:=fun k hk=>⟨(bars_mem.1 hk).1,by
     simp only [List.any_eq_true,Bool.not_eq_true',not_exists,not_and,Bool.not_eq_false] at hd
     exact hd k hk⟩
    have Y:=yieldsW_ok _ hw hall (bars_nodup _ _ _ _) hx
    rw [← Y.see hw hj]
    exact see_congr (fun _ _=>rfl) (fun _=>rfl) j
   ·rfl
theorem readW_fine {w:WorldT} {i:Nat} {s:Sp} (hw:WorldP w) (hi:i<3) (ha:w.live i=true) (h:(readW w i s).2.2=0):spOk s=true∧ReadR w i s (readW w i s).1 (readW w i s).2.1:=by
 have hok:=readW_ok (s:=s) hw hi ha
 unfold readW at h hok ⊢
 split at h
 ·rename_i hm
  split at h
  ·rename_i hf
   simp only [if_pos hm,if_pos hf] at hok ⊢
   obtain ⟨hfo,hoo,he⟩:=fillT1_ok hf
   obtain ⟨hsp,hxl⟩:=fillOk_of hfo
   have hp:=spOk_iff.1 hsp
   rw [lockMay_iff hp] at hm
   refine ⟨hsp,hok,fun k hk hne=>?_,?_,fun j=>?_,fun j hj=>?_,rfl,?_,hm⟩
   ·show (w.owns.set i _).getD k noO=_
    rw [own_set _ _ _ _ hw.owns hk,if_neg fun e=>hne e.symm]
   ·show ((w.owns.set i _).getD i noO).d=_
    rw [own_set _ _ _ _ hw.owns hi,if_pos rfl,he]
   ·show ((w.owns.set i _).getD i noO).t.getD j 0=_
    rw [own_set _ _ _ _ hw.owns hi,if_pos rfl,he]
    obtain ⟨lo,hi',rfl,h1,h2⟩:=nat_sp hp
    have ht:=(ownOk_bd (hw.own i hi)).1
    dsimp only at hxl ⊢
    have hn:((hi':Int) - (lo:Int)).toNat=hi' - lo:=by omega
    simp only [Int.toNat_natCast,hn]
    rw [fill_getD h1 h2 ht (by omega)]
    have hab:inSp j ((lo:Int),(hi':Int))=true↔lo≤j∧j<hi':=by rw [inSp_iff];dsimp only;omega
    by_cases hc:lo≤j∧j<hi'∧inF (w.own i).d j=false
    ·rw [if_pos hc,if_pos ⟨hab.2 ⟨hc.1,hc.2.1⟩,hc.2.2⟩,sub_getD (by omega),show lo+(j - lo)=j by omega,file_getD w (by omega)]
    ·rw [if_neg hc,if_neg fun q=>hc ⟨(hab.1 q.1).1,(hab.1 q.1).2,q.2⟩]
   ·show inF ((w.owns.set i _).getD i noO).h j=_
    rw [own_set _ _ _ _ hw.owns hi,if_pos rfl,he]
    exact addS_get _ _ j hj
   ·show _=subS ((w.owns.set i _).getD i noO).t s
    rw [own_set _ _ _ _ hw.owns hi,if_pos rfl]
  ·exact absurd h (by simp)
 ·exact absurd h (by simp)
theorem giveW_still {w:WorldT} {k:Int} (hw:WorldP w):(giveW w k).1.st=w.st∧(giveW w k).1.owns=w.owns∧(giveW w k).1.size=w.size∧(giveW w k).1.many=w.many:=by
 unfold giveW
 split
 ·exact ⟨rfl,rfl,rfl,rfl⟩
 ·rename_i hc
  simp only [Bool.or_eq_true,Bool.not_eq_true',not_or,Bool.not_eq_true,Bool.not_eq_false,ltI_not,ltI_iff] at hc
  have hlt:k.toNat<w.late.length:=by omega
  have hq:=hw.late (w.late.getD k.toNat ⟨0,0,0,0,0,[]⟩) (by
   rw [List.getD_eq_getElem?_getD,List.getElem?_eq_getElem hlt]
   exact List.getElem_mem hlt)
  rw [storeDo_late hq]
  exact ⟨rfl,rfl,rfl,rfl⟩
theorem see_of_parts {w x:WorldT} (h1:x.st.now=w.st.now) (h2:x.owns=w.owns) (h3:x.size=w.size) (h4:x.many=w.many) (j:Nat):x.see j=w.see j :=
 see_congr (fun i _=>by unfold WorldT.own;rw [h2]) (fun j=>by unfold WorldT.byte;rw [h1,h3,h4]) j
theorem still_see {w:WorldT} (hw:WorldP w) {e:EvT} (h3:e.kind≠3) (h7:e.kind≠7) (h8:e.kind≠8) {j:Nat} (hj:j<48):(doW w e).1.see j=w.see j:=by
 unfold doW
 split
 ·exact see_of_parts rfl rfl rfl rfl j
 ·split
  ·rw [hw.kept]
  ·split
   ·obtain ⟨a1,a2,a3,a4⟩:=giveW_still (k:=e.pos) hw
    exact see_of_parts (by rw [a1]) a2 a3 a4 j
   ·split
    ·rfl
    ·rename_i h5 h6 h9 hf
     obtain ⟨hi,_,_,k1,k9,hsp⟩:=form_who hf
     split
     ·rfl
     ·rename_i hl
      rw [Bool.not_eq_false] at hl
      unfold whoW
      split
      ·exact lockW_see hw hi hj
      ·split
       ·by_cases hc:(readW w e.who.toNat e.span).2.2=0
        ·exact (readW_fine hw hi hl hc).2.see hw hi hj
        ·have:(readW w e.who.toNat e.span).1=w:=by
          unfold readW at hc ⊢
          split
          ·rename_i a
           split
           ·rename_i b
            rw [if_pos a,if_pos b] at hc
            exact absurd rfl hc
           ·rfl
          ·rfl
         rw [this]
       ·split
        ·split
         ·rename_i x hx
          exact (flushW_ok hw hi hl hx).see hw hi hj
         ·rfl
        ·exact absurd (show e.kind=7 by omega) h7
end Go.Ev

