/- My texts joined: EvW5, EvW6, EvW7, EvW8, EvW9, EvQ1, EvT51. No condition. -/
import Derived.Test.YtikmfpdfippjhaaGreatDoorEn8
import Derived.Test.YtikmfpdfippjhaaGreatDoorEn9
import Derived.Test.YtikmfpdfippjhaaGreatDoorEn10
set_option linter.unusedVariables false
set_option linter.unusedSimpArgs false

namespace Go.Ev
structure YieldsR (w:WorldT) (ks:List Nat) (write:Bool) (s:Sp) (x:WorldT):Prop where
  ok:WorldP x
  size:x.size=w.size
  many:x.many=w.many
  epochs:x.epochs=w.epochs
  alive:x.alive=w.alive
  late:x.late=w.late
  lock:∀ q,q<3→q ∉ ks→x.lock q=w.lock q
  own:∀ q,q<3→q ∉ ks→x.own q=w.own q
  dirty:∀ q,q<3→q∈ks→∀ j,j<48→inF (x.own q).d j=(!inSp j s&&inF (w.own q).d j)
  text:∀ q,q<3→∀ j,inF (x.own q).d j=true→(x.own q).t.getD j 0=(w.own q).t.getD j 0
  byte:∀ j,x.byte j=w.byte j∨∃ q,q<3∧q∈ks∧inSp j s=true∧inF (w.own q).d j=true∧x.byte j=(w.own q).t.getD j 0
  put:∀ q,q<3→q∈ks→∀ j:Nat,j<48→inSp j s=true→inF (w.own q).d j=true→x.byte j=(w.own q).t.getD j 0
  lw:∀ q,q<3→q∈ks→∀ j,j<48→inF (x.lock q).w j=(!inSp j s&&inF (w.lock q).w j)
  lr:write=true→∀ q,q<3→q∈ks→∀ j,j<48→inF (x.lock q).r j=(!inSp j s&&inF (w.lock q).r j)
  lr2:∀ q,q<3→∀ j,j<48→inF (x.lock q).r j=true→inF (w.lock q).r j=true∨inF (w.lock q).w j=true
  floors:x.st.floors=w.st.floors
theorem yieldsW_ok {write:Bool} {s:Sp}:∀ (ks:List Nat) {w x:WorldT},WorldP w→(∀ k∈ks,k<3∧w.live k=true)→ks.Nodup→yieldsW write s ks w=some x→YieldsR w ks write s x
  | [],w,x,hw,_,_,h=>by
    simp only [yieldsW,Option.some.injEq] at h
    subst h
    exact ⟨hw,rfl,rfl,rfl,rfl,rfl,fun _ _ _=>rfl,fun _ _ _=>rfl,fun _ _ h=>absurd h (by simp),fun _ _ _ _=>rfl,fun _=>.inl rfl,fun _ _ h=>absurd h (by simp),fun _ _ h=>absurd h (by simp),fun _ _ _ h=>absurd h (by simp),fun _ _ _ _ h=>.inl h,rfl⟩
  | k::ks,w,x,hw,hk,hnd,h=>by
    simp only [yieldsW] at h
    split at h<;>try (cases h;done)
    rename_i y hy
    obtain ⟨hk3,hka⟩:=hk k (by simp)
    have Y:=yieldW_ok hw hk3 hka hy
    have hnk:=(List.nodup_cons.1 hnd).1
    have X:=yieldsW_ok ks Y.ok (fun q hq=>⟨(hk q (by simp [hq])).1,by have:=(hk q (by simp [hq])).2;unfold WorldT.live at this ⊢;rw [Y.alive];exact this⟩) (List.nodup_cons.1 hnd).2 h
    refine ⟨X.ok,X.size.trans Y.size,X.many.trans Y.many,X.epochs.trans Y.epochs,X.alive.trans Y.alive,X.late.trans Y.late,fun q hq hn=>?_,fun q hq hn=>?_,fun q hq hm j hj=>?_,fun q hq j hj=>?_,fun j=>?_,fun q hq hm j hj hs hd=>?_,fun q hq hm j hj=>?_,fun hwr q hq hm j hj=>?_,fun q hq j hj hh=>?_,X.floors.trans Y.floors⟩
    · simp only [List.mem_cons,not_or] at hn
      rw [X.lock q hq hn.2,Y.lock q hq hn.1]
    · simp only [List.mem_cons,not_or] at hn
      rw [X.own q hq hn.2,Y.own q hq hn.1]
    · rcases List.mem_cons.1 hm with rfl | hm
      · rw [X.own q hq hnk];exact Y.dirty j hj
      · have hne:q≠k:=fun e=>hnk (e ▸ hm)
        rw [X.dirty q hq hm j hj,Y.own q hq hne]
    · rw [X.text q hq j hj]
      by_cases hqk:q=k
      · subst hqk
        rw [X.own q hq hnk] at hj
        exact Y.text j hj
      · rw [Y.own q hq hqk]
    · have hy:=Y.byte j
      rcases X.byte j with e | ⟨q,hq,hm,h1,h2,h3⟩
      · rw [e,hy]
        by_cases hc:(inSp j s&&inF (w.own k).d j)=true
        · rw [if_pos hc]
          rw [Bool.and_eq_true] at hc
          exact .inr ⟨k,hk3,by simp,hc.1,hc.2,rfl⟩
        · rw [if_neg hc];exact .inl rfl
      · have hne:q≠k:=fun e=>hnk (e ▸ hm)
        rw [Y.own q hq hne] at h2 h3
        exact .inr ⟨q,hq,by simp [hm],h1,h2,h3⟩
    · rcases List.mem_cons.1 hm with rfl | hm
      · have hy:=Y.byte j
        rw [hs,hd] at hy
        simp only [Bool.and_self,if_true] at hy
        rcases X.byte j with e | ⟨p,hp,hpm,_,h2,_⟩
        · rw [e,hy]
        · have hne:p≠q:=fun e=>hnk (e ▸ hpm)
          rw [Y.own p hp hne] at h2
          have:=ownOk_have (hw.own p hp) hj h2
          rw [hw.sole hq hp hne hj hd] at this
          cases this
      · have hne:q≠k:=fun e=>hnk (e ▸ hm)
        have:=X.put q hq hm j hj hs (by rw [Y.own q hq hne];exact hd)
        rw [this,Y.own q hq hne]
    · rcases List.mem_cons.1 hm with rfl | hm
      · rw [X.lock q hq hnk];exact Y.lw j hj
      · have hne:q≠k:=fun e=>hnk (e ▸ hm)
        rw [X.lw q hq hm j hj,Y.lock q hq hne]
    · rcases List.mem_cons.1 hm with rfl | hm
      · rw [X.lock q hq hnk];exact Y.lr j hj hwr
      · have hne:q≠k:=fun e=>hnk (e ▸ hm)
        rw [X.lr hwr q hq hm j hj,Y.lock q hq hne]
    · by_cases hqk:q=k
      · subst hqk
        rw [X.lock q hq hnk] at hh
        exact Y.lr2 j hj hh
      · have:=X.lr2 q hq j hj hh
        rw [Y.lock q hq hqk] at this
        exact this
theorem bars_mem {t:List HoldT} {i k:Nat} {write:Bool} {s:Sp}:k∈lockBars t i write s↔k<3∧barsAt t i write s k=true:=by
  simp [lockBars]
theorem bars_nodup (t:List HoldT) (i:Nat) (write:Bool) (s:Sp):(lockBars t i write s).Nodup:=by
  unfold lockBars
  exact List.Nodup.sublist List.filter_sublist List.nodup_range
theorem give_ok {x:WorldT} {i:Nat} {write:Bool} {s:Sp} (hx:WorldP x) (hi:i<3) (ha:x.live i=true) (h:(lockGive x.locks i write s).2=true) :
    WorldP { x with locks:=(lockGive x.locks i write s).1 } ∧
    (lockGive x.locks i write s).1=x.locks.set i (if write=true then ⟨cutS (x.lock i).r s,addS (x.lock i).w s⟩ else ⟨ofL (fun j=>(inSp j s || inF (x.lock i).r j)&&!inF (x.lock i).w j) 48 0 [],(x.lock i).w⟩):=by
  unfold lockGive at h ⊢
  cases hwr:write
  · rw [hwr] at h
    simp only [Bool.false_eq_true,if_false] at h ⊢
    obtain ⟨hl,hle⟩:=putL_ok h
    refine ⟨?_,hle⟩
    rw [hle]
    have W:=hx.turn hi (x.own i) _ hl (hx.own i hi) ha (fun j hj hh=>by
      have:=hx.held i hi j hj hh
      refine ⟨?_,this.2⟩
      dsimp only
      rw [of_get _ hj]
      change inF (x.lock i).w j=true∨inF (x.own i).d j=false∧((inSp j s || inF (x.lock i).r j)&&!inF (x.lock i).w j)=true
      rcases this.1 with q | ⟨q1,q2⟩
      · exact .inl q
      · refine .inr ⟨q1,?_⟩
        have:inF (x.lock i).w j=false:=by
          rw [← Bool.not_eq_true]
          exact fun hw=>hx.lk.rw i hi j ⟨q2,hw⟩
        rw [q2,this];simp)
    rwa [own_self x hx.owns hi] at W
  · rw [hwr] at h
    simp only [if_true] at h ⊢
    obtain ⟨hl,hle⟩:=putL_ok h
    refine ⟨?_,hle⟩
    rw [hle]
    have W:=hx.turn hi (x.own i) _ hl (hx.own i hi) ha (fun j hj hh=>by
      have:=hx.held i hi j hj hh
      refine ⟨?_,this.2⟩
      dsimp only
      rw [cutS_get _ s j hj,addS_get _ s j hj]
      change (inSp j s || inF (x.lock i).w j)=true∨inF (x.own i).d j=false∧(!inSp j s&&inF (x.lock i).r j)=true
      rcases this.1 with q | ⟨q1,q2⟩
      · left;rw [q];simp
      · cases e:inSp j s
        · right;exact ⟨q1,by rw [q2];rfl⟩
        · left;rfl)
    rwa [own_self x hx.owns hi] at W
theorem lockW_ok {w:WorldT} {i:Nat} {write:Bool} {s:Sp} (hw:WorldP w) (hi:i<3) (ha:w.live i=true):WorldP (lockW w i write s).1:=by
  unfold lockW
  split
  · exact hw
  · rename_i hd
    split
    · exact hw
    · rename_i x hx
      split
      · rename_i hg
        have hall:∀ k∈lockBars w.locks i write s,k<3∧w.live k=true:=fun k hk=>⟨(bars_mem.1 hk).1,by
          simp only [List.any_eq_true,Bool.not_eq_true',not_exists,not_and,Bool.not_eq_false] at hd
          exact hd k hk⟩
        have Y:=yieldsW_ok _ hw hall (bars_nodup _ _ _ _) hx
        exact (give_ok Y.ok hi (by unfold WorldT.live at ha ⊢;rw [Y.alive];exact ha) hg).1
      · exact hw
theorem lockMay_iff {h:HoldT} {write:Bool} {s:Sp} (hs:0≤s.1∧s.1<s.2∧s.2≤48):lockMay h write s=true↔∀ j:Nat,inSp j s=true→mayAt h write j=true:=by
  rw [lockMay,allTo_iff]
  constructor
  · intro g j hj
    rw [inSp_iff] at hj
    exact g j (by omega) (by omega)
  · intro g j h1 h2
    exact g j (inSp_iff.2 (by omega))
theorem file_get (w:WorldT) {j:Nat} (hj:j<48):w.file[j]?=some (w.byte j):=by
  simp [WorldT.file,hj]
theorem file_len (w:WorldT):w.file.length=48:=by simp [WorldT.file]
theorem fillOk_of {p:Sp} {x:Bs} (h:fillOk p x=true):spOk p=true∧x.length=p.2 - p.1:=by
  simp only [fillOk,Bool.and_eq_true,eqI_iff] at h
  exact ⟨h.1.1,h.2⟩
theorem fill_getD {o:OwnT} {lo hi:Nat} {x:Bs} (h1:lo<hi) (h2:hi≤48) (ht:o.t.length=48) (hx:x.length=hi - lo) (j:Nat):(fillT o.d x lo (hi - lo) lo o.t).getD j 0=if lo≤j∧j<hi∧inF o.d j=false then x.getD (j - lo) 0 else o.t.getD j 0:=by
  rw [List.getD_eq_getElem?_getD,fillT_get o.d x lo hi (by omega) h2 hx (hi - lo) lo o.t j (by omega) (by omega) ht]
  by_cases hc:lo≤j∧j<lo+(hi - lo)
  · rw [if_pos hc]
    cases e:inF o.d j
    · rw [if_neg (by simp),if_pos ⟨hc.1,by omega,rfl⟩,List.getD_eq_getElem?_getD]
    · rw [if_pos rfl,if_neg (by simp),List.getD_eq_getElem?_getD]
  · rw [if_neg hc,if_neg (by omega),List.getD_eq_getElem?_getD]
theorem over_getD {t x:Bs} {lo:Nat} (ht:lo+x.length≤t.length) (j:Nat):(overS t ((lo:Int),(lo:Int)+x.length) x).getD j 0=if lo≤j∧j<lo+x.length then x.getD (j - lo) 0 else t.getD j 0:=by
  have:=overS_get t x lo (lo+x.length) (by omega) ht (by omega) j
  push_cast at this
  rw [List.getD_eq_getElem?_getD,this]
  split<;>rw [List.getD_eq_getElem?_getD]
theorem sub_getD {t:Bs} {lo hi j:Nat} (h:j<hi - lo) (d:UInt8):(subS t ((lo:Int),(hi:Int))).getD j d=t.getD (lo+j) d:=by
  rw [List.getD_eq_getElem?_getD,subS_get t lo hi j (by omega),List.getD_eq_getElem?_getD]
theorem file_getD (w:WorldT) {j:Nat} (hj:j<48) (d:UInt8):w.file.getD j d=w.byte j:=by
  rw [List.getD_eq_getElem?_getD,file_get w hj];rfl
theorem readW_ok {w:WorldT} {i:Nat} {s:Sp} (hw:WorldP w) (hi:i<3) (ha:w.live i=true):WorldP (readW w i s).1:=by
  unfold readW
  split
  · rename_i hm
    split
    · rename_i hf
      obtain ⟨hfo,hok,he⟩:=fillT1_ok hf
      obtain ⟨hsp,hxl⟩:=fillOk_of hfo
      have hp:=spOk_iff.1 hsp
      rw [lockMay_iff hp] at hm
      obtain ⟨lo,hi',rfl,h1,h2⟩:=nat_sp hp
      have ht:=(ownOk_bd (hw.own i hi)).1
      rw [he] at hok ⊢
      dsimp only at hxl
      have hn:((hi':Int) - (lo:Int)).toNat=hi' - lo:=by omega
      simp only [Int.toNat_natCast,hn] at hok ⊢
      have W:=hw.turn hi ⟨fillT (w.own i).d (subS w.file ((lo:Int),(hi':Int))) lo (hi' - lo) lo (w.own i).t,addS (w.own i).h ((lo:Int),(hi':Int)),(w.own i).d⟩ (w.lock i) (by rw [lock_self w hw.lk.len hi];exact hw.lk) hok ha (fun j hj hh=>by
        dsimp only at hh ⊢
        rw [addS_get _ _ j hj,Bool.or_eq_true] at hh
        rw [fill_getD h1 h2 ht (by omega)]
        have hab:inSp j ((lo:Int),(hi':Int))=true↔lo≤j∧j<hi':=by rw [inSp_iff];dsimp only;omega
        by_cases hc:lo≤j∧j<hi'
        · have hmj:=hm j (hab.2 hc)
          cases e:inF (w.own i).d j
          · rw [if_pos ⟨hc.1,hc.2,rfl⟩,sub_getD (by omega),show lo+(j - lo)=j by omega,file_getD w hj]
            simp only [mayAt,Bool.not_false,Bool.true_and,Bool.or_eq_true] at hmj
            exact ⟨hmj.imp id fun q=>⟨rfl,q⟩,.inr rfl⟩
          · have:=hw.held i hi j hj (ownOk_have (hw.own i hi) hj e)
            rw [e] at this
            exact ⟨by simpa using this.1,.inl rfl⟩
        · have hf2:inSp j ((lo:Int),(hi':Int))=false:=by rw [← Bool.not_eq_true,hab];exact hc
          rw [hf2] at hh
          rw [if_neg (fun q=>hc ⟨q.1,q.2.1⟩)]
          exact hw.held i hi j hj (by simpa using hh))
      rwa [lock_self w hw.lk.len hi] at W
    · exact hw
  · exact hw
theorem writeW_ok {w:WorldT} {i:Nat} {k:Int} {x:Bs} (hw:WorldP w) (hi:i<3) (ha:w.live i=true):WorldP (writeW w i k x).1:=by
  unfold writeW
  split
  · rename_i hwr
    split
    · rename_i hm
      split
      · rename_i hf
        obtain ⟨_,hok,he⟩:=writeT1_ok hf
        obtain ⟨g1,g2,g3,g4⟩:=wrOk_len hwr
        obtain ⟨lo,rfl⟩:∃ lo:Nat,k=lo:=⟨k.toNat,by omega⟩
        have hp:0≤((lo:Int),(lo:Int)+x.length).1∧((lo:Int),(lo:Int)+x.length).1<((lo:Int),(lo:Int)+x.length).2∧((lo:Int),(lo:Int)+x.length).2≤48:=by dsimp only;omega
        rw [lockMay_iff hp] at hm
        have ht:=(ownOk_bd (hw.own i hi)).1
        rw [he] at hok ⊢
        have W:=hw.turn hi _ (w.lock i) (by rw [lock_self w hw.lk.len hi];exact hw.lk) hok ha (fun j hj hh=>by
          dsimp only at hh ⊢
          rw [addS_get _ _ j hj,Bool.or_eq_true] at hh
          rw [addS_get _ _ j hj,over_getD (by omega)]
          have hab:inSp j ((lo:Int),(lo:Int)+x.length)=true↔lo≤j∧j<lo+x.length:=by rw [inSp_iff];dsimp only;omega
          by_cases hc:lo≤j∧j<lo+x.length
          · have hmj:=hm j (hab.2 hc)
            rw [hab.2 hc]
            simp only [mayAt,Bool.not_true,Bool.false_and,Bool.or_false] at hmj
            exact ⟨.inl hmj,.inl rfl⟩
          · have hf2:inSp j ((lo:Int),(lo:Int)+x.length)=false:=by rw [← Bool.not_eq_true,hab];exact hc
            rw [hf2] at hh ⊢
            rw [if_neg hc]
            simpa using hw.held i hi j hj (by simpa using hh))
        rwa [lock_self w hw.lk.len hi] at W
      · exact hw
    · exact hw
  · exact hw
theorem dieW_ok {w:WorldT} {i:Nat} (hw:WorldP w) (hi:i<3):WorldP (dieW w i):=by
  have hown:∀ k,k<3→(w.owns.set i noO).getD k noO=if i=k then noO else w.own k:=fun k hk=>own_set w i k _ hw.owns hk
  refine ⟨hw.lay,hw.st,hw.lk,by simpa [dieW] using hw.owns,hw.epochs,by simpa [dieW] using hw.alive,hw.lateN,fun k hk=>?_,hw.ep,fun k hk hd=>?_,hw.kept,hw.keptE,hw.late,fun k hk j hj hhv=>?_⟩
  · show OwnT.ok ((w.owns.set i noO).getD k noO)=true
    rw [hown k hk]
    split
    · exact noO_ok
    · exact hw.own k hk
  · show (w.owns.set i noO).getD k noO=noO
    rw [hown k hk]
    by_cases e:i=k
    · rw [if_pos e]
    · rw [if_neg e]
      refine hw.dead k hk ?_
      change (w.alive.set i false).getD k false=false at hd
      rw [getD_set,if_neg (fun q=>e q.1)] at hd
      exact hd
  · change inF ((w.owns.set i noO).getD k noO).h j=true at hhv
    show (inF (w.lock k).w j=true∨(inF ((w.owns.set i noO).getD k noO).d j=false∧inF (w.lock k).r j=true))∧(inF ((w.owns.set i noO).getD k noO).d j=true∨((w.owns.set i noO).getD k noO).t.getD j 0=w.byte j)
    rw [hown k hk] at hhv ⊢
    by_cases e:i=k
    · rw [if_pos e] at hhv;cases hhv
    · rw [if_neg e] at hhv ⊢
      exact hw.held k hk j hj hhv
theorem addLate_ok (late0:List ReqT) (P:ReqT→Prop):∀ (qs late:List ReqT),(∀ q∈late,P q)→(∀ q∈qs,reqOk q=true→P q)→late.length≤8→(∀ q∈addLate late qs,P q)∧(addLate late qs).length≤8
  | [],late,h1,_,h3=>⟨h1,h3⟩
  | q::qs,late,h1,h2,h3=>by
    rw [addLate]
    split
    · rename_i hc
      rw [Bool.and_eq_true,ltI_iff] at hc
      refine addLate_ok late0 P qs _ (fun r hr=>?_) (fun r hr=>h2 r (by simp [hr])) (by simp;omega)
      rcases List.mem_append.1 hr with hr | hr
      · exact h1 r hr
      · rw [List.mem_singleton] at hr
        subst hr
        exact h2 r (by simp) hc.1
    · exact addLate_ok late0 P qs late h1 (fun r hr=>h2 r (by simp [hr])) h3
theorem noH_ok {t:List HoldT} (h:LockP t) (i:Nat):LockP (t.set i noH):=by
  have g:∀ k,k<3→(t.set i noH).getD k noH=if i=k then noH else t.getD k noH:=fun k hk=>lock_set t i k _ h.len hk
  have n1:∀ j,inF noH.r j=false:=fun _=>rfl
  have n2:∀ j,inF noH.w j=false:=fun _=>rfl
  refine ⟨by simpa using h.len,fun k hk=>?_,fun k hk=>?_,fun k hk=>?_,fun k q hk hq hne=>?_,fun k q hk hq hne=>?_⟩
  · rw [g k hk];split;· rfl
    exact h.r k hk
  · rw [g k hk];split;· rfl
    exact h.w k hk
  · rw [g k hk];split
    · intro j hj;rw [n1] at hj;cases hj.1
    · exact h.rw k hk
  · rw [g k hk,g q hq]
    intro j hj
    by_cases e1:i=k
    · rw [if_pos e1,n2] at hj;cases hj.1
    · by_cases e2:i=q
      · rw [if_pos e2,n2] at hj;cases hj.2
      · rw [if_neg e1,if_neg e2] at hj;exact h.ww k q hk hq hne j hj
  · rw [g k hk,g q hq]
    intro j hj
    by_cases e1:i=k
    · rw [if_pos e1,n2] at hj;cases hj.1
    · by_cases e2:i=q
      · rw [if_pos e2,n1] at hj;cases hj.2
      · rw [if_neg e1,if_neg e2] at hj;exact h.wr k q hk hq hne j hj
theorem sync_ok {s:StoreT} (h:StoreP s):StoreP (storeSync s) :=
  ⟨h.now,h.nowT,h.now,h.nowT,h.last,h.last,h.floors,fun i hi=>by have:=h.nums i hi;simp only [storeSync];omega⟩
theorem evictW_ok {w:WorldT} {i:Nat} (hw:WorldP w) (hi:i<3):WorldP (evictW w i).1:=by
  unfold evictW
  split
  · rename_i he
    rw [ltI_iff] at he
    have hep:=hw.ep i hi
    have hf0:=(hw.st.nums i hi).2.2.2
    have hown:∀ k,k<3→(w.owns.set i noO).getD k noO=if i=k then noO else w.own k:=fun k hk=>own_set w i k _ hw.owns hk
    have hlk:∀ k,k<3→(w.locks.set i noH).getD k noH=if i=k then noH else w.lock k:=fun k hk=>lock_set w.locks i k _ hw.lk.len hk
    have hmx:maxI (w.st.floors.getD i 0) (w.ep i+1)=w.ep i+1:=by simp only [maxI,ltI,decide_eq_true_eq];split<;>omega
    have hfl:∀ k,(storeFence (storeSync w.st) i (w.ep i+1)).floors.getD k 0=if i=k∧k<3 then w.ep i+1 else w.st.floors.getD k 0:=fun k=>by
      show (w.st.floors.set i (maxI (w.st.floors.getD i 0) (w.ep i+1))).getD k 0=_
      rw [getD_set,hmx,hw.st.floors]
    have hepk:∀ k,(w.epochs.set i (w.ep i+1)).getD k 0=if i=k∧k<3 then w.ep i+1 else w.ep k:=fun k=>by
      rw [getD_set,hw.epochs];rfl
    have hS:=sync_ok hw.st
    have hst:StoreP (storeFence (storeSync w.st) i (w.ep i+1)):=⟨hS.now,hS.nowT,hS.sure,hS.sureT,hS.last,hS.slast,by simpa [storeFence] using hS.floors,fun k hk=>by
      have:=hS.nums k hk
      rw [hfl k]
      refine ⟨this.1,this.2.1,this.2.2.1,?_⟩
      split
      · omega
      · exact this.2.2.2⟩
    have hlate:=addLate_ok [] (fun q=>ReqP q∧q.epoch<(storeFence (storeSync w.st) i (w.ep i+1)).floors.getD q.who.toNat 0) (w.reqs i whole) w.late (fun q hq=>by
      obtain ⟨a1,a2⟩:=hw.late q hq
      refine ⟨a1,?_⟩
      rw [hfl]
      split
      · rename_i e
        rw [← e.1] at a2
        omega
      · exact a2) (fun q hq hr=>by
      have a1:=reqOk_iff.1 hr
      obtain ⟨b1,b2⟩:=reqsAll_who _ _ _ _ _ _ q hq
      refine ⟨a1,?_⟩
      rw [hfl,b1,b2]
      simp only [Int.toNat_natCast,true_and]
      rw [if_pos hi]
      show w.ep i<_
      omega) hw.lateN
    refine ⟨hw.lay,hst,noH_ok hw.lk i,by simpa using hw.owns,by simpa using hw.epochs,by simpa using hw.alive,hlate.2,fun k hk=>?_,fun k hk=>?_,fun k hk hd=>?_,rfl,by simp,hlate.1,fun k hk j hj hhv=>?_⟩
    · show OwnT.ok ((w.owns.set i noO).getD k noO)=true
      rw [hown k hk]
      split
      · exact noO_ok
      · exact hw.own k hk
    · show (storeFence (storeSync w.st) i (w.ep i+1)).floors.getD k 0≤(w.epochs.set i (w.ep i+1)).getD k 0∧(w.epochs.set i (w.ep i+1)).getD k 0≤100
      rw [hfl,hepk]
      split
      · omega
      · exact hw.ep k hk
    · show (w.owns.set i noO).getD k noO=noO
      rw [hown k hk]
      by_cases e:i=k
      · rw [if_pos e]
      · rw [if_neg e]
        refine hw.dead k hk ?_
        change (w.alive.set i true).getD k false=false at hd
        rw [getD_set,if_neg (fun q=>e q.1)] at hd
        exact hd
    · change inF ((w.owns.set i noO).getD k noO).h j=true at hhv
      show (inF ((w.locks.set i noH).getD k noH).w j=true∨(inF ((w.owns.set i noO).getD k noO).d j=false∧inF ((w.locks.set i noH).getD k noH).r j=true))∧(inF ((w.owns.set i noO).getD k noO).d j=true∨((w.owns.set i noO).getD k noO).t.getD j 0=w.byte j)
      rw [hown k hk] at hhv ⊢
      rw [hlk k hk]
      by_cases e:i=k
      · rw [if_pos e] at hhv;cases hhv
      · rw [if_neg e] at hhv ⊢
        rw [if_neg e]
        exact hw.held k hk j hj hhv
  · exact hw
theorem storeDo_late {s:StoreT} {q:ReqT} (h:ReqP q∧q.epoch<s.floors.getD q.who.toNat 0):storeDo s q=(s,2):=by
  unfold storeDo
  rw [if_pos (reqOk_iff.2 h.1),if_pos (ltI_iff.2 h.2)]
theorem giveW_ok {w:WorldT} {k:Int} (hw:WorldP w):WorldP (giveW w k).1:=by
  unfold giveW
  split
  · exact hw
  · rename_i hc
    simp only [Bool.or_eq_true,Bool.not_eq_true',not_or,Bool.not_eq_true,Bool.not_eq_false,ltI_not,ltI_iff] at hc
    have hlt:k.toNat<w.late.length:=by omega
    have hq:=hw.late (w.late.getD k.toNat ⟨0,0,0,0,0,[]⟩) (by
      rw [List.getD_eq_getElem?_getD,List.getElem?_eq_getElem hlt]
      exact List.getElem_mem hlt)
    rw [storeDo_late hq]
    have hlen:=hw.lateN
    refine { hw with lateN:=?_,late:=fun q hq=>hw.late q ?_ }
    · simp;omega
    · rcases List.mem_append.1 hq with hq | hq
      · exact List.mem_of_mem_take hq
      · exact List.mem_of_mem_drop hq
theorem doW_ok {w:WorldT} (hw:WorldP w) (e:EvT):WorldP (doW w e).1:=by
  unfold doW
  split
  · have hS:=sync_ok hw.st
    exact { hw with st:=hS,kept:=rfl,keptE:=by simp,ep:=hw.ep,late:=hw.late,held:=hw.held }
  · split
    · rw [hw.kept];exact hw
    · split
      · exact giveW_ok hw
      · split
        · exact hw
        · rename_i hf
          simp only [formEv,Bool.or_eq_true,not_or,Bool.not_eq_true,Bool.not_eq_true',Bool.not_eq_false,whoOk,Bool.and_eq_true,ltI_not,ltI_iff] at hf
          have hi:e.who.toNat<3:=by omega
          split
          · exact evictW_ok hw hi
          · split
            · exact hw
            · rename_i hl
              rw [Bool.not_eq_false] at hl
              unfold whoW
              split
              · exact lockW_ok hw hi hl
              · split
                · exact readW_ok hw hi hl
                · split
                  · exact writeW_ok hw hi hl
                  · split
                    · split
                      · rename_i x hx
                        exact (flushW_ok hw hi hl hx).ok
                      · exact hw
                    · exact dieW_ok hw hi
end Go.Ev


namespace Go.Ev
def overAll (t:Bs):List Sp→Bs→Bs
  | [],s=>s
  | d::ds,s=>overAll t ds (overS s d (subS t d))
def textF:List OwnT→Bs→Bs
  | [],s=>s
  | o::os,s=>textF os (overAll o.t o.d s)
def WorldT.text (w:WorldT):Bs:=textF w.owns w.file
theorem overAll_get (t:Bs) (ht:t.length=48):∀ (ds:List Sp) (s:Bs),(∀ d∈ds,0≤d.1∧d.1<d.2∧d.2≤48)→s.length=48→(overAll t ds s).length=48∧∀ j,(overAll t ds s).getD j 0=if inF ds j=true then t.getD j 0 else s.getD j 0
  | [],s,_,hs=>⟨hs,fun j=>by simp [overAll,inF]⟩
  | d::ds,s,hd,hs=>by
    have h0:=hd d (by simp)
    obtain ⟨lo,hi,rfl,h1,h2⟩:=nat_sp h0
    have hl:(subS t ((lo:Int),(hi:Int))).length=hi - lo:=by simp [subS];omega
    have hlen:(overS s ((lo:Int),(hi:Int)) (subS t ((lo:Int),(hi:Int)))).length=48:=by
      rw [overS_len _ _ _ (by omega) (by omega) (by dsimp only;omega),hl]
      dsimp only
      omega
    obtain ⟨g1,g2⟩:=overAll_get t ht ds _ (fun q hq=>hd q (by simp [hq])) hlen
    refine ⟨g1,fun j=>?_⟩
    rw [overAll,g2 j]
    have e4:inF (((lo:Int),(hi:Int))::ds) j=(inSp j ((lo:Int),(hi:Int)) || inF ds j):=rfl
    have hab:inSp j ((lo:Int),(hi:Int))=true↔lo≤j∧j<hi:=by rw [inSp_iff];dsimp only;omega
    rw [e4]
    cases e:inF ds j
    · simp only [Bool.or_false,Bool.false_eq_true,if_false]
      rw [List.getD_eq_getElem?_getD,overS_get s _ lo hi (by omega) (by omega) hl j]
      by_cases hc:lo≤j∧j<hi
      · rw [if_pos hc,if_pos (hab.2 hc),subS_get t lo hi _ (by omega),show lo+(j - lo)=j by omega,List.getD_eq_getElem?_getD]
      · rw [if_neg hc,if_neg (fun q=>hc (hab.1 q)),List.getD_eq_getElem?_getD]
    · simp
def WorldT.see (w:WorldT) (j:Nat):UInt8:=if inF (w.own 2).d j=true then (w.own 2).t.getD j 0 else if inF (w.own 1).d j=true then (w.own 1).t.getD j 0 else if inF (w.own 0).d j=true then (w.own 0).t.getD j 0 else w.byte j
theorem list3 {α:Type} {xs:List α} (d:α) (h:xs.length=3):xs=[xs.getD 0 d,xs.getD 1 d,xs.getD 2 d]:=by
  match xs,h with
  | [a,b,c],_=>rfl
theorem WorldP.textGet {w:WorldT} (h:WorldP w):w.text.length=48∧∀ j,j<48→w.text.getD j 0=w.see j:=by
  have e:w.owns=[w.own 0,w.own 1,w.own 2]:=list3 noO h.owns
  have b:=fun i (hi:i<3)=>ownOk_bd (h.own i hi)
  have g0:=overAll_get (w.own 0).t (b 0 (by omega)).1 (w.own 0).d w.file (spsOk_sp (b 0 (by omega)).2.2.1) (file_len w)
  have g1:=overAll_get (w.own 1).t (b 1 (by omega)).1 (w.own 1).d _ (spsOk_sp (b 1 (by omega)).2.2.1) g0.1
  have g2:=overAll_get (w.own 2).t (b 2 (by omega)).1 (w.own 2).d _ (spsOk_sp (b 2 (by omega)).2.2.1) g1.1
  have et:w.text=overAll (w.own 2).t (w.own 2).d (overAll (w.own 1).t (w.own 1).d (overAll (w.own 0).t (w.own 0).d w.file)):=by
    unfold WorldT.text
    rw [e];rfl
  rw [et]
  refine ⟨g2.1,fun j hj=>?_⟩
  rw [g2.2,g1.2,g0.2,file_getD w hj]
  rfl
theorem WorldP.see_own {w:WorldT} (h:WorldP w) {i j:Nat} (hi:i<3) (hj:j<48) (hd:inF (w.own i).d j=true):w.see j=(w.own i).t.getD j 0:=by
  have hno:∀ k,k<3→k≠i→inF (w.own k).d j=false:=fun k hk hne=>by
    rw [← Bool.not_eq_true]
    intro hk2
    have:=ownOk_have (h.own k hk) hj hk2
    rw [h.sole hi hk hne hj hd] at this
    cases this
  unfold WorldT.see
  match i,hi with
  | 0,_=>rw [hno 2 (by omega) (by omega),hno 1 (by omega) (by omega),hd];rfl
  | 1,_=>rw [hno 2 (by omega) (by omega),hd];rfl
  | 2,_=>rw [hd];rfl
theorem see_none {w:WorldT} {j:Nat} (hd:∀ i,i<3→inF (w.own i).d j=false):w.see j=w.byte j:=by
  unfold WorldT.see
  rw [hd 2 (by omega),hd 1 (by omega),hd 0 (by omega)]
  rfl
theorem WorldP.see_of {w:WorldT} (h:WorldP w) {j:Nat} (hj:j<48) {v:UInt8} (h1:∀ i,i<3→inF (w.own i).d j=true→(w.own i).t.getD j 0=v) (h2:(∀ i,i<3→inF (w.own i).d j=false)→w.byte j=v):w.see j=v:=by
  by_cases hc:∃ i,i<3∧inF (w.own i).d j=true
  · obtain ⟨i,hi,hd⟩:=hc
    rw [h.see_own hi hj hd,h1 i hi hd]
  · have hn:∀ i,i<3→inF (w.own i).d j=false:=fun i hi=>by
      rw [← Bool.not_eq_true]
      exact fun q=>hc ⟨i,hi,q⟩
    rw [see_none hn,h2 hn]
theorem text_eq {w x:WorldT} (hw:WorldP w) (hx:WorldP x) (h:∀ j,j<48→x.see j=w.see j):x.text=w.text:=by
  obtain ⟨a1,a2⟩:=hw.textGet
  obtain ⟨b1,b2⟩:=hx.textGet
  refine List.ext_getElem (b1.trans a1.symm) fun j g1 g2=>?_
  have:=(b2 j (by omega)).trans ((h j (by omega)).trans (a2 j (by omega)).symm)
  rwa [List.getD_eq_getElem?_getD,List.getD_eq_getElem?_getD,List.getElem?_eq_getElem g1,List.getElem?_eq_getElem g2] at this
theorem file_eq {w x:WorldT} (h:∀ j,j<48→x.byte j=w.byte j):x.file=w.file:=by
  unfold WorldT.file
  exact List.map_congr_left fun j hj=>h j (List.mem_range.1 hj)
theorem FlushR.see {w x:WorldT} {i:Nat} {s:Sp} (hw:WorldP w) (hi:i<3) (F:FlushR w i s x) {j:Nat} (hj:j<48):x.see j=w.see j:=by
  have hcd:=cutS_get (w.own i).d s j hj
  refine F.ok.see_of hj (fun k hk hd=>?_) (fun hn=>?_)
  · rw [F.own k hk] at hd ⊢
    by_cases e:i=k
    · subst e
      rw [if_pos rfl] at hd ⊢
      dsimp only at hd ⊢
      rw [hcd,Bool.and_eq_true] at hd
      exact (hw.see_own hi hj hd.2).symm
    · rw [if_neg e] at hd ⊢
      exact (hw.see_own hk hj hd).symm
  · rw [F.byte j]
    by_cases hc:(inSp j s&&inF (w.own i).d j)=true
    · rw [if_pos hc]
      rw [Bool.and_eq_true] at hc
      exact (hw.see_own hi hj hc.2).symm
    · rw [if_neg hc]
      refine (see_none fun k hk=>?_).symm
      have:=hn k hk
      rw [F.own k hk] at this
      by_cases e:i=k
      · subst e
        rw [if_pos rfl] at this
        dsimp only at this
        rw [hcd] at this
        cases e1:inSp j s<;>cases e2:inF (w.own i).d j<;>simp [e1,e2] at this hc ⊢
      · rwa [if_neg e] at this
theorem YieldsR.see {w x:WorldT} {ks:List Nat} {write:Bool} {s:Sp} (hw:WorldP w) (Y:YieldsR w ks write s x) {j:Nat} (hj:j<48):x.see j=w.see j:=by
  have hdd:∀ q,q<3→inF (x.own q).d j=true→inF (w.own q).d j=true:=fun q hq hd=>by
    by_cases hm:q∈ks
    · rw [Y.dirty q hq hm j hj,Bool.and_eq_true] at hd;exact hd.2
    · rwa [Y.own q hq hm] at hd
  refine Y.ok.see_of hj (fun k hk hd=>?_) (fun hn=>?_)
  · rw [Y.text k hk j hd]
    exact (hw.see_own hk hj (hdd k hk hd)).symm
  · rcases Y.byte j with e | ⟨q,hq,hm,h1,h2,h3⟩
    · by_cases hc:∃ i,i<3∧inF (w.own i).d j=true
      · obtain ⟨i,hi,hd⟩:=hc
        have hx:=hn i hi
        by_cases hm:i∈ks
        · rw [Y.dirty i hi hm j hj,hd] at hx
          have hjs:inSp j s=true:=by cases e1:inSp j s<;>simp [e1] at hx ⊢
          -- the place was put into the file
          have hk:=ownOk_have (hw.own i hi) hj hd
          rw [hw.see_own hi hj hd]
          -- by the invariant of x at an owner that still keeps it,or by the byte itself
          exact (Y.put i hi hm j hj hjs hd)
        · rw [Y.own i hi hm,hd] at hx;cases hx
      · rw [e]
        refine (see_none fun i hi=>?_).symm
        rw [← Bool.not_eq_true]
        exact fun q=>hc ⟨i,hi,q⟩
    · rw [h3]
      exact (hw.see_own hq hj h2).symm
end Go.Ev


namespace Go.Ev
theorem form_who {e:EvT} (h:¬ formEv e=true):e.who.toNat<3∧0≤e.who∧e.who<3∧1≤e.kind∧e.kind≤9∧((e.kind=1∨e.kind=2)→spOk e.span=true):=by
  simp only [formEv,Bool.or_eq_true,not_or,Bool.not_eq_true,Bool.not_eq_true',Bool.not_eq_false,whoOk,Bool.and_eq_true,ltI_not,ltI_iff,eqI_iff,not_and] at h
  refine ⟨by omega,by omega,by omega,by omega,by omega,h.2⟩
theorem see_congr {w x:WorldT} (ho:∀ i,i<3→x.own i=w.own i) (hb:∀ j,x.byte j=w.byte j) (j:Nat):x.see j=w.see j:=by
  unfold WorldT.see
  rw [ho 0 (by omega),ho 1 (by omega),ho 2 (by omega),hb]
theorem lockW_see {w:WorldT} {i:Nat} {write:Bool} {s:Sp} (hw:WorldP w) (hi:i<3) {j:Nat} (hj:j<48):(lockW w i write s).1.see j=w.see j:=by
  unfold lockW
  split
  · rfl
  · rename_i hd
    split
    · rfl
    · rename_i x hx
      split
      · have hall:∀ k∈lockBars w.locks i write s,k<3∧w.live k=true:=fun k hk=>⟨(bars_mem.1 hk).1,by
          simp only [List.any_eq_true,Bool.not_eq_true',not_exists,not_and,Bool.not_eq_false] at hd
          exact hd k hk⟩
        have Y:=yieldsW_ok _ hw hall (bars_nodup _ _ _ _) hx
        rw [← Y.see hw hj]
        exact see_congr (fun _ _=>rfl) (fun _=>rfl) j
      · rfl
theorem WorldP.may_sole {w:WorldT} (h:WorldP w) {i k j:Nat} (hi:i<3) (hk:k<3) (hne:k≠i) (hj:j<48) {write:Bool} (hm:mayAt (w.lock i) write j=true):inF (w.own k).d j=false:=by
  rw [← Bool.not_eq_true]
  intro hd
  have h1:=ownOk_have (h.own k hk) hj hd
  have hw:inF (w.lock k).w j=true:=by
    rcases (h.held k hk j hj h1).1 with q | ⟨q,_⟩
    · exact q
    · rw [hd] at q;cases q
  simp only [mayAt,Bool.or_eq_true,Bool.and_eq_true] at hm
  rcases hm with q | ⟨_,q⟩
  · exact h.lk.ww k i hk hi (fun e=>hne e.symm) j ⟨hw,q⟩
  · exact h.lk.wr k i hk hi (fun e=>hne e.symm) j ⟨hw,q⟩
theorem WorldP.write_sole {w:WorldT} (h:WorldP w) {i k j:Nat} (hi:i<3) (hk:k<3) (hne:k≠i) (hj:j<48) (hm:inF (w.lock i).w j=true):inF (w.own k).h j=false:=by
  rw [← Bool.not_eq_true]
  intro hh
  rcases (h.held k hk j hj hh).1 with q | ⟨_,q⟩
  · exact h.lk.ww i k hi hk hne j ⟨hm,q⟩
  · exact h.lk.wr i k hi hk hne j ⟨hm,q⟩
structure ReadR (w:WorldT) (i:Nat) (s:Sp) (x:WorldT) (data:Bs):Prop where
  ok:WorldP x
  own:∀ k,k<3→k≠i→x.own k=w.own k
  dirty:(x.own i).d=(w.own i).d
  text:∀ j,(x.own i).t.getD j 0=if inSp j s=true∧inF (w.own i).d j=false then w.byte j else (w.own i).t.getD j 0
  have':∀ j,j<48→inF (x.own i).h j=(inSp j s || inF (w.own i).h j)
  rest:x={ w with owns:=x.owns }
  data:data=subS (x.own i).t s
  may:∀ j:Nat,inSp j s=true→mayAt (w.lock i) false j=true
theorem readW_fine {w:WorldT} {i:Nat} {s:Sp} (hw:WorldP w) (hi:i<3) (ha:w.live i=true) (h:(readW w i s).2.2=0):spOk s=true∧ReadR w i s (readW w i s).1 (readW w i s).2.1:=by
  have hok:=readW_ok (s:=s) hw hi ha
  unfold readW at h hok ⊢
  split at h
  · rename_i hm
    split at h
    · rename_i hf
      simp only [if_pos hm,if_pos hf] at hok ⊢
      obtain ⟨hfo,hoo,he⟩:=fillT1_ok hf
      obtain ⟨hsp,hxl⟩:=fillOk_of hfo
      have hp:=spOk_iff.1 hsp
      rw [lockMay_iff hp] at hm
      refine ⟨hsp,hok,fun k hk hne=>?_,?_,fun j=>?_,fun j hj=>?_,rfl,?_,hm⟩
      · show (w.owns.set i _).getD k noO=_
        rw [own_set _ _ _ _ hw.owns hk,if_neg fun e=>hne e.symm]
      · show ((w.owns.set i _).getD i noO).d=_
        rw [own_set _ _ _ _ hw.owns hi,if_pos rfl,he]
      · show ((w.owns.set i _).getD i noO).t.getD j 0=_
        rw [own_set _ _ _ _ hw.owns hi,if_pos rfl,he]
        obtain ⟨lo,hi',rfl,h1,h2⟩:=nat_sp hp
        have ht:=(ownOk_bd (hw.own i hi)).1
        dsimp only at hxl ⊢
        have hn:((hi':Int) - (lo:Int)).toNat=hi' - lo:=by omega
        simp only [Int.toNat_natCast,hn]
        rw [fill_getD h1 h2 ht (by omega)]
        have hab:inSp j ((lo:Int),(hi':Int))=true↔lo≤j∧j<hi':=by rw [inSp_iff];dsimp only;omega
        by_cases hc:lo≤j∧j<hi'∧inF (w.own i).d j=false
        · rw [if_pos hc,if_pos ⟨hab.2 ⟨hc.1,hc.2.1⟩,hc.2.2⟩,sub_getD (by omega),show lo+(j - lo)=j by omega,file_getD w (by omega)]
        · rw [if_neg hc,if_neg fun q=>hc ⟨(hab.1 q.1).1,(hab.1 q.1).2,q.2⟩]
      · show inF ((w.owns.set i _).getD i noO).h j=_
        rw [own_set _ _ _ _ hw.owns hi,if_pos rfl,he]
        exact addS_get _ _ j hj
      · show _=subS ((w.owns.set i _).getD i noO).t s
        rw [own_set _ _ _ _ hw.owns hi,if_pos rfl]
    · exact absurd h (by simp)
  · exact absurd h (by simp)
theorem ReadR.byte {w x:WorldT} {i:Nat} {s:Sp} {data:Bs} (R:ReadR w i s x data) (j:Nat):x.byte j=w.byte j:=by rw [R.rest];rfl
theorem ReadR.see {w x:WorldT} {i:Nat} {s:Sp} {data:Bs} (hw:WorldP w) (hi:i<3) (R:ReadR w i s x data) {j:Nat} (hj:j<48):x.see j=w.see j:=by
  refine R.ok.see_of hj (fun k hk hd=>?_) (fun hn=>?_)
  · by_cases e:k=i
    · subst e
      rw [R.dirty] at hd
      rw [R.text j,if_neg (by rw [hd];simp),hw.see_own hk hj hd]
    · rw [R.own k hk e] at hd ⊢
      exact (hw.see_own hk hj hd).symm
  · rw [R.byte]
    refine (see_none fun k hk=>?_).symm
    have:=hn k hk
    by_cases e:k=i
    · subst e;rwa [R.dirty] at this
    · rwa [R.own k hk e] at this
theorem ReadR.data_see {w x:WorldT} {i:Nat} {s:Sp} {data:Bs} (hw:WorldP w) (hi:i<3) (hs:spOk s=true) (R:ReadR w i s x data):data=subS w.text s:=by
  obtain ⟨a1,a2⟩:=hw.textGet
  rw [R.data]
  obtain ⟨lo,hi',rfl,h1,h2⟩:=nat_sp (spOk_iff.1 hs)
  have ht:=(ownOk_bd (R.ok.own i hi)).1
  refine List.ext_getElem? fun k=>?_
  by_cases hk:k<hi' - lo
  · rw [subS_get _ _ _ _ (by omega),subS_get _ _ _ _ (by omega)]
    have hj:lo+k<48:=by omega
    have e1:(x.own i).t[lo+k]?=some ((x.own i).t.getD (lo+k) 0):=by rw [List.getD_eq_getElem?_getD,List.getElem?_eq_getElem (by omega)];rfl
    have e2:w.text[lo+k]?=some (w.text.getD (lo+k) 0):=by rw [List.getD_eq_getElem?_getD,List.getElem?_eq_getElem (by omega)];rfl
    rw [e1,e2,a2 _ hj,R.text]
    have hin:inSp ((lo+k:Nat):Int) ((lo:Int),(hi':Int))=true:=inSp_iff.2 (by dsimp only;omega)
    congr 1
    cases e:inF (w.own i).d (lo+k)
    · rw [if_pos ⟨hin,rfl⟩]
      refine (see_none fun q hq=>?_).symm
      by_cases hqi:q=i
      · subst hqi;exact e
      · exact hw.may_sole hi hq hqi hj (R.may _ hin)
    · rw [if_neg (by simp),hw.see_own hi hj e]
  · rw [List.getElem?_eq_none (by simp [subS];omega),List.getElem?_eq_none (by simp [subS];omega)]
structure WriteR (w:WorldT) (i:Nat) (lo:Nat) (data:Bs) (x:WorldT):Prop where
  ok:WorldP x
  own:∀ k,k<3→k≠i→x.own k=w.own k
  dirty:∀ j,j<48→inF (x.own i).d j=(decide (lo≤j∧j<lo+data.length) || inF (w.own i).d j)
  text:∀ j,(x.own i).t.getD j 0=if lo≤j∧j<lo+data.length then data.getD (j - lo) 0 else (w.own i).t.getD j 0
  rest:x={ w with owns:=x.owns }
  lock:∀ j,lo≤j→j<lo+data.length→inF (w.lock i).w j=true
  wr:wrOk lo data=true
theorem writeW_fine {w:WorldT} {i:Nat} {k:Int} {data:Bs} (hw:WorldP w) (hi:i<3) (ha:w.live i=true) (h:(writeW w i k data).2=0):0≤k∧WriteR w i k.toNat data (writeW w i k data).1:=by
  have hok:=writeW_ok (k:=k) (x:=data) hw hi ha
  unfold writeW at h hok ⊢
  split at h
  · rename_i hwr
    split at h
    · rename_i hm
      split at h
      · rename_i hf
        simp only [if_pos hwr,if_pos hm,if_pos hf] at hok ⊢
        obtain ⟨_,hoo,he⟩:=writeT1_ok hf
        obtain ⟨g1,g2,g3,g4⟩:=wrOk_len hwr
        obtain ⟨lo,rfl⟩:∃ lo:Nat,k=lo:=⟨k.toNat,by omega⟩
        have hp:0≤((lo:Int),(lo:Int)+data.length).1∧((lo:Int),(lo:Int)+data.length).1<((lo:Int),(lo:Int)+data.length).2∧((lo:Int),(lo:Int)+data.length).2≤48:=by dsimp only;omega
        rw [lockMay_iff hp] at hm
        have ht:=(ownOk_bd (hw.own i hi)).1
        have hab:∀ j:Nat,inSp j ((lo:Int),(lo:Int)+data.length)=decide (lo≤j∧j<lo+data.length):=fun j=>by
          rw [Bool.eq_iff_iff,inSp_iff,decide_eq_true_eq];dsimp only;omega
        refine ⟨g1,hok,fun k hk hne=>?_,fun j hj=>?_,fun j=>?_,rfl,fun j h1 h2=>?_,by simpa using hwr⟩
        · show (w.owns.set i _).getD k noO=_
          rw [own_set _ _ _ _ hw.owns hk,if_neg fun e=>hne e.symm]
        · show inF ((w.owns.set i _).getD i noO).d j=_
          rw [own_set _ _ _ _ hw.owns hi,if_pos rfl,he]
          rw [addS_get _ _ j hj,hab]
          rfl
        · show ((w.owns.set i _).getD i noO).t.getD j 0=_
          rw [own_set _ _ _ _ hw.owns hi,if_pos rfl,he]
          exact over_getD (by omega) j
        · have:=hm j (by rw [hab];simp only [decide_eq_true_eq];simp only [Int.toNat_natCast] at h1 h2;omega)
          simpa [mayAt] using this
      · exact absurd h (by simp)
    · exact absurd h (by simp)
  · exact absurd h (by simp)
theorem WriteR.byte {w x:WorldT} {i lo:Nat} {data:Bs} (R:WriteR w i lo data x) (j:Nat):x.byte j=w.byte j:=by rw [R.rest];rfl
theorem WriteR.see {w x:WorldT} {i lo:Nat} {data:Bs} (hw:WorldP w) (hi:i<3) (R:WriteR w i lo data x) {j:Nat} (hj:j<48):x.see j=if lo≤j∧j<lo+data.length then data.getD (j - lo) 0 else w.see j:=by
  by_cases hc:lo≤j∧j<lo+data.length
  · rw [if_pos hc]
    have hd:inF (x.own i).d j=true:=by rw [R.dirty j hj];simp [hc]
    rw [R.ok.see_own hi hj hd,R.text,if_pos hc]
  · rw [if_neg hc]
    refine R.ok.see_of hj (fun k hk hd=>?_) (fun hn=>?_)
    · by_cases e:k=i
      · subst e
        rw [R.dirty j hj,decide_eq_false hc,Bool.false_or] at hd
        rw [R.text,if_neg hc,hw.see_own hk hj hd]
      · rw [R.own k hk e] at hd ⊢
        exact (hw.see_own hk hj hd).symm
    · rw [R.byte]
      refine (see_none fun k hk=>?_).symm
      have:=hn k hk
      by_cases e:k=i
      · subst e
        rwa [R.dirty j hj,decide_eq_false hc,Bool.false_or] at this
      · rwa [R.own k hk e] at this
theorem WriteR.text_eq {w x:WorldT} {i lo:Nat} {data:Bs} (hw:WorldP w) (hi:i<3) (R:WriteR w i lo data x):x.text=wrS w.text lo data:=by
  obtain ⟨a1,a2⟩:=hw.textGet
  obtain ⟨b1,b2⟩:=R.ok.textGet
  have hwl:=(wrOk_len R.wr).2.1
  refine List.ext_getElem? fun j=>?_
  rw [wrS_get]
  by_cases hj:j<48
  · have e1:x.text[j]?=some (x.text.getD j 0):=by rw [List.getD_eq_getElem?_getD,List.getElem?_eq_getElem (by omega)];rfl
    have e2:w.text[j]?=some (w.text.getD j 0):=by rw [List.getD_eq_getElem?_getD,List.getElem?_eq_getElem (by omega)];rfl
    rw [e1,b2 j hj,R.see hw hi hj]
    by_cases hc:lo≤j∧j<lo+data.length
    · rw [if_pos hc,if_pos hc,List.getD_eq_getElem?_getD,List.getElem?_eq_getElem (by omega)];rfl
    · rw [if_neg hc,if_neg hc,if_pos (by omega),e2,a2 j hj]
  · rw [List.getElem?_eq_none (by omega),if_neg (by omega),if_neg (by omega),if_neg (by omega)]
theorem gone_see {w x:WorldT} {i:Nat} (hw:WorldP w) (hx:WorldP x) (hi:i<3) (ho:∀ k,k<3→x.own k=if i=k then noO else w.own k) (hb:∀ j,x.byte j=w.byte j) {j:Nat} (hj:j<48):x.see j=if inF (w.own i).d j=true then w.byte j else w.see j:=by
  have n1:inF noO.d j=false:=rfl
  by_cases hd:inF (w.own i).d j=true
  · rw [if_pos hd]
    refine (see_none fun k hk=>?_).trans (hb j)
    rw [ho k hk]
    by_cases e:i=k
    · rw [if_pos e];exact n1
    · rw [if_neg e,← Bool.not_eq_true]
      intro hk2
      have:=ownOk_have (hw.own k hk) hj hk2
      rw [hw.sole hi hk (fun q=>e q.symm) hj hd] at this
      cases this
  · rw [if_neg hd]
    refine hx.see_of hj (fun k hk hk2=>?_) (fun hn=>?_)
    · rw [ho k hk] at hk2 ⊢
      by_cases e:i=k
      · rw [if_pos e,n1] at hk2;cases hk2
      · rw [if_neg e] at hk2 ⊢
        exact (hw.see_own hk hj hk2).symm
    · rw [hb]
      refine (see_none fun k hk=>?_).symm
      have:=hn k hk
      rw [ho k hk] at this
      by_cases e:i=k
      · subst e;rwa [Bool.not_eq_true] at hd
      · rwa [if_neg e] at this
theorem giveW_still {w:WorldT} {k:Int} (hw:WorldP w):(giveW w k).1.st=w.st∧(giveW w k).1.owns=w.owns∧(giveW w k).1.size=w.size∧(giveW w k).1.many=w.many:=by
  unfold giveW
  split
  · exact ⟨rfl,rfl,rfl,rfl⟩
  · rename_i hc
    simp only [Bool.or_eq_true,Bool.not_eq_true',not_or,Bool.not_eq_true,Bool.not_eq_false,ltI_not,ltI_iff] at hc
    have hlt:k.toNat<w.late.length:=by omega
    have hq:=hw.late (w.late.getD k.toNat ⟨0,0,0,0,0,[]⟩) (by
      rw [List.getD_eq_getElem?_getD,List.getElem?_eq_getElem hlt]
      exact List.getElem_mem hlt)
    rw [storeDo_late hq]
    exact ⟨rfl,rfl,rfl,rfl⟩
theorem see_of_parts {w x:WorldT} (h1:x.st.now=w.st.now) (h2:x.owns=w.owns) (h3:x.size=w.size) (h4:x.many=w.many) (j:Nat):x.see j=w.see j :=
  see_congr (fun i _=>by unfold WorldT.own;rw [h2]) (fun j=>by unfold WorldT.byte;rw [h1,h3,h4]) j
theorem still_see {w:WorldT} (hw:WorldP w) {e:EvT} (h3:e.kind≠3) (h7:e.kind≠7) (h8:e.kind≠8) {j:Nat} (hj:j<48):(doW w e).1.see j=w.see j:=by
  unfold doW
  split
  · exact see_of_parts rfl rfl rfl rfl j
  · split
    · rw [hw.kept]
    · split
      · obtain ⟨a1,a2,a3,a4⟩:=giveW_still (k:=e.pos) hw
        exact see_of_parts (by rw [a1]) a2 a3 a4 j
      · split
        · rfl
        · rename_i h5 h6 h9 hf
          obtain ⟨hi,_,_,k1,k9,hsp⟩:=form_who hf
          split
          · rfl
          · rename_i hl
            rw [Bool.not_eq_false] at hl
            unfold whoW
            split
            · exact lockW_see hw hi hj
            · split
              · by_cases hc:(readW w e.who.toNat e.span).2.2=0
                · exact (readW_fine hw hi hl hc).2.see hw hi hj
                · have:(readW w e.who.toNat e.span).1=w:=by
                    unfold readW at hc ⊢
                    split
                    · rename_i a
                      split
                      · rename_i b
                        rw [if_pos a,if_pos b] at hc
                        exact absurd rfl hc
                      · rfl
                    · rfl
                  rw [this]
              · split
                · split
                  · rename_i x hx
                    exact (flushW_ok hw hi hl hx).see hw hi hj
                  · rfl
                · exact absurd (show e.kind=7 by omega) h7
end Go.Ev


namespace Go.Ev
def noneP (f:Nat→Bool):Bool:=eqP f fun _=>false
theorem noneP_iff {f:Nat→Bool}:noneP f=true↔∀ j,j<48→f j=false:=eqP_iff
def orP (f g:Nat→Bool):Nat→Bool:=fun j=>if g j=true then true else f j
theorem orP_eq (f g:Nat→Bool) (j:Nat):orP f g j=(f j || g j):=by unfold orP;cases g j<;>simp
def lockI:(Nat→Bool)→(Nat→Bool)→List HoldT→Bool
  | _,_,[]=>true
  | a,wr,h::hs=>spsOk h.r&&spsOk h.w&&(noneP (fun j=>inF h.r j&&inF h.w j)&&noneP (fun j=>inF h.w j&&a j)&&noneP (fun j=>inF h.r j&&wr j))&&lockI (orP (orP a (inF h.w)) (inF h.r)) (orP wr (inF h.w)) hs
def lockOkI (t:List HoldT):Bool:=eqI t.length 3&&lockI (fun _=>false) (fun _=>false) t
theorem apart48 {a b:List Sp} (ha:spsOk a=true):apartS a b↔∀ j,j<48→¬ (inF a j=true∧inF b j=true) :=
  ⟨fun h j _=>h j,fun h j hj=>h j (inF_lt ha hj.1) hj⟩
theorem lockI_eq (t:List HoldT):lockOkI t=lockOk t:=by
  rw [Bool.eq_iff_iff,lockOk_iff]
  unfold lockOkI
  rw [Bool.and_eq_true,eqI3]
  constructor
  · rintro ⟨hl,h⟩
    match t,hl with
    | [a,b,c],_ =>
      simp only [lockI,Bool.and_eq_true,noneP_iff,orP_eq,Bool.or_eq_false_iff,Bool.and_eq_false_imp,Bool.or_false,Bool.false_or,Bool.or_eq_false_iff] at h
      obtain ⟨⟨⟨a1,a2⟩,⟨a3,_⟩,_⟩,⟨⟨b1,b2⟩,⟨b3,b4⟩,b5⟩,⟨⟨c1,c2⟩,⟨c3,c4⟩,c5⟩,_⟩:=h
      have e:∀ x y:List Sp,spsOk x=true→(∀ j,j<48→inF x j=true→inF y j=false)→apartS x y:=fun x y hx hh=>(apart48 hx).2 fun j hj q=>by rw [hh j hj q.1] at q;cases q.2
      have sy:∀ x y:List Sp,apartS x y→apartS y x:=fun x y hh j q=>hh j ⟨q.2,q.1⟩
      refine ⟨rfl,fun i hi=>?_,fun i hi=>?_,fun i hi=>?_,fun i k hi hk hne=>?_,fun i k hi hk hne=>?_⟩
      · match i,hi with
        | 0,_=>exact a1
        | 1,_=>exact b1
        | 2,_=>exact c1
      · match i,hi with
        | 0,_=>exact a2
        | 1,_=>exact b2
        | 2,_=>exact c2
      · match i,hi with
        | 0,_=>exact e _ _ a1 a3
        | 1,_=>exact e _ _ b1 b3
        | 2,_=>exact e _ _ c1 c3
      · have x01:apartS b.w a.w:=e _ _ b2 fun j hj q=>(b4 j hj q).1
        have x02:apartS c.w a.w:=e _ _ c2 fun j hj q=>(c4 j hj q).1.1.1
        have x12:apartS c.w b.w:=e _ _ c2 fun j hj q=>(c4 j hj q).1.2
        match i,hi,k,hk with
        | 0,_,0,_=>exact absurd rfl hne
        | 0,_,1,_=>exact sy _ _ x01
        | 0,_,2,_=>exact sy _ _ x02
        | 1,_,0,_=>exact x01
        | 1,_,1,_=>exact absurd rfl hne
        | 1,_,2,_=>exact sy _ _ x12
        | 2,_,0,_=>exact x02
        | 2,_,1,_=>exact x12
        | 2,_,2,_=>exact absurd rfl hne
      · have y10:apartS b.w a.r:=e _ _ b2 fun j hj q=>(b4 j hj q).2
        have y20:apartS c.w a.r:=e _ _ c2 fun j hj q=>(c4 j hj q).1.1.2
        have y21:apartS c.w b.r:=e _ _ c2 fun j hj q=>(c4 j hj q).2
        have y01:apartS a.w b.r:=sy _ _ (e _ _ b1 fun j hj q=>(b5 j hj q))
        have y02:apartS a.w c.r:=sy _ _ (e _ _ c1 fun j hj q=>(c5 j hj q).1)
        have y12:apartS b.w c.r:=sy _ _ (e _ _ c1 fun j hj q=>(c5 j hj q).2)
        match i,hi,k,hk with
        | 0,_,0,_=>exact absurd rfl hne
        | 0,_,1,_=>exact y01
        | 0,_,2,_=>exact y02
        | 1,_,0,_=>exact y10
        | 1,_,1,_=>exact absurd rfl hne
        | 1,_,2,_=>exact y12
        | 2,_,0,_=>exact y20
        | 2,_,1,_=>exact y21
        | 2,_,2,_=>exact absurd rfl hne
  · intro h
    refine ⟨h.len,?_⟩
    match t,h.len with
    | [a,b,c],_ =>
      have r0:=h.r 0 (by omega)
      have r1:=h.r 1 (by omega)
      have r2:=h.r 2 (by omega)
      have w0:=h.w 0 (by omega)
      have w1:=h.w 1 (by omega)
      have w2:=h.w 2 (by omega)
      have f:∀ x y:List Sp,apartS x y→∀ j,j<48→inF x j=true→inF y j=false:=fun x y hh j _ q=>by
        rw [← Bool.not_eq_true];exact fun q2=>hh j ⟨q,q2⟩
      have sy:∀ x y:List Sp,apartS x y→apartS y x:=fun x y hh j q=>hh j ⟨q.2,q.1⟩
      simp only [lockI,Bool.and_eq_true,noneP_iff,orP_eq,Bool.or_eq_false_iff,Bool.and_eq_false_imp,Bool.or_false,Bool.false_or,Bool.or_eq_false_iff]
      refine ⟨⟨⟨r0,w0⟩,⟨f _ _ (h.rw 0 (by omega)),fun _ _ _=>trivial⟩,fun _ _ _=>trivial⟩,⟨⟨r1,w1⟩,⟨f _ _ (h.rw 1 (by omega)),fun j hj q=>⟨f _ _ (h.ww 1 0 (by omega) (by omega) (by omega)) j hj q,f _ _ (h.wr 1 0 (by omega) (by omega) (by omega)) j hj q⟩⟩,fun j hj q=>f _ _ (sy _ _ (h.wr 0 1 (by omega) (by omega) (by omega))) j hj q⟩,
        ⟨⟨r2,w2⟩,⟨f _ _ (h.rw 2 (by omega)),fun j hj q=>⟨⟨⟨f _ _ (h.ww 2 0 (by omega) (by omega) (by omega)) j hj q,f _ _ (h.wr 2 0 (by omega) (by omega) (by omega)) j hj q⟩,f _ _ (h.ww 2 1 (by omega) (by omega) (by omega)) j hj q⟩,f _ _ (h.wr 2 1 (by omega) (by omega) (by omega)) j hj q⟩⟩,fun j hj q=>⟨f _ _ (sy _ _ (h.wr 0 2 (by omega) (by omega) (by omega))) j hj q,f _ _ (sy _ _ (h.wr 1 2 (by omega) (by omega) (by omega))) j hj q⟩⟩,trivial⟩
structure LockR (w:WorldT) (i:Nat) (write:Bool) (s:Sp) (x:WorldT):Prop where
  ok:WorldP x
  may:∀ j:Nat,inSp j s=true→mayAt (x.lock i) write j=true
  alone:∀ k,k<3→k≠i→∀ j:Nat,inSp j s=true→inF (x.lock k).w j=false∧(write=true→inF (x.lock k).r j=false)
  live:x.alive=w.alive
  epochs:x.epochs=w.epochs
  nobar:∀ k∈lockBars w.locks i write s,w.live k=true
theorem lockW_fine {w:WorldT} {i:Nat} {write:Bool} {s:Sp} (hw:WorldP w) (hi:i<3) (ha:w.live i=true) (hs:spOk s=true) (h:(lockW w i write s).2=0):LockR w i write s (lockW w i write s).1:=by
  have hok:=lockW_ok (write:=write) (s:=s) hw hi ha
  unfold lockW at h hok ⊢
  split at h
  · exact absurd h (by simp)
  · rename_i hd
    rw [if_neg hd] at hok ⊢
    split at h
    · exact absurd h (by simp)
    · rename_i x hx
      simp only [hx] at hok ⊢
      split at h
      · rename_i hg
        rw [if_pos hg] at hok ⊢
        have hall:∀ k∈lockBars w.locks i write s,k<3∧w.live k=true:=fun k hk=>⟨(bars_mem.1 hk).1,by
          simp only [List.any_eq_true,Bool.not_eq_true',not_exists,not_and,Bool.not_eq_false] at hd
          exact hd k hk⟩
        have Y:=yieldsW_ok _ hw hall (bars_nodup _ _ _ _) hx
        have hxl:x.live i=true:=by unfold WorldT.live at ha ⊢;rw [Y.alive];exact ha
        obtain ⟨_,he⟩:=give_ok Y.ok hi hxl hg
        have hlk:∀ k,k<3→({ x with locks:=(lockGive x.locks i write s).1 }:WorldT).lock k=if i=k then (if write=true then ⟨cutS (x.lock i).r s,addS (x.lock i).w s⟩ else ⟨ofL (fun j=>(inSp j s || inF (x.lock i).r j)&&!inF (x.lock i).w j) 48 0 [],(x.lock i).w⟩) else x.lock k:=fun k hk=>by
          show ((lockGive x.locks i write s).1).getD k noH=_
          rw [he,lock_set _ _ _ _ Y.ok.lk.len hk];rfl
        have hmay:∀ j:Nat,inSp j s=true→mayAt (({ x with locks:=(lockGive x.locks i write s).1 }:WorldT).lock i) write j=true:=fun j hj=>by
          have hj48:j<48:=by have:=spOk_iff.1 hs;rw [inSp_iff] at hj;omega
          rw [hlk i hi,if_pos rfl]
          cases write
          · simp only [Bool.false_eq_true,if_false,mayAt]
            rw [of_get _ hj48,hj]
            cases inF (x.lock i).w j<;>rfl
          · simp only [if_true,mayAt]
            rw [addS_get _ _ j hj48,hj];rfl
        refine ⟨hok,hmay,fun k hk hne j hj=>?_,Y.alive,Y.epochs,fun k hk=>(hall k hk).2⟩
        have hm:=hmay j hj
        simp only [mayAt,Bool.or_eq_true,Bool.and_eq_true,Bool.not_eq_true'] at hm
        have hL:=hok.lk
        constructor
        · rw [← Bool.not_eq_true]
          intro hk2
          rcases hm with q | ⟨_,q⟩
          · exact hL.ww k i hk hi (fun e=>hne e.symm) j ⟨hk2,q⟩
          · exact hL.wr k i hk hi (fun e=>hne e.symm) j ⟨hk2,q⟩
        · intro hwr
          subst hwr
          rw [← Bool.not_eq_true]
          intro hk2
          rcases hm with q | ⟨q,_⟩
          · exact hL.wr i k hi hk hne j ⟨q,hk2⟩
          · cases q
      · exact absurd h (by simp)
theorem doW_full {w:WorldT} {e:EvT} (h:20≤(doW w e).2.2):(doW w e).1=w∧(doW w e).2.1=[]:=by
  unfold doW at h ⊢
  split at h
  · exact absurd h (by simp)
  · rename_i h5
    rw [if_neg h5]
    split at h
    · exact absurd h (by simp)
    · rename_i h6
      rw [if_neg h6]
      split at h
      · rename_i h9
        rw [if_pos h9]
        refine ⟨?_,rfl⟩
        unfold giveW at h ⊢
        split at h
        · rename_i q;rw [if_pos q]
        · exfalso
          dsimp only at h
          unfold storeDo at h
          repeat' split at h
          all_goals simp at h
      · rename_i h9
        rw [if_neg h9]
        split at h
        · rename_i hf;rw [if_pos hf];exact ⟨rfl,rfl⟩
        · rename_i hf
          rw [if_neg hf]
          split at h
          · rename_i h8
            rw [if_pos h8]
            refine ⟨?_,rfl⟩
            unfold evictW at h ⊢
            split at h
            · exact absurd h (by simp)
            · rename_i q;rw [if_neg q]
          · rename_i h8
            rw [if_neg h8]
            split at h
            · rename_i hl;rw [if_pos hl];exact ⟨rfl,rfl⟩
            · rename_i hl
              rw [if_neg hl]
              unfold whoW at h ⊢
              split at h
              · rename_i h1
                rw [if_pos h1]
                refine ⟨?_,rfl⟩
                unfold lockW at h ⊢
                split at h
                · rename_i q;rw [if_pos q]
                · rename_i q
                  rw [if_neg q]
                  split at h
                  · rename_i hy;simp only [hy]
                  · rename_i x hy
                    simp only [hy]
                    split at h
                    · exact absurd h (by simp)
                    · rename_i q2;rw [if_neg q2]
              · rename_i h1
                rw [if_neg h1]
                split at h
                · rename_i h2
                  rw [if_pos h2]
                  unfold readW at h ⊢
                  split at h
                  · rename_i q
                    rw [if_pos q]
                    split at h
                    · exact absurd h (by simp)
                    · rename_i q2;rw [if_neg q2];exact ⟨rfl,rfl⟩
                  · rename_i q;rw [if_neg q];exact ⟨rfl,rfl⟩
                · rename_i h2
                  rw [if_neg h2]
                  split at h
                  · rename_i h3
                    rw [if_pos h3]
                    refine ⟨?_,rfl⟩
                    unfold writeW at h ⊢
                    split at h
                    · rename_i q
                      rw [if_pos q]
                      split at h
                      · rename_i q2
                        rw [if_pos q2]
                        split at h
                        · exact absurd h (by simp)
                        · rename_i q3;rw [if_neg q3]
                      · rename_i q2;rw [if_neg q2]
                    · rename_i q;rw [if_neg q]
                  · rename_i h3
                    rw [if_neg h3]
                    split at h
                    · rename_i h4
                      rw [if_pos h4]
                      split at h
                      · exact absurd h (by simp)
                      · rename_i hy;simp only [hy];exact ⟨trivial,trivial⟩
                    · exact absurd h (by simp)
end Go.Ev


namespace Go.Ev
def newSt:StoreT:=⟨[[],[],[]],[[],[],[]],[0,0,0],[0,0,0],[0,0,0]⟩
def newW (size many:Int):WorldT:=⟨size,many,newSt,[noH,noH,noH],[noO,noO,noO],[0,0,0],[true,true,true],[],[]⟩
def layOk (size many:Int):Bool:=!ltI size 1&&!ltI 8 size&&!ltI many 1&&!ltI 3 many
theorem layOk_iff {size many:Int}:layOk size many=true↔1≤size∧size≤8∧1≤many∧many≤3:=by
  simp only [layOk,Bool.and_eq_true,Bool.not_eq_true',ltI_not]
  omega
theorem three {P:Nat→Prop} (h0:P 0) (h1:P 1) (h2:P 2):∀ i,i<3→P i:=fun i hi=>by
  match i,hi with
  | 0,_=>exact h0
  | 1,_=>exact h1
  | 2,_=>exact h2
theorem newW_ok {size many:Int} (h:layOk size many=true):WorldP (newW size many):=by
  have hown:∀ i,i<3→(newW size many).own i=noO:=three rfl rfl rfl
  refine ⟨layOk_iff.1 h,storeOk_iff.1 (show storeOk newSt=true by decide),lockOk_iff.1 (show lockOk [noH,noH,noH]=true by decide),rfl,rfl,rfl,by simp [newW],fun i hi=>by rw [hown i hi];exact noO_ok,three ⟨Int.le_refl 0,show (0:Int)≤100 by decide⟩ ⟨Int.le_refl 0,show (0:Int)≤100 by decide⟩ ⟨Int.le_refl 0,show (0:Int)≤100 by decide⟩,fun i hi _=>hown i hi,rfl,by simp [newW],by simp [newW],fun i hi j hj hh=>?_⟩
  rw [hown i hi] at hh
  exact absurd hh (by simp [noO,inF])
def playW (w:WorldT):List EvT→WorldT × List Int
  | []=>(w,[])
  | e::es=>((playW (doW w e).1 es).1,(doW w e).2.2::(playW (doW w e).1 es).2)
theorem playW_ok:∀ (es:List EvT) {w:WorldT},WorldP w→WorldP (playW w es).1
  | [],w,h=>h
  | e::es,w,h=>playW_ok es (doW_ok h e)
theorem getD_ok {xs:Bs} (h:xs.all okB=true) (j:Nat) {d:UInt8} (hd:okB d=true):okB (xs.getD j d)=true:=by
  rw [List.getD_eq_getElem?_getD]
  by_cases hj:j<xs.length
  · rw [List.getElem?_eq_getElem hj]
    exact List.all_eq_true.1 h _ (List.getElem_mem hj)
  · rw [List.getElem?_eq_none (by omega)];exact hd
theorem txtOk_all {s:Bs} (h:txtOk s=true):s.all okB=true:=by
  simp only [txtOk,Bool.and_eq_true] at h
  exact h.1
theorem WorldP.byte_ok {w:WorldT} (h:WorldP w) (j:Nat):okB (w.byte j)=true:=by
  unfold WorldT.byte fileAt
  refine getD_ok ?_ _ (by decide)
  rw [List.getD_eq_getElem?_getD]
  by_cases hj:objOf w.size.toNat w.many.toNat j<w.st.now.length
  · rw [List.getElem?_eq_getElem hj]
    exact txtOk_all (h.st.nowT _ (List.getElem_mem hj))
  · rw [List.getElem?_eq_none (by omega)];rfl
theorem WorldP.see_ok {w:WorldT} (h:WorldP w) {j:Nat} (hj:j<48):okB (w.see j)=true:=by
  have g:∀ i,i<3→okB ((w.own i).t.getD j 0)=true:=fun i hi=>by
    obtain ⟨h1,_,_,h4⟩:=ownOk_bd (h.own i hi)
    rw [List.getD_eq_getElem?_getD,List.getElem?_eq_getElem (by omega)]
    exact List.all_eq_true.1 h4 _ (List.getElem_mem _)
  unfold WorldT.see
  split
  · exact g 2 (by omega)
  · split
    · exact g 1 (by omega)
    · split
      · exact g 0 (by omega)
      · exact h.byte_ok j
theorem all_of_get {xs:Bs} {P:UInt8→Bool} (h:∀ j,j<xs.length→P (xs.getD j 0)=true):xs.all P=true:=by
  rw [List.all_eq_true]
  intro c hc
  obtain ⟨j,hj,rfl⟩:=List.getElem_of_mem hc
  have:=h j hj
  rwa [List.getD_eq_getElem?_getD,List.getElem?_eq_getElem hj] at this
theorem WorldP.text_ok {w:WorldT} (h:WorldP w):txtOk w.text=true:=by
  obtain ⟨a1,a2⟩:=h.textGet
  simp only [txtOk,Bool.and_eq_true,Bool.not_eq_true',ltI_not]
  refine ⟨all_of_get fun j hj=>?_,by omega⟩
  rw [a2 j (by omega)]
  exact h.see_ok (by omega)
theorem twS_of {s:Bs} {k:Int} {x:Bs} (h1:txtOk s=true) (h2:wrOk k x=true):twS s k x=(wrS s k.toNat x,true):=by
  simp only [twS,h1,h2,if_true]
theorem doW_write {w:WorldT} {e:EvT} (hw:WorldP w) (hk:e.kind=3) (h:(doW w e).2.2=0):e.who.toNat<3∧w.live e.who.toNat=true∧0≤e.pos∧WriteR w e.who.toNat e.pos.toNat e.data (doW w e).1:=by
  unfold doW at h ⊢
  rw [if_neg (by omega),if_neg (by omega),if_neg (by omega)] at h ⊢
  split at h
  · exact absurd h (by simp)
  · rename_i hf
    obtain ⟨hi,_⟩:=form_who hf
    rw [if_neg hf]
    rw [if_neg (by omega)] at h ⊢
    split at h
    · exact absurd h (by simp)
    · rename_i hl
      rw [if_neg hl]
      rw [Bool.not_eq_false] at hl
      unfold whoW at h ⊢
      rw [if_neg (by omega),if_neg (by omega),if_pos hk] at h ⊢
      obtain ⟨g1,g2⟩:=writeW_fine hw hi hl h
      exact ⟨hi,hl,g1,g2⟩
theorem evict_fine {w:WorldT} {k:Nat} (h:(evictW w k).2=0):(evictW w k).1.locks=w.locks.set k noH∧(evictW w k).1.alive=w.alive.set k true∧(evictW w k).1.owns=w.owns.set k noO∧(evictW w k).1.epochs=w.epochs.set k (w.ep k+1)∧(evictW w k).1.size=w.size∧(evictW w k).1.many=w.many∧(evictW w k).1.st.now=w.st.now∧(evictW w k).1.kept=[]:=by
  unfold evictW at h ⊢
  split at h
  · rename_i q
    rw [if_pos q]
    exact ⟨rfl,rfl,rfl,rfl,rfl,rfl,rfl,rfl⟩
  · exact absurd h (by simp)
end Go.Ev


namespace Go.Ev
abbrev reqL (q:ReqT):List L:=[.int .i64 q.who,.int .i64 q.epoch,.int .i64 q.num,.int .i64 q.obj,.int .i64 q.pos,.str q.data]
abbrev strsL (xs:List Bs):List (List L):=xs.map fun s=>[.str s]
abbrev intsL (xs:List Int):List (List L):=xs.map fun n=>[.int .i64 n]
abbrev storeL (s:StoreT):List L:=[.sl (strsL s.now),.sl (strsL s.sure),.sl (intsL s.last),.sl (intsL s.slast),.sl (intsL s.floors)]
abbrev holdL (h:HoldT):List L:=[.sl (h.r.map spL),.sl (h.w.map spL)]
abbrev ownL (o:OwnT):List L:=owL o.t o.h o.d
abbrev boolsL (xs:List Bool):List (List L):=xs.map fun b=>[.bool b]
abbrev worldL (w:WorldT):List L:=[.int .i64 w.size,.int .i64 w.many,.sl (strsL w.st.now),.sl (strsL w.st.sure),.sl (intsL w.st.last),.sl (intsL w.st.slast),.sl (intsL w.st.floors),.sl (w.locks.map holdL),.sl (w.owns.map ownL),.sl (intsL w.epochs),.sl (boolsL w.alive),.sl (w.kept.map reqL),.sl (w.late.map reqL)]
abbrev evL (e:EvT):List L:=[.int .i64 e.kind,.int .i64 e.who,.bool e.write,.int .i64 e.span.1,.int .i64 e.span.2,.int .i64 e.pos,.str e.data]
end Go.Ev


set_option maxRecDepth 100000
set_option maxHeartbeats 4000000
namespace Go.Ev
open Go.Proofs
def holdB (h:HoldT):Prop:=h.r.length≤4000000∧h.w.length≤4000000
def ownB (o:OwnT):Prop:=o.h.length≤4000000∧o.d.length≤4000000
end Go.Ev

