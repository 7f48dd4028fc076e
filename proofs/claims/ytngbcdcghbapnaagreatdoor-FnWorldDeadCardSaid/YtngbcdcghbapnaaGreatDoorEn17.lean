/- My texts joined: EvW5. No condition. -/
import Derived.Test.YtngbcdcghbapnaaGreatDoorEn1
import Derived.Test.YtngbcdcghbapnaaGreatDoorEn2
import Derived.Test.YtngbcdcghbapnaaGreatDoorEn5
import Derived.Test.YtngbcdcghbapnaaGreatDoorEn6
import Derived.Test.YtngbcdcghbapnaaGreatDoorEn7
import Derived.Test.YtngbcdcghbapnaaGreatDoorEn8
import Derived.Test.YtngbcdcghbapnaaGreatDoorEn9
import Derived.Test.YtngbcdcghbapnaaGreatDoorEn10
import Derived.Test.YtngbcdcghbapnaaGreatDoorEn11
import Derived.Test.YtngbcdcghbapnaaGreatDoorEn12
import Derived.Test.YtngbcdcghbapnaaGreatDoorEn13
import Derived.Test.YtngbcdcghbapnaaGreatDoorEn14
import Derived.Test.YtngbcdcghbapnaaGreatDoorEn15
import Derived.Test.YtngbcdcghbapnaaGreatDoorEn16
set_option linter.unusedVariables false
set_option linter.unusedSimpArgs false

namespace Go.Ev
structure YieldsR (w:WorldT) (ks:List Nat) (write:Bool) (s:Sp) (x:WorldT):Prop where
 ok:WorldP x
 size:x.size=w.size
 many:x.many=w.many
 epochs:x.epochs=w.epochs
 alive:x.alive=w.alive
 late:x.late=w.late
 lock:∀ q,q<3→q ∉ ks→x.lock q=w.lock q
 own:∀ q,q<3→q ∉ ks→x.own q=w.own q
 dirty:∀ q,q<3→q∈ks→∀ j,j<48→inF (x.own q).d j=(!inSp j s&&inF (w.own q).d j)
 text:∀ q,q<3→∀ j,inF (x.own q).d j=true→(x.own q).t.getD j 0=(w.own q).t.getD j 0
 byte:∀ j,x.byte j=w.byte j∨∃ q,q<3∧q∈ks∧inSp j s=true∧inF (w.own q).d j=true∧x.byte j=(w.own q).t.getD j 0
 put:∀ q,q<3→q∈ks→∀ j:Nat,j<48→inSp j s=true→inF (w.own q).d j=true→x.byte j=(w.own q).t.getD j 0
 lw:∀ q,q<3→q∈ks→∀ j,j<48→inF (x.lock q).w j=(!inSp j s&&inF (w.lock q).w j)
 lr:write=true→∀ q,q<3→q∈ks→∀ j,j<48→inF (x.lock q).r j=(!inSp j s&&inF (w.lock q).r j)
 lr2:∀ q,q<3→∀ j,j<48→inF (x.lock q).r j=true→inF (w.lock q).r j=true∨inF (w.lock q).w j=true
 floors:x.st.floors=w.st.floors
theorem yieldsW_ok {write:Bool} {s:Sp}:∀ (ks:List Nat) {w x:WorldT},WorldP w→(∀ k∈ks,k<3∧w.live k=true)→ks.Nodup→yieldsW write s ks w=some x→YieldsR w ks write s x
 | [],w,x,hw,_,_,h=>by
  simp only [yieldsW,Option.some.injEq] at h
  subst h
  exact ⟨hw,rfl,rfl,rfl,rfl,rfl,fun _ _ _=>rfl,fun _ _ _=>rfl,fun _ _ h=>absurd h (by simp),fun _ _ _ _=>rfl,fun _=>.inl rfl,fun _ _ h=>absurd h (by simp),fun _ _ h=>absurd h (by simp),fun _ _ _ h=>absurd h (by simp),fun _ _ _ _ h=>.inl h,rfl⟩
 | k::ks,w,x,hw,hk,hnd,h=>by
  simp only [yieldsW] at h
  split at h<;>try (cases h;done)
  rename_i y hy
  obtain ⟨hk3,hka⟩:=hk k (by simp)
  have Y:=yieldW_ok hw hk3 hka hy
  have hnk:=(List.nodup_cons.1 hnd).1
  have X:=yieldsW_ok ks Y.ok (fun q hq=>⟨(hk q (by simp [hq])).1,by have:=(hk q (by simp [hq])).2;unfold WorldT.live at this ⊢;rw [Y.alive];exact this⟩) (List.nodup_cons.1 hnd).2 h
  refine ⟨X.ok,X.size.trans Y.size,X.many.trans Y.many,X.epochs.trans Y.epochs,X.alive.trans Y.alive,X.late.trans Y.late,fun q hq hn=>?_,fun q hq hn=>?_,fun q hq hm j hj=>?_,fun q hq j hj=>?_,fun j=>?_,fun q hq hm j hj hs hd=>?_,fun q hq hm j hj=>?_,fun hwr q hq hm j hj=>?_,fun q hq j hj hh=>?_,X.floors.trans Y.floors⟩
  ·simp only [List.mem_cons,not_or] at hn
   rw [X.lock q hq hn.2,Y.lock q hq hn.1]
  ·simp only [List.mem_cons,not_or] at hn
   rw [X.own q hq hn.2,Y.own q hq hn.1]
  ·rcases List.mem_cons.1 hm with rfl | hm
   ·rw [X.own q hq hnk];exact Y.dirty j hj
   ·have hne:q≠k:=fun e=>hnk (e ▸ hm)
    rw [X.dirty q hq hm j hj,Y.own q hq hne]
  ·rw [X.text q hq j hj]
   by_cases hqk:q=k
   ·subst hqk
    rw [X.own q hq hnk] at hj
    exact Y.text j hj
   ·rw [Y.own q hq hqk]
  ·have hy:=Y.byte j
   rcases X.byte j with e | ⟨q,hq,hm,h1,h2,h3⟩
   ·rw [e,hy]
    by_cases hc:(inSp j s&&inF (w.own k).d j)=true
    ·rw [if_pos hc]
     rw [Bool.and_eq_true] at hc
     exact .inr ⟨k,hk3,by simp,hc.1,hc.2,rfl⟩
    ·rw [if_neg hc];exact .inl rfl
   ·have hne:q≠k:=fun e=>hnk (e ▸ hm)
    rw [Y.own q hq hne] at h2 h3
    exact .inr ⟨q,hq,by simp [hm],h1,h2,h3⟩
  ·rcases List.mem_cons.1 hm with rfl | hm
   ·have hy:=Y.byte j
    rw [hs,hd] at hy
    simp only [Bool.and_self,if_true] at hy
    rcases X.byte j with e | ⟨p,hp,hpm,_,h2,_⟩
    ·rw [e,hy]
    ·have hne:p≠q:=fun e=>hnk (e ▸ hpm)
     rw [Y.own p hp hne] at h2
     have:=ownOk_have (hw.own p hp) hj h2
     rw [hw.sole hq hp hne hj hd] at this
     cases this
   ·have hne:q≠k:=fun e=>hnk (e ▸ hm)
    have:=X.put q hq hm j hj hs (by rw [Y.own q hq hne];exact hd)
    rw [this,Y.own q hq hne]
  ·rcases List.mem_cons.1 hm with rfl | hm
   ·rw [X.lock q hq hnk];exact Y.lw j hj
   ·have hne:q≠k:=fun e=>hnk (e ▸ hm)
    rw [X.lw q hq hm j hj,Y.lock q hq hne]
  ·rcases List.mem_cons.1 hm with rfl | hm
   ·rw [X.lock q hq hnk];exact Y.lr j hj hwr
   ·have hne:q≠k:=fun e=>hnk (e ▸ hm)
    rw [X.lr hwr q hq hm j hj,Y.lock q hq hne]
  ·by_cases hqk:q=k
   ·subst hqk
    rw [X.lock q hq hnk] at hh
    exact Y.lr2 j hj hh
   ·have:=X.lr2 q hq j hj hh
    rw [Y.lock q hq hqk] at this
    exact this
theorem bars_mem {t:List HoldT} {i k:Nat} {write:Bool} {s:Sp}:k∈lockBars t i write s↔k<3∧barsAt t i write s k=true:=by
 simp [lockBars]
theorem bars_nodup (t:List HoldT) (i:Nat) (write:Bool) (s:Sp):(lockBars t i write s).Nodup:=by
 unfold lockBars
 exact List.Nodup.sublist List.filter_sublist List.nodup_range
theorem give_ok {x:WorldT} {i:Nat} {write:Bool} {s:Sp} (hx:WorldP x) (hi:i<3) (ha:x.live i=true) (h:(lockGive x.locks i write s).2=true) :
  WorldP { x with locks:=(lockGive x.locks i write s).1 } ∧
  (lockGive x.locks i write s).1=x.locks.set i (if write=true then ⟨cutS (x.lock i).r s,addS (x.lock i).w s⟩ else ⟨ofL (fun j=>(inSp j s || inF (x.lock i).r j)&&!inF (x.lock i).w j) 48 0 [],(x.lock i).w⟩):=by
 unfold lockGive at h ⊢
 cases hwr:write
 ·rw [hwr] at h
  simp only [Bool.false_eq_true,if_false] at h ⊢
  obtain ⟨hl,hle⟩:=putL_ok h
  refine ⟨?_,hle⟩
  rw [hle]
  have W:=hx.turn hi (x.own i) _ hl (hx.own i hi) ha (fun j hj hh=>by
   have:=hx.held i hi j hj hh
   refine ⟨?_,this.2⟩
   dsimp only
   rw [of_get _ hj]
   change inF (x.lock i).w j=true∨inF (x.own i).d j=false∧((inSp j s || inF (x.lock i).r j)&&!inF (x.lock i).w j)=true
   rcases this.1 with q | ⟨q1,q2⟩
   ·exact .inl q
   ·refine .inr ⟨q1,?_⟩
    have:inF (x.lock i).w j=false:=by
     rw [← Bool.not_eq_true]
     exact fun hw=>hx.lk.rw i hi j ⟨q2,hw⟩
    rw [q2,this];simp)
  rwa [own_self x hx.owns hi] at W
 ·rw [hwr] at h
  simp only [if_true] at h ⊢
  obtain ⟨hl,hle⟩:=putL_ok h
  refine ⟨?_,hle⟩
  rw [hle]
  have W:=hx.turn hi (x.own i) _ hl (hx.own i hi) ha (fun j hj hh=>by
   have:=hx.held i hi j hj hh
   refine ⟨?_,this.2⟩
   dsimp only
   rw [cutS_get _ s j hj,addS_get _ s j hj]
   change (inSp j s || inF (x.lock i).w j)=true∨inF (x.own i).d j=false∧(!inSp j s&&inF (x.lock i).r j)=true
   rcases this.1 with q | ⟨q1,q2⟩
   ·left;rw [q];simp
   ·cases e:inSp j s
    ·right;exact ⟨q1,by rw [q2];rfl⟩
    ·left;rfl)
  rwa [own_self x hx.owns hi] at W
theorem lockW_ok {w:WorldT} {i:Nat} {write:Bool} {s:Sp} (hw:WorldP w) (hi:i<3) (ha:w.live i=true):WorldP (lockW w i write s).1:=by
 unfold lockW
 split
 ·exact hw
 ·rename_i hd
  split
  ·exact hw
  ·rename_i x hx
   split
   ·rename_i hg
    have hall:∀ k∈lockBars w.locks i write s,k<3∧w.live k=true:=fun k hk=>⟨(bars_mem.1 hk).1,by
     simp only [List.any_eq_true,Bool.not_eq_true',not_exists,not_and,Bool.not_eq_false] at hd
     exact hd k hk⟩
    have Y:=yieldsW_ok _ hw hall (bars_nodup _ _ _ _) hx
    exact (give_ok Y.ok hi (by unfold WorldT.live at ha ⊢;rw [Y.alive];exact ha) hg).1
   ·exact hw
theorem lockMay_iff {h:HoldT} {write:Bool} {s:Sp} (hs:0≤s.1∧s.1<s.2∧s.2≤48):lockMay h write s=true↔∀ j:Nat,inSp j s=true→mayAt h write j=true:=by
 rw [lockMay,allTo_iff]
 constructor
 ·intro g j hj
  rw [inSp_iff] at hj
  exact g j (by omega) (by omega)
 ·intro g j h1 h2
  exact g j (inSp_iff.2 (by omega))
theorem file_get (w:WorldT) {j:Nat} (hj:j<48):w.file[j]?=some (w.byte j):=by
 simp [WorldT.file,hj]
theorem file_len (w:WorldT):w.file.length=48:=by simp [WorldT.file]
theorem fillOk_of {p:Sp} {x:Bs} (h:fillOk p x=true):spOk p=true∧x.length=p.2 - p.1:=by
 simp only [fillOk,Bool.and_eq_true,eqI_iff] at h
 exact ⟨h.1.1,h.2⟩
theorem fill_getD {o:OwnT} {lo hi:Nat} {x:Bs} (h1:lo<hi) (h2:hi≤48) (ht:o.t.length=48) (hx:x.length=hi - lo) (j:Nat):(fillT o.d x lo (hi - lo) lo o.t).getD j 0=if lo≤j∧j<hi∧inF o.d j=false then x.getD (j - lo) 0 else o.t.getD j 0:=by
 rw [List.getD_eq_getElem?_getD,fillT_get o.d x lo hi (by omega) h2 hx (hi - lo) lo o.t j (by omega) (by omega) ht]
 by_cases hc:lo≤j∧j<lo+(hi - lo)
 ·rw [if_pos hc]
  cases e:inF o.d j
  ·rw [if_neg (by simp),if_pos ⟨hc.1,by omega,rfl⟩,List.getD_eq_getElem?_getD]
  ·rw [if_pos rfl,if_neg (by simp),List.getD_eq_getElem?_getD]
 ·rw [if_neg hc,if_neg (by omega),List.getD_eq_getElem?_getD]
theorem over_getD {t x:Bs} {lo:Nat} (ht:lo+x.length≤t.length) (j:Nat):(overS t ((lo:Int),(lo:Int)+x.length) x).getD j 0=if lo≤j∧j<lo+x.length then x.getD (j - lo) 0 else t.getD j 0:=by
 have:=overS_get t x lo (lo+x.length) (by omega) ht (by omega) j
 push_cast at this
 rw [List.getD_eq_getElem?_getD,this]
 split<;>rw [List.getD_eq_getElem?_getD]
theorem sub_getD {t:Bs} {lo hi j:Nat} (h:j<hi - lo) (d:UInt8):(subS t ((lo:Int),(hi:Int))).getD j d=t.getD (lo+j) d:=by
 rw [List.getD_eq_getElem?_getD,subS_get t lo hi j (by omega),List.getD_eq_getElem?_getD]
theorem file_getD (w:WorldT) {j:Nat} (hj:j<48) (d:UInt8):w.file.getD j d=w.byte j:=by
 rw [List.getD_eq_getElem?_getD,file_get w hj];rfl
theorem readW_ok {w:WorldT} {i:Nat} {s:Sp} (hw:WorldP w) (hi:i<3) (ha:w.live i=true):WorldP (readW w i s).1:=by
 unfold readW
 split
 ·rename_i hm
  split
  ·rename_i hf
   obtain ⟨hfo,hok,he⟩:=fillT1_ok hf
   obtain ⟨hsp,hxl⟩:=fillOk_of hfo
   have hp:=spOk_iff.1 hsp
   rw [lockMay_iff hp] at hm
   obtain ⟨lo,hi',rfl,h1,h2⟩:=nat_sp hp
   have ht:=(ownOk_bd (hw.own i hi)).1
   rw [he] at hok ⊢
   dsimp only at hxl
   have hn:((hi':Int) - (lo:Int)).toNat=hi' - lo:=by omega
   simp only [Int.toNat_natCast,hn] at hok ⊢
   have W:=hw.turn hi ⟨fillT (w.own i).d (subS w.file ((lo:Int),(hi':Int))) lo (hi' - lo) lo (w.own i).t,addS (w.own i).h ((lo:Int),(hi':Int)),(w.own i).d⟩ (w.lock i) (by rw [lock_self w hw.lk.len hi];exact hw.lk) hok ha (fun j hj hh=>by
    dsimp only at hh ⊢
    rw [addS_get _ _ j hj,Bool.or_eq_true] at hh
    rw [fill_getD h1 h2 ht (by omega)]
    have hab:inSp j ((lo:Int),(hi':Int))=true↔lo≤j∧j<hi':=by rw [inSp_iff];dsimp only;omega
    by_cases hc:lo≤j∧j<hi'
    ·have hmj:=hm j (hab.2 hc)
     cases e:inF (w.own i).d j
     ·rw [if_pos ⟨hc.1,hc.2,rfl⟩,sub_getD (by omega),show lo+(j - lo)=j by omega,file_getD w hj]
      simp only [mayAt,Bool.not_false,Bool.true_and,Bool.or_eq_true] at hmj
      exact ⟨hmj.imp id fun q=>⟨rfl,q⟩,.inr rfl⟩
     ·have:=hw.held i hi j hj (ownOk_have (hw.own i hi) hj e)
      rw [e] at this
      exact ⟨by simpa using this.1,.inl rfl⟩
    ·have hf2:inSp j ((lo:Int),(hi':Int))=false:=by rw [← Bool.not_eq_true,hab];exact hc
     rw [hf2] at hh
     rw [if_neg (fun q=>hc ⟨q.1,q.2.1⟩)]
     exact hw.held i hi j hj (by simpa using hh))
   rwa [lock_self w hw.lk.len hi] at W
  ·exact hw
 ·exact hw
theorem writeW_ok {w:WorldT} {i:Nat} {k:Int} {x:Bs} (hw:WorldP w) (hi:i<3) (ha:w.live i=true):WorldP (writeW w i k x).1:=by
 unfold writeW
 split
 ·rename_i hwr
  split
  ·rename_i hm
   split
   ·rename_i hf
    obtain ⟨_,hok,he⟩:=writeT1_ok hf
    obtain ⟨g1,g2,g3,g4⟩:=wrOk_len hwr
    obtain ⟨lo,rfl⟩:∃ lo:Nat,k=lo:=⟨k.toNat,by omega⟩
    have hp:0≤((lo:Int),(lo:Int)+x.length).1∧((lo:Int),(lo:Int)+x.length).1<((lo:Int),(lo:Int)+x.length).2∧((lo:Int),(lo:Int)+x.length).2≤48:=by dsimp only;omega
    rw [lockMay_iff hp] at hm
    have ht:=(ownOk_bd (hw.own i hi)).1
    rw [he] at hok ⊢
    have W:=hw.turn hi _ (w.lock i) (by rw [lock_self w hw.lk.len hi];exact hw.lk) hok ha (fun j hj hh=>by
     dsimp only at hh ⊢
     rw [addS_get _ _ j hj,Bool.or_eq_true] at hh
     rw [addS_get _ _ j hj,over_getD (by omega)]
     have hab:inSp j ((lo:Int),(lo:Int)+x.length)=true↔lo≤j∧j<lo+x.length:=by rw [inSp_iff];dsimp only;omega
     by_cases hc:lo≤j∧j<lo+x.length
     ·have hmj:=hm j (hab.2 hc)
      rw [hab.2 hc]
      simp only [mayAt,Bool.not_true,Bool.false_and,Bool.or_false] at hmj
      exact ⟨.inl hmj,.inl rfl⟩
     ·have hf2:inSp j ((lo:Int),(lo:Int)+x.length)=false:=by rw [← Bool.not_eq_true,hab];exact hc
      rw [hf2] at hh ⊢
      rw [if_neg hc]
      simpa using hw.held i hi j hj (by simpa using hh))
    rwa [lock_self w hw.lk.len hi] at W
   ·exact hw
  ·exact hw
 ·exact hw
theorem dieW_ok {w:WorldT} {i:Nat} (hw:WorldP w) (hi:i<3):WorldP (dieW w i):=by
 have hown:∀ k,k<3→(w.owns.set i noO).getD k noO=if i=k then noO else w.own k:=fun k hk=>own_set w i k _ hw.owns hk
 refine ⟨hw.lay,hw.st,hw.lk,by simpa [dieW] using hw.owns,hw.epochs,by simpa [dieW] using hw.alive,hw.lateN,fun k hk=>?_,hw.ep,fun k hk hd=>?_,hw.kept,hw.keptE,hw.late,fun k hk j hj hhv=>?_⟩
 ·show OwnT.ok ((w.owns.set i noO).getD k noO)=true
  rw [hown k hk]
  split
  ·exact noO_ok
  ·exact hw.own k hk
 ·show (w.owns.set i noO).getD k noO=noO
  rw [hown k hk]
  by_cases e:i=k
  ·rw [if_pos e]
  ·rw [if_neg e]
   refine hw.dead k hk ?_
   change (w.alive.set i false).getD k false=false at hd
   rw [getD_set,if_neg (fun q=>e q.1)] at hd
   exact hd
 ·change inF ((w.owns.set i noO).getD k noO).h j=true at hhv
  show (inF (w.lock k).w j=true∨(inF ((w.owns.set i noO).getD k noO).d j=false∧inF (w.lock k).r j=true))∧(inF ((w.owns.set i noO).getD k noO).d j=true∨((w.owns.set i noO).getD k noO).t.getD j 0=w.byte j)
  rw [hown k hk] at hhv ⊢
  by_cases e:i=k
  ·rw [if_pos e] at hhv;cases hhv
  ·rw [if_neg e] at hhv ⊢
   exact hw.held k hk j hj hhv
theorem addLate_ok (late0:List ReqT) (P:ReqT→Prop):∀ (qs late:List ReqT),(∀ q∈late,P q)→(∀ q∈qs,reqOk q=true→P q)→late.length≤8→(∀ q∈addLate late qs,P q)∧(addLate late qs).length≤8
 | [],late,h1,_,h3=>⟨h1,h3⟩
 | q::qs,late,h1,h2,h3=>by
  rw [addLate]
  split
  ·rename_i hc
   rw [Bool.and_eq_true,ltI_iff] at hc
   refine addLate_ok late0 P qs _ (fun r hr=>?_) (fun r hr=>h2 r (by simp [hr])) (by simp;omega)
   rcases List.mem_append.1 hr with hr | hr
   ·exact h1 r hr
   ·rw [List.mem_singleton] at hr
    subst hr
    exact h2 r (by simp) hc.1
  ·exact addLate_ok late0 P qs late h1 (fun r hr=>h2 r (by simp [hr])) h3
theorem noH_ok {t:List HoldT} (h:LockP t) (i:Nat):LockP (t.set i noH):=by
 have g:∀ k,k<3→(t.set i noH).getD k noH=if i=k then noH else t.getD k noH:=fun k hk=>lock_set t i k _ h.len hk
 have n1:∀ j,inF noH.r j=false:=fun _=>rfl
 have n2:∀ j,inF noH.w j=false:=fun _=>rfl
 refine ⟨by simpa using h.len,fun k hk=>?_,fun k hk=>?_,fun k hk=>?_,fun k q hk hq hne=>?_,fun k q hk hq hne=>?_⟩
 ·rw [g k hk];split;· rfl
  exact h.r k hk
 ·rw [g k hk];split;· rfl
  exact h.w k hk
 ·rw [g k hk];split
  ·intro j hj;rw [n1] at hj;cases hj.1
  ·exact h.rw k hk
 ·rw [g k hk,g q hq]
  intro j hj
  by_cases e1:i=k
  ·rw [if_pos e1,n2] at hj;cases hj.1
  ·by_cases e2:i=q
   ·rw [if_pos e2,n2] at hj;cases hj.2
   ·rw [if_neg e1,if_neg e2] at hj;exact h.ww k q hk hq hne j hj
 ·rw [g k hk,g q hq]
  intro j hj
  by_cases e1:i=k
  ·rw [if_pos e1,n2] at hj;cases hj.1
  ·by_cases e2:i=q
   ·rw [if_pos e2,n1] at hj;cases hj.2
   ·rw [if_neg e1,if_neg e2] at hj;exact h.wr k q hk hq hne j hj
theorem sync_ok {s:StoreT} (h:StoreP s):StoreP (storeSync s) :=
 ⟨h.now,h.nowT,h.now,h.nowT,h.last,h.last,h.floors,fun i hi=>by have:=h.nums i hi;simp only [storeSync];omega⟩
theorem evictW_ok {w:WorldT} {i:Nat} (hw:WorldP w) (hi:i<3):WorldP (evictW w i).1:=by
 unfold evictW
 split
 ·rename_i he
  rw [ltI_iff] at he
  have hep:=hw.ep i hi
  have hf0:=(hw.st.nums i hi).2.2.2
  have hown:∀ k,k<3→(w.owns.set i noO).getD k noO=if i=k then noO else w.own k:=fun k hk=>own_set w i k _ hw.owns hk
  have hlk:∀ k,k<3→(w.locks.set i noH).getD k noH=if i=k then noH else w.lock k:=fun k hk=>lock_set w.locks i k _ hw.lk.len hk
  have hmx:maxI (w.st.floors.getD i 0) (w.ep i+1)=w.ep i+1:=by simp only [maxI,ltI,decide_eq_true_eq];split<;>omega
  have hfl:∀ k,(storeFence (storeSync w.st) i (w.ep i+1)).floors.getD k 0=if i=k∧k<3 then w.ep i+1 else w.st.floors.getD k 0:=fun k=>by
   show (w.st.floors.set i (maxI (w.st.floors.getD i 0) (w.ep i+1))).getD k 0=_
   rw [getD_set,hmx,hw.st.floors]
  have hepk:∀ k,(w.epochs.set i (w.ep i+1)).getD k 0=if i=k∧k<3 then w.ep i+1 else w.ep k:=fun k=>by
   rw [getD_set,hw.epochs];rfl
  have hS:=sync_ok hw.st
  have hst:StoreP (storeFence (storeSync w.st) i (w.ep i+1)):=⟨hS.now,hS.nowT,hS.sure,hS.sureT,hS.last,hS.slast,by simpa [storeFence] using hS.floors,fun k hk=>by
   have:=hS.nums k hk
   rw [hfl k]
   refine ⟨this.1,this.2.1,this.2.2.1,?_⟩
   split
   ·omega
   ·exact this.2.2.2⟩
  have hlate:=addLate_ok [] (fun q=>ReqP q∧q.epoch<(storeFence (storeSync w.st) i (w.ep i+1)).floors.getD q.who.toNat 0) (w.reqs i whole) w.late (fun q hq=>by
   obtain ⟨a1,a2⟩:=hw.late q hq
   refine ⟨a1,?_⟩
   rw [hfl]
   split
   ·rename_i e
    rw [← e.1] at a2
    omega
   ·exact a2) (fun q hq hr=>by
   have a1:=reqOk_iff.1 hr
   obtain ⟨b1,b2⟩:=reqsAll_who _ _ _ _ _ _ q hq
   refine ⟨a1,?_⟩
   rw [hfl,b1,b2]
   simp only [Int.toNat_natCast,true_and]
   rw [if_pos hi]
   show w.ep i<_
   omega) hw.lateN
  refine ⟨hw.lay,hst,noH_ok hw.lk i,by simpa using hw.owns,by simpa using hw.epochs,by simpa using hw.alive,hlate.2,fun k hk=>?_,fun k hk=>?_,fun k hk hd=>?_,rfl,by simp,hlate.1,fun k hk j hj hhv=>?_⟩
  ·show OwnT.ok ((w.owns.set i noO).getD k noO)=true
   rw [hown k hk]
   split
   ·exact noO_ok
   ·exact hw.own k hk
  ·show (storeFence (storeSync w.st) i (w.ep i+1)).floors.getD k 0≤(w.epochs.set i (w.ep i+1)).getD k 0∧(w.epochs.set i (w.ep i+1)).getD k 0≤100
   rw [hfl,hepk]
   split
   ·omega
   ·exact hw.ep k hk
  ·show (w.owns.set i noO).getD k noO=noO
   rw [hown k hk]
   by_cases e:i=k
   ·rw [if_pos e]
   ·rw [if_neg e]
    refine hw.dead k hk ?_
    change (w.alive.set i true).getD k false=false at hd
    rw [getD_set,if_neg (fun q=>e q.1)] at hd
    exact hd
  ·change inF ((w.owns.set i noO).getD k noO).h j=true at hhv
   show (inF ((w.locks.set i noH).getD k noH).w j=true∨(inF ((w.owns.set i noO).getD k noO).d j=false∧inF ((w.locks.set i noH).getD k noH).r j=true))∧(inF ((w.owns.set i noO).getD k noO).d j=true∨((w.owns.set i noO).getD k noO).t.getD j 0=w.byte j)
   rw [hown k hk] at hhv ⊢
   rw [hlk k hk]
   by_cases e:i=k
   ·rw [if_pos e] at hhv;cases hhv
   ·rw [if_neg e] at hhv ⊢
    rw [if_neg e]
    exact hw.held k hk j hj hhv
 ·exact hw
theorem storeDo_late {s:StoreT} {q:ReqT} (h:ReqP q∧q.epoch<s.floors.getD q.who.toNat 0):storeDo s q=(s,2):=by
 unfold storeDo
 rw [if_pos (reqOk_iff.2 h.1),if_pos (ltI_iff.2 h.2)]
theorem giveW_ok {w:WorldT} {k:Int} (hw:WorldP w):WorldP (giveW w k).1:=by
 unfold giveW
 split
 ·exact hw
 ·rename_i hc
  simp only [Bool.or_eq_true,Bool.not_eq_true',not_or,Bool.not_eq_true,Bool.not_eq_false,ltI_not,ltI_iff] at hc
  have hlt:k.toNat<w.late.length:=by omega
  have hq:=hw.late (w.late.getD k.toNat ⟨0,0,0,0,0,[]⟩) (by
   rw [List.getD_eq_getElem?_getD,List.getElem?_eq_getElem hlt]
   exact List.getElem_mem hlt)
  rw [storeDo_late hq]
  have hlen:=hw.lateN
  refine { hw with lateN:=?_,late:=fun q hq=>hw.late q ?_ }
  ·simp;omega
  ·rcases List.mem_append.1 hq with hq | hq
   ·exact List.mem_of_mem_take hq
   ·exact List.mem_of_mem_drop hq
theorem doW_ok {w:WorldT} (hw:WorldP w) (e:EvT):WorldP (doW w e).1:=by
 unfold doW
 split
 ·have hS:=sync_ok hw.st
  exact { hw with st:=hS,kept:=rfl,keptE:=by simp,ep:=hw.ep,late:=hw.late,held:=hw.held }
 ·split
  ·rw [hw.kept];exact hw
  ·split
   ·exact giveW_ok hw
   ·split
    ·exact hw
    ·rename_i hf
     simp only [formEv,Bool.or_eq_true,not_or,Bool.not_eq_true,Bool.not_eq_true',Bool.not_eq_false,whoOk,Bool.and_eq_true,ltI_not,ltI_iff] at hf
     have hi:e.who.toNat<3:=by omega
     split
     ·exact evictW_ok hw hi
     ·split
      ·exact hw
      ·rename_i hl
       rw [Bool.not_eq_false] at hl
       unfold whoW
       split
       ·exact lockW_ok hw hi hl
       ·split
        ·exact readW_ok hw hi hl
        ·split
         ·exact writeW_ok hw hi hl
         ·split
          ·split
           ·rename_i x hx
            exact (flushW_ok hw hi hl hx).ok
           ·exact hw
          ·exact dieW_ok hw hi
end Go.Ev

