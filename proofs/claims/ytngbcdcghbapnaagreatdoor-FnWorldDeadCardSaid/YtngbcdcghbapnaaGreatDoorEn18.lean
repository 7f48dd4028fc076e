/- My texts joined: EvW6, EvW7, EvW8, EvW9, EvQ1, EvT51, EvT55. No condition. -/
import Derived.Test.YtngbcdcghbapnaaGreatDoorEn1
import Derived.Test.YtngbcdcghbapnaaGreatDoorEn2
import Derived.Test.YtngbcdcghbapnaaGreatDoorEn5
import Derived.Test.YtngbcdcghbapnaaGreatDoorEn6
import Derived.Test.YtngbcdcghbapnaaGreatDoorEn7
import Derived.Test.YtngbcdcghbapnaaGreatDoorEn8
import Derived.Test.YtngbcdcghbapnaaGreatDoorEn9
import Derived.Test.YtngbcdcghbapnaaGreatDoorEn10
import Derived.Test.YtngbcdcghbapnaaGreatDoorEn11
import Derived.Test.YtngbcdcghbapnaaGreatDoorEn12
import Derived.Test.YtngbcdcghbapnaaGreatDoorEn13
import Derived.Test.YtngbcdcghbapnaaGreatDoorEn14
import Derived.Test.YtngbcdcghbapnaaGreatDoorEn15
import Derived.Test.YtngbcdcghbapnaaGreatDoorEn16
import Derived.Test.YtngbcdcghbapnaaGreatDoorEn17
set_option linter.unusedVariables false
set_option linter.unusedSimpArgs false

namespace Go.Ev
def overAll (t:Bs):List Sp→Bs→Bs
 | [],s=>s
 | d::ds,s=>overAll t ds (overS s d (subS t d))
def textF:List OwnT→Bs→Bs
 | [],s=>s
 | o::os,s=>textF os (overAll o.t o.d s)
def WorldT.text (w:WorldT):Bs:=textF w.owns w.file
theorem overAll_get (t:Bs) (ht:t.length=48):∀ (ds:List Sp) (s:Bs),(∀ d∈ds,0≤d.1∧d.1<d.2∧d.2≤48)→s.length=48→(overAll t ds s).length=48∧∀ j,(overAll t ds s).getD j 0=if inF ds j=true then t.getD j 0 else s.getD j 0
 | [],s,_,hs=>⟨hs,fun j=>by simp [overAll,inF]⟩
 | d::ds,s,hd,hs=>by
  have h0:=hd d (by simp)
  obtain ⟨lo,hi,rfl,h1,h2⟩:=nat_sp h0
  have hl:(subS t ((lo:Int),(hi:Int))).length=hi - lo:=by simp [subS];omega
  have hlen:(overS s ((lo:Int),(hi:Int)) (subS t ((lo:Int),(hi:Int)))).length=48:=by
   rw [overS_len _ _ _ (by omega) (by omega) (by dsimp only;omega),hl]
   dsimp only
   omega
  obtain ⟨g1,g2⟩:=overAll_get t ht ds _ (fun q hq=>hd q (by simp [hq])) hlen
  refine ⟨g1,fun j=>?_⟩
  rw [overAll,g2 j]
  have e4:inF (((lo:Int),(hi:Int))::ds) j=(inSp j ((lo:Int),(hi:Int)) || inF ds j):=rfl
  have hab:inSp j ((lo:Int),(hi:Int))=true↔lo≤j∧j<hi:=by rw [inSp_iff];dsimp only;omega
  rw [e4]
  cases e:inF ds j
  ·simp only [Bool.or_false,Bool.false_eq_true,if_false]
   rw [List.getD_eq_getElem?_getD,overS_get s _ lo hi (by omega) (by omega) hl j]
   by_cases hc:lo≤j∧j<hi
   ·rw [if_pos hc,if_pos (hab.2 hc),subS_get t lo hi _ (by omega),show lo+(j - lo)=j by omega,List.getD_eq_getElem?_getD]
   ·rw [if_neg hc,if_neg (fun q=>hc (hab.1 q)),List.getD_eq_getElem?_getD]
  ·simp
def WorldT.see (w:WorldT) (j:Nat):UInt8:=if inF (w.own 2).d j=true then (w.own 2).t.getD j 0 else if inF (w.own 1).d j=true then (w.own 1).t.getD j 0 else if inF (w.own 0).d j=true then (w.own 0).t.getD j 0 else w.byte j
theorem list3 {α:Type} {xs:List α} (d:α) (h:xs.length=3):xs=[xs.getD 0 d,xs.getD 1 d,xs.getD 2 d]:=by
 match xs,h with
 | [a,b,c],_=>rfl
theorem WorldP.textGet {w:WorldT} (h:WorldP w):w.text.length=48∧∀ j,j<48→w.text.getD j 0=w.see j:=by
 have e:w.owns=[w.own 0,w.own 1,w.own 2]:=list3 noO h.owns
 have b:=fun i (hi:i<3)=>ownOk_bd (h.own i hi)
 have g0:=overAll_get (w.own 0).t (b 0 (by omega)).1 (w.own 0).d w.file (spsOk_sp (b 0 (by omega)).2.2.1) (file_len w)
 have g1:=overAll_get (w.own 1).t (b 1 (by omega)).1 (w.own 1).d _ (spsOk_sp (b 1 (by omega)).2.2.1) g0.1
 have g2:=overAll_get (w.own 2).t (b 2 (by omega)).1 (w.own 2).d _ (spsOk_sp (b 2 (by omega)).2.2.1) g1.1
 have et:w.text=overAll (w.own 2).t (w.own 2).d (overAll (w.own 1).t (w.own 1).d (overAll (w.own 0).t (w.own 0).d w.file)):=by
  unfold WorldT.text
  rw [e];rfl
 rw [et]
 refine ⟨g2.1,fun j hj=>?_⟩
 rw [g2.2,g1.2,g0.2,file_getD w hj]
 rfl
theorem WorldP.see_own {w:WorldT} (h:WorldP w) {i j:Nat} (hi:i<3) (hj:j<48) (hd:inF (w.own i).d j=true):w.see j=(w.own i).t.getD j 0:=by
 have hno:∀ k,k<3→k≠i→inF (w.own k).d j=false:=fun k hk hne=>by
  rw [← Bool.not_eq_true]
  intro hk2
  have:=ownOk_have (h.own k hk) hj hk2
  rw [h.sole hi hk hne hj hd] at this
  cases this
 unfold WorldT.see
 match i,hi with
 | 0,_=>rw [hno 2 (by omega) (by omega),hno 1 (by omega) (by omega),hd];rfl
 | 1,_=>rw [hno 2 (by omega) (by omega),hd];rfl
 | 2,_=>rw [hd];rfl
theorem see_none {w:WorldT} {j:Nat} (hd:∀ i,i<3→inF (w.own i).d j=false):w.see j=w.byte j:=by
 unfold WorldT.see
 rw [hd 2 (by omega),hd 1 (by omega),hd 0 (by omega)]
 rfl
theorem WorldP.see_of {w:WorldT} (h:WorldP w) {j:Nat} (hj:j<48) {v:UInt8} (h1:∀ i,i<3→inF (w.own i).d j=true→(w.own i).t.getD j 0=v) (h2:(∀ i,i<3→inF (w.own i).d j=false)→w.byte j=v):w.see j=v:=by
 by_cases hc:∃ i,i<3∧inF (w.own i).d j=true
 ·obtain ⟨i,hi,hd⟩:=hc
  rw [h.see_own hi hj hd,h1 i hi hd]
 ·have hn:∀ i,i<3→inF (w.own i).d j=false:=fun i hi=>by
   rw [← Bool.not_eq_true]
   exact fun q=>hc ⟨i,hi,q⟩
  rw [see_none hn,h2 hn]
theorem FlushR.see {w x:WorldT} {i:Nat} {s:Sp} (hw:WorldP w) (hi:i<3) (F:FlushR w i s x) {j:Nat} (hj:j<48):x.see j=w.see j:=by
 have hcd:=cutS_get (w.own i).d s j hj
 refine F.ok.see_of hj (fun k hk hd=>?_) (fun hn=>?_)
 ·rw [F.own k hk] at hd ⊢
  by_cases e:i=k
  ·subst e
   rw [if_pos rfl] at hd ⊢
   dsimp only at hd ⊢
   rw [hcd,Bool.and_eq_true] at hd
   exact (hw.see_own hi hj hd.2).symm
  ·rw [if_neg e] at hd ⊢
   exact (hw.see_own hk hj hd).symm
 ·rw [F.byte j]
  by_cases hc:(inSp j s&&inF (w.own i).d j)=true
  ·rw [if_pos hc]
   rw [Bool.and_eq_true] at hc
   exact (hw.see_own hi hj hc.2).symm
  ·rw [if_neg hc]
   refine (see_none fun k hk=>?_).symm
   have:=hn k hk
   rw [F.own k hk] at this
   by_cases e:i=k
   ·subst e
    rw [if_pos rfl] at this
    dsimp only at this
    rw [hcd] at this
    cases e1:inSp j s<;>cases e2:inF (w.own i).d j<;>simp [e1,e2] at this hc ⊢
   ·rwa [if_neg e] at this
theorem YieldsR.see {w x:WorldT} {ks:List Nat} {write:Bool} {s:Sp} (hw:WorldP w) (Y:YieldsR w ks write s x) {j:Nat} (hj:j<48):x.see j=w.see j:=by
 have hdd:∀ q,q<3→inF (x.own q).d j=true→inF (w.own q).d j=true:=fun q hq hd=>by
  by_cases hm:q∈ks
  ·rw [Y.dirty q hq hm j hj,Bool.and_eq_true] at hd;exact hd.2
  ·rwa [Y.own q hq hm] at hd
 refine Y.ok.see_of hj (fun k hk hd=>?_) (fun hn=>?_)
 ·rw [Y.text k hk j hd]
  exact (hw.see_own hk hj (hdd k hk hd)).symm
 ·rcases Y.byte j with e | ⟨q,hq,hm,h1,h2,h3⟩
  ·by_cases hc:∃ i,i<3∧inF (w.own i).d j=true
   ·obtain ⟨i,hi,hd⟩:=hc
    have hx:=hn i hi
    by_cases hm:i∈ks
    ·rw [Y.dirty i hi hm j hj,hd] at hx
     have hjs:inSp j s=true:=by cases e1:inSp j s<;>simp [e1] at hx ⊢
     -- the place was put into the file
     have hk:=ownOk_have (hw.own i hi) hj hd
     rw [hw.see_own hi hj hd]
     -- by the invariant of x at an owner that still keeps it,or by the byte itself
     exact (Y.put i hi hm j hj hjs hd)
    ·rw [Y.own i hi hm,hd] at hx;cases hx
   ·rw [e]
    refine (see_none fun i hi=>?_).symm
    rw [← Bool.not_eq_true]
    exact fun q=>hc ⟨i,hi,q⟩
  ·rw [h3]
   exact (hw.see_own hq hj h2).symm
end Go.Ev


namespace Go.Ev
theorem form_who {e:EvT} (h:¬ formEv e=true):e.who.toNat<3∧0≤e.who∧e.who<3∧1≤e.kind∧e.kind≤9∧((e.kind=1∨e.kind=2)→spOk e.span=true):=by
 simp only [formEv,Bool.or_eq_true,not_or,Bool.not_eq_true,Bool.not_eq_true',Bool.not_eq_false,whoOk,Bool.and_eq_true,ltI_not,ltI_iff,eqI_iff,not_and] at h
 refine ⟨by omega,by omega,by omega,by omega,by omega,h.2⟩
structure ReadR (w:WorldT) (i:Nat) (s:Sp) (x:WorldT) (data:Bs):Prop where
 ok:WorldP x
 own:∀ k,k<3→k≠i→x.own k=w.own k
 dirty:(x.own i).d=(w.own i).d
 text:∀ j,(x.own i).t.getD j 0=if inSp j s=true∧inF (w.own i).d j=false then w.byte j else (w.own i).t.getD j 0
 have':∀ j,j<48→inF (x.own i).h j=(inSp j s || inF (w.own i).h j)
 rest:x={ w with owns:=x.owns }
 data:data=subS (x.own i).t s
 may:∀ j:Nat,inSp j s=true→mayAt (w.lock i) false j=true
theorem ReadR.byte {w x:WorldT} {i:Nat} {s:Sp} {data:Bs} (R:ReadR w i s x data) (j:Nat):x.byte j=w.byte j:=by rw [R.rest];rfl
theorem ReadR.see {w x:WorldT} {i:Nat} {s:Sp} {data:Bs} (hw:WorldP w) (hi:i<3) (R:ReadR w i s x data) {j:Nat} (hj:j<48):x.see j=w.see j:=by
 refine R.ok.see_of hj (fun k hk hd=>?_) (fun hn=>?_)
 ·by_cases e:k=i
  ·subst e
   rw [R.dirty] at hd
   rw [R.text j,if_neg (by rw [hd];simp),hw.see_own hk hj hd]
  ·rw [R.own k hk e] at hd ⊢
   exact (hw.see_own hk hj hd).symm
 ·rw [R.byte]
  refine (see_none fun k hk=>?_).symm
  have:=hn k hk
  by_cases e:k=i
  ·subst e;rwa [R.dirty] at this
  ·rwa [R.own k hk e] at this
structure WriteR (w:WorldT) (i:Nat) (lo:Nat) (data:Bs) (x:WorldT):Prop where
 ok:WorldP x
 own:∀ k,k<3→k≠i→x.own k=w.own k
 dirty:∀ j,j<48→inF (x.own i).d j=(decide (lo≤j∧j<lo+data.length) || inF (w.own i).d j)
 text:∀ j,(x.own i).t.getD j 0=if lo≤j∧j<lo+data.length then data.getD (j - lo) 0 else (w.own i).t.getD j 0
 rest:x={ w with owns:=x.owns }
 lock:∀ j,lo≤j→j<lo+data.length→inF (w.lock i).w j=true
 wr:wrOk lo data=true
theorem WriteR.byte {w x:WorldT} {i lo:Nat} {data:Bs} (R:WriteR w i lo data x) (j:Nat):x.byte j=w.byte j:=by rw [R.rest];rfl
theorem WriteR.see {w x:WorldT} {i lo:Nat} {data:Bs} (hw:WorldP w) (hi:i<3) (R:WriteR w i lo data x) {j:Nat} (hj:j<48):x.see j=if lo≤j∧j<lo+data.length then data.getD (j - lo) 0 else w.see j:=by
 by_cases hc:lo≤j∧j<lo+data.length
 ·rw [if_pos hc]
  have hd:inF (x.own i).d j=true:=by rw [R.dirty j hj];simp [hc]
  rw [R.ok.see_own hi hj hd,R.text,if_pos hc]
 ·rw [if_neg hc]
  refine R.ok.see_of hj (fun k hk hd=>?_) (fun hn=>?_)
  ·by_cases e:k=i
   ·subst e
    rw [R.dirty j hj,decide_eq_false hc,Bool.false_or] at hd
    rw [R.text,if_neg hc,hw.see_own hk hj hd]
   ·rw [R.own k hk e] at hd ⊢
    exact (hw.see_own hk hj hd).symm
  ·rw [R.byte]
   refine (see_none fun k hk=>?_).symm
   have:=hn k hk
   by_cases e:k=i
   ·subst e
    rwa [R.dirty j hj,decide_eq_false hc,Bool.false_or] at this
   ·rwa [R.own k hk e] at this
end Go.Ev


namespace Go.Ev
def noneP (f:Nat→Bool):Bool:=eqP f fun _=>false
theorem noneP_iff {f:Nat→Bool}:noneP f=true↔∀ j,j<48→f j=false:=eqP_iff
def orP (f g:Nat→Bool):Nat→Bool:=fun j=>if g j=true then true else f j
theorem orP_eq (f g:Nat→Bool) (j:Nat):orP f g j=(f j || g j):=by unfold orP;cases g j<;>simp
def lockI:(Nat→Bool)→(Nat→Bool)→List HoldT→Bool
 | _,_,[]=>true
 | a,wr,h::hs=>spsOk h.r&&spsOk h.w&&(noneP (fun j=>inF h.r j&&inF h.w j)&&noneP (fun j=>inF h.w j&&a j)&&noneP (fun j=>inF h.r j&&wr j))&&lockI (orP (orP a (inF h.w)) (inF h.r)) (orP wr (inF h.w)) hs
def lockOkI (t:List HoldT):Bool:=eqI t.length 3&&lockI (fun _=>false) (fun _=>false) t
theorem apart48 {a b:List Sp} (ha:spsOk a=true):apartS a b↔∀ j,j<48→¬ (inF a j=true∧inF b j=true) :=
 ⟨fun h j _=>h j,fun h j hj=>h j (inF_lt ha hj.1) hj⟩
theorem lockI_eq (t:List HoldT):lockOkI t=lockOk t:=by
 rw [Bool.eq_iff_iff,lockOk_iff]
 unfold lockOkI
 rw [Bool.and_eq_true,eqI3]
 constructor
 ·rintro ⟨hl,h⟩
  match t,hl with
  | [a,b,c],_ =>
   simp only [lockI,Bool.and_eq_true,noneP_iff,orP_eq,Bool.or_eq_false_iff,Bool.and_eq_false_imp,Bool.or_false,Bool.false_or,Bool.or_eq_false_iff] at h
   obtain ⟨⟨⟨a1,a2⟩,⟨a3,_⟩,_⟩,⟨⟨b1,b2⟩,⟨b3,b4⟩,b5⟩,⟨⟨c1,c2⟩,⟨c3,c4⟩,c5⟩,_⟩:=h
   have e:∀ x y:List Sp,spsOk x=true→(∀ j,j<48→inF x j=true→inF y j=false)→apartS x y:=fun x y hx hh=>(apart48 hx).2 fun j hj q=>by rw [hh j hj q.1] at q;cases q.2
   have sy:∀ x y:List Sp,apartS x y→apartS y x:=fun x y hh j q=>hh j ⟨q.2,q.1⟩
   refine ⟨rfl,fun i hi=>?_,fun i hi=>?_,fun i hi=>?_,fun i k hi hk hne=>?_,fun i k hi hk hne=>?_⟩
   ·match i,hi with
    | 0,_=>exact a1
    | 1,_=>exact b1
    | 2,_=>exact c1
   ·match i,hi with
    | 0,_=>exact a2
    | 1,_=>exact b2
    | 2,_=>exact c2
   ·match i,hi with
    | 0,_=>exact e _ _ a1 a3
    | 1,_=>exact e _ _ b1 b3
    | 2,_=>exact e _ _ c1 c3
   ·have x01:apartS b.w a.w:=e _ _ b2 fun j hj q=>(b4 j hj q).1
    have x02:apartS c.w a.w:=e _ _ c2 fun j hj q=>(c4 j hj q).1.1.1
    have x12:apartS c.w b.w:=e _ _ c2 fun j hj q=>(c4 j hj q).1.2
    match i,hi,k,hk with
    | 0,_,0,_=>exact absurd rfl hne
    | 0,_,1,_=>exact sy _ _ x01
    | 0,_,2,_=>exact sy _ _ x02
    | 1,_,0,_=>exact x01
    | 1,_,1,_=>exact absurd rfl hne
    | 1,_,2,_=>exact sy _ _ x12
    | 2,_,0,_=>exact x02
    | 2,_,1,_=>exact x12
    | 2,_,2,_=>exact absurd rfl hne
   ·have y10:apartS b.w a.r:=e _ _ b2 fun j hj q=>(b4 j hj q).2
    have y20:apartS c.w a.r:=e _ _ c2 fun j hj q=>(c4 j hj q).1.1.2
    have y21:apartS c.w b.r:=e _ _ c2 fun j hj q=>(c4 j hj q).2
    have y01:apartS a.w b.r:=sy _ _ (e _ _ b1 fun j hj q=>(b5 j hj q))
    have y02:apartS a.w c.r:=sy _ _ (e _ _ c1 fun j hj q=>(c5 j hj q).1)
    have y12:apartS b.w c.r:=sy _ _ (e _ _ c1 fun j hj q=>(c5 j hj q).2)
    match i,hi,k,hk with
    | 0,_,0,_=>exact absurd rfl hne
    | 0,_,1,_=>exact y01
    | 0,_,2,_=>exact y02
    | 1,_,0,_=>exact y10
    | 1,_,1,_=>exact absurd rfl hne
    | 1,_,2,_=>exact y12
    | 2,_,0,_=>exact y20
    | 2,_,1,_=>exact y21
    | 2,_,2,_=>exact absurd rfl hne
 ·intro h
  refine ⟨h.len,?_⟩
  match t,h.len with
  | [a,b,c],_ =>
   have r0:=h.r 0 (by omega)
   have r1:=h.r 1 (by omega)
   have r2:=h.r 2 (by omega)
   have w0:=h.w 0 (by omega)
   have w1:=h.w 1 (by omega)
   have w2:=h.w 2 (by omega)
   have f:∀ x y:List Sp,apartS x y→∀ j,j<48→inF x j=true→inF y j=false:=fun x y hh j _ q=>by
    rw [← Bool.not_eq_true];exact fun q2=>hh j ⟨q,q2⟩
   have sy:∀ x y:List Sp,apartS x y→apartS y x:=fun x y hh j q=>hh j ⟨q.2,q.1⟩
   simp only [lockI,Bool.and_eq_true,noneP_iff,orP_eq,Bool.or_eq_false_iff,Bool.and_eq_false_imp,Bool.or_false,Bool.false_or,Bool.or_eq_false_iff]
   refine ⟨⟨⟨r0,w0⟩,⟨f _ _ (h.rw 0 (by omega)),fun _ _ _=>trivial⟩,fun _ _ _=>trivial⟩,⟨⟨r1,w1⟩,⟨f _ _ (h.rw 1 (by omega)),fun j hj q=>⟨f _ _ (h.ww 1 0 (by omega) (by omega) (by omega)) j hj q,f _ _ (h.wr 1 0 (by omega) (by omega) (by omega)) j hj q⟩⟩,fun j hj q=>f _ _ (sy _ _ (h.wr 0 1 (by omega) (by omega) (by omega))) j hj q⟩,
    ⟨⟨r2,w2⟩,⟨f _ _ (h.rw 2 (by omega)),fun j hj q=>⟨⟨⟨f _ _ (h.ww 2 0 (by omega) (by omega) (by omega)) j hj q,f _ _ (h.wr 2 0 (by omega) (by omega) (by omega)) j hj q⟩,f _ _ (h.ww 2 1 (by omega) (by omega) (by omega)) j hj q⟩,f _ _ (h.wr 2 1 (by omega) (by omega) (by omega)) j hj q⟩⟩,fun j hj q=>⟨f _ _ (sy _ _ (h.wr 0 2 (by omega) (by omega) (by omega))) j hj q,f _ _ (sy _ _ (h.wr 1 2 (by omega) (by omega) (by omega))) j hj q⟩⟩,trivial⟩
theorem doW_full {w:WorldT} {e:EvT} (h:20≤(doW w e).2.2):(doW w e).1=w∧(doW w e).2.1=[]:=by
 unfold doW at h ⊢
 split at h
 ·exact absurd h (by simp)
 ·rename_i h5
  rw [if_neg h5]
  split at h
  ·exact absurd h (by simp)
  ·rename_i h6
   rw [if_neg h6]
   split at h
   ·rename_i h9
    rw [if_pos h9]
    refine ⟨?_,rfl⟩
    unfold giveW at h ⊢
    split at h
    ·rename_i q;rw [if_pos q]
    ·exfalso
     dsimp only at h
     unfold storeDo at h
     repeat' split at h
     all_goals simp at h
   ·rename_i h9
    rw [if_neg h9]
    split at h
    ·rename_i hf;rw [if_pos hf];exact ⟨rfl,rfl⟩
    ·rename_i hf
     rw [if_neg hf]
     split at h
     ·rename_i h8
      rw [if_pos h8]
      refine ⟨?_,rfl⟩
      unfold evictW at h ⊢
      split at h
      ·exact absurd h (by simp)
      ·rename_i q;rw [if_neg q]
     ·rename_i h8
      rw [if_neg h8]
      split at h
      ·rename_i hl;rw [if_pos hl];exact ⟨rfl,rfl⟩
      ·rename_i hl
       rw [if_neg hl]
       unfold whoW at h ⊢
       split at h
       ·rename_i h1
        rw [if_pos h1]
        refine ⟨?_,rfl⟩
        unfold lockW at h ⊢
        split at h
        ·rename_i q;rw [if_pos q]
        ·rename_i q
         rw [if_neg q]
         split at h
         ·rename_i hy;simp only [hy]
         ·rename_i x hy
          simp only [hy]
          split at h
          ·exact absurd h (by simp)
          ·rename_i q2;rw [if_neg q2]
       ·rename_i h1
        rw [if_neg h1]
        split at h
        ·rename_i h2
         rw [if_pos h2]
         unfold readW at h ⊢
         split at h
         ·rename_i q
          rw [if_pos q]
          split at h
          ·exact absurd h (by simp)
          ·rename_i q2;rw [if_neg q2];exact ⟨rfl,rfl⟩
         ·rename_i q;rw [if_neg q];exact ⟨rfl,rfl⟩
        ·rename_i h2
         rw [if_neg h2]
         split at h
         ·rename_i h3
          rw [if_pos h3]
          refine ⟨?_,rfl⟩
          unfold writeW at h ⊢
          split at h
          ·rename_i q
           rw [if_pos q]
           split at h
           ·rename_i q2
            rw [if_pos q2]
            split at h
            ·exact absurd h (by simp)
            ·rename_i q3;rw [if_neg q3]
           ·rename_i q2;rw [if_neg q2]
          ·rename_i q;rw [if_neg q]
         ·rename_i h3
          rw [if_neg h3]
          split at h
          ·rename_i h4
           rw [if_pos h4]
           split at h
           ·exact absurd h (by simp)
           ·rename_i hy;simp only [hy];exact ⟨trivial,trivial⟩
          ·exact absurd h (by simp)
end Go.Ev


namespace Go.Ev
def newSt:StoreT:=⟨[[],[],[]],[[],[],[]],[0,0,0],[0,0,0],[0,0,0]⟩
def newW (size many:Int):WorldT:=⟨size,many,newSt,[noH,noH,noH],[noO,noO,noO],[0,0,0],[true,true,true],[],[]⟩
def layOk (size many:Int):Bool:=!ltI size 1&&!ltI 8 size&&!ltI many 1&&!ltI 3 many
theorem layOk_iff {size many:Int}:layOk size many=true↔1≤size∧size≤8∧1≤many∧many≤3:=by
 simp only [layOk,Bool.and_eq_true,Bool.not_eq_true',ltI_not]
 omega
theorem three {P:Nat→Prop} (h0:P 0) (h1:P 1) (h2:P 2):∀ i,i<3→P i:=fun i hi=>by
 match i,hi with
 | 0,_=>exact h0
 | 1,_=>exact h1
 | 2,_=>exact h2
theorem newW_ok {size many:Int} (h:layOk size many=true):WorldP (newW size many):=by
 have hown:∀ i,i<3→(newW size many).own i=noO:=three rfl rfl rfl
 refine ⟨layOk_iff.1 h,storeOk_iff.1 (show storeOk newSt=true by decide),lockOk_iff.1 (show lockOk [noH,noH,noH]=true by decide),rfl,rfl,rfl,by simp [newW],fun i hi=>by rw [hown i hi];exact noO_ok,three ⟨Int.le_refl 0,show (0:Int)≤100 by decide⟩ ⟨Int.le_refl 0,show (0:Int)≤100 by decide⟩ ⟨Int.le_refl 0,show (0:Int)≤100 by decide⟩,fun i hi _=>hown i hi,rfl,by simp [newW],by simp [newW],fun i hi j hj hh=>?_⟩
 rw [hown i hi] at hh
 exact absurd hh (by simp [noO,inF])
def playW (w:WorldT):List EvT→WorldT × List Int
 | []=>(w,[])
 | e::es=>((playW (doW w e).1 es).1,(doW w e).2.2::(playW (doW w e).1 es).2)
theorem playW_ok:∀ (es:List EvT) {w:WorldT},WorldP w→WorldP (playW w es).1
 | [],w,h=>h
 | e::es,w,h=>playW_ok es (doW_ok h e)
theorem twS_of {s:Bs} {k:Int} {x:Bs} (h1:txtOk s=true) (h2:wrOk k x=true):twS s k x=(wrS s k.toNat x,true):=by
 simp only [twS,h1,h2,if_true]
theorem evict_fine {w:WorldT} {k:Nat} (h:(evictW w k).2=0):(evictW w k).1.locks=w.locks.set k noH∧(evictW w k).1.alive=w.alive.set k true∧(evictW w k).1.owns=w.owns.set k noO∧(evictW w k).1.epochs=w.epochs.set k (w.ep k+1)∧(evictW w k).1.size=w.size∧(evictW w k).1.many=w.many∧(evictW w k).1.st.now=w.st.now∧(evictW w k).1.kept=[]:=by
 unfold evictW at h ⊢
 split at h
 ·rename_i q
  rw [if_pos q]
  exact ⟨rfl,rfl,rfl,rfl,rfl,rfl,rfl,rfl⟩
 ·exact absurd h (by simp)
end Go.Ev


namespace Go.Ev
abbrev reqL (q:ReqT):List L:=[.int .i64 q.who,.int .i64 q.epoch,.int .i64 q.num,.int .i64 q.obj,.int .i64 q.pos,.str q.data]
abbrev strsL (xs:List Bs):List (List L):=xs.map fun s=>[.str s]
abbrev intsL (xs:List Int):List (List L):=xs.map fun n=>[.int .i64 n]
abbrev storeL (s:StoreT):List L:=[.sl (strsL s.now),.sl (strsL s.sure),.sl (intsL s.last),.sl (intsL s.slast),.sl (intsL s.floors)]
abbrev holdL (h:HoldT):List L:=[.sl (h.r.map spL),.sl (h.w.map spL)]
abbrev ownL (o:OwnT):List L:=owL o.t o.h o.d
abbrev boolsL (xs:List Bool):List (List L):=xs.map fun b=>[.bool b]
abbrev worldL (w:WorldT):List L:=[.int .i64 w.size,.int .i64 w.many,.sl (strsL w.st.now),.sl (strsL w.st.sure),.sl (intsL w.st.last),.sl (intsL w.st.slast),.sl (intsL w.st.floors),.sl (w.locks.map holdL),.sl (w.owns.map ownL),.sl (intsL w.epochs),.sl (boolsL w.alive),.sl (w.kept.map reqL),.sl (w.late.map reqL)]
abbrev evL (e:EvT):List L:=[.int .i64 e.kind,.int .i64 e.who,.bool e.write,.int .i64 e.span.1,.int .i64 e.span.2,.int .i64 e.pos,.str e.data]
end Go.Ev


set_option maxRecDepth 100000
set_option maxHeartbeats 4000000
namespace Go.Ev
open Go.Proofs
def holdB (h:HoldT):Prop:=h.r.length≤4000000∧h.w.length≤4000000
def ownB (o:OwnT):Prop:=o.h.length≤4000000∧o.d.length≤4000000
end Go.Ev


set_option maxRecDepth 100000
set_option maxHeartbeats 4000000
namespace Go.Ev
open Go.Proofs
structure StoreB (s:StoreT):Prop where
 now:s.now.length≤4000000
 sure:s.sure.length≤4000000
 last:s.last.length≤4000000
 slast:s.slast.length≤4000000
 floors:s.floors.length≤4000000
structure WorldB (w:WorldT):Prop where
 st:StoreB w.st
 locks:w.locks.length≤4000000
 holds:∀ h∈w.locks,holdB h
 owns:w.owns.length≤4000000
 owned:∀ o∈w.owns,ownB o
 epochs:w.epochs.length≤4000000
 alive:w.alive.length≤4000000
 kept:w.kept.length≤4000000
 late:w.late.length≤4000000
end Go.Ev

