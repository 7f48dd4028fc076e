/- My texts joined: EvM1, EvT23, EvT12. No condition. -/
import Derived.Test.YtngbcdcghbapnaaGreatDoorEn1
import Derived.Test.YtngbcdcghbapnaaGreatDoorEn2
import Derived.Test.YtngbcdcghbapnaaGreatDoorEn5
import Derived.Test.YtngbcdcghbapnaaGreatDoorEn6
import Derived.Test.YtngbcdcghbapnaaGreatDoorEn7
import Derived.Test.YtngbcdcghbapnaaGreatDoorEn8
import Derived.Test.YtngbcdcghbapnaaGreatDoorEn9
set_option linter.unusedVariables false
set_option linter.unusedSimpArgs false

namespace Go.Ev
theorem inSp_iff {j:Int} {s:Sp}:inSp j s=true↔s.1≤j∧j<s.2:=by
 simp [inSp,ltI]
theorem inF_iff {xs:List Sp} {j:Nat}:inF xs j=true↔∃ s∈xs,s.1≤(j:Int)∧(j:Int)<s.2:=by
 simp [inF,List.any_eq_true,inSp_iff]
theorem inF_false {xs:List Sp} {j:Nat}:inF xs j=false↔∀ s∈xs,¬ (s.1≤(j:Int)∧(j:Int)<s.2):=by
 rw [← Bool.not_eq_true,inF_iff]
 simp
structure Can (N:Int) (xs:List Sp):Prop where
 ok:∀ s∈xs,0≤s.1∧s.1<s.2∧s.2≤N
 pw:xs.Pairwise fun a b=>a.2<b.1
theorem Can.tail {N:Int} {s:Sp} {xs:List Sp} (h:Can N (s::xs)):Can N xs:=⟨fun u hu=>h.ok u (by simp [hu]),(List.pairwise_cons.1 h.pw).2⟩
theorem can_uniq {N:Int}:∀ (xs ys:List Sp) (a:Int),Can N xs→Can N ys→0≤a→(∀ s∈xs,a≤s.1)→(∀ s∈ys,a≤s.1)→(∀ j:Int,a≤j→((∃ s∈xs,s.1≤j∧j<s.2)↔(∃ s∈ys,s.1≤j∧j<s.2)))→xs=ys
 | [],[],_,_,_,_,_,_,_=>rfl
 | [],u::v,a,hx,hy,h0,h1,h2,hj=>by
  have:=(hj u.1 (h2 u (by simp))).2 ⟨u,by simp,by omega,(hy.ok u (by simp)).2.1⟩
  simp at this
 | s::r,[],a,hx,hy,h0,h1,h2,hj=>by
  have:=(hj s.1 (h1 s (by simp))).1 ⟨s,by simp,by omega,(hx.ok s (by simp)).2.1⟩
  simp at this
 | s::r,u::v,a,hx,hy,h0,h1,h2,hj=>by
  have hs:=hx.ok s (by simp)
  have hu:=hy.ok u (by simp)
  have pr:=(List.pairwise_cons.1 hx.pw).1
  have pv:=(List.pairwise_cons.1 hy.pw).1
  have l1:u.1≤s.1:=by
   obtain ⟨q,hq,q1,q2⟩:=(hj s.1 (h1 s (by simp))).1 ⟨s,by simp,by omega,hs.2.1⟩
   rcases List.mem_cons.1 hq with rfl | hq
   ·exact q1
   ·have:=pv q hq;omega
  have l2:s.1≤u.1:=by
   obtain ⟨q,hq,q1,q2⟩:=(hj u.1 (h2 u (by simp))).2 ⟨u,by simp,by omega,hu.2.1⟩
   rcases List.mem_cons.1 hq with rfl | hq
   ·exact q1
   ·have:=pr q hq;omega
  have e1:s.1=u.1:=by omega
  have n1:¬ ∃ q∈s::r,q.1≤s.2∧s.2<q.2:=by
   rintro ⟨q,hq,q1,q2⟩
   rcases List.mem_cons.1 hq with rfl | hq
   ·omega
   ·have:=pr q hq;omega
  have n2:¬ ∃ q∈u::v,q.1≤u.2∧u.2<q.2:=by
   rintro ⟨q,hq,q1,q2⟩
   rcases List.mem_cons.1 hq with rfl | hq
   ·omega
   ·have:=pv q hq;omega
  have m1:¬ s.2<u.2:=fun hlt=>n1 ((hj s.2 (by have:=h1 s (by simp);omega)).2 ⟨u,by simp,by omega,hlt⟩)
  have m2:¬ u.2<s.2:=fun hlt=>n2 ((hj u.2 (by have:=h2 u (by simp);omega)).1 ⟨s,by simp,by omega,hlt⟩)
  have e2:s.2=u.2:=by omega
  have e:s=u:=Prod.ext e1 e2
  subst e
  congr 1
  refine can_uniq r v (s.2+1) hx.tail hy.tail (by omega) (fun q hq=>by have:=pr q hq;omega) (fun q hq=>by have:=pv q hq;omega) fun j hjj=>?_
  have:=hj j (by have:=h1 s (by simp);omega)
  constructor
  ·rintro ⟨q,hq,q1,q2⟩
   obtain ⟨q',hq',w1,w2⟩:=this.1 ⟨q,by simp [hq],q1,q2⟩
   rcases List.mem_cons.1 hq' with rfl | hq'
   ·omega
   ·exact ⟨q',hq',w1,w2⟩
  ·rintro ⟨q,hq,q1,q2⟩
   obtain ⟨q',hq',w1,w2⟩:=this.2 ⟨q,by simp [hq],q1,q2⟩
   rcases List.mem_cons.1 hq' with rfl | hq'
   ·omega
   ·exact ⟨q',hq',w1,w2⟩
theorem can_eq {xs ys:List Sp} (hx:Can 48 xs) (hy:Can 48 ys) (h:∀ j:Nat,j<48→inF xs j=inF ys j):xs=ys:=by
 refine can_uniq xs ys 0 hx hy (by omega) (fun s hs=>(hx.ok s hs).1) (fun s hs=>(hy.ok s hs).1) fun j hj=>?_
 obtain ⟨n,rfl⟩:∃ n:Nat,j=n:=⟨j.toNat,by omega⟩
 by_cases hn:n<48
 ·have:=h n hn
  rw [← inF_iff,← inF_iff,this]
 ·constructor
  ·rintro ⟨s,hs,h1,h2⟩
   have:=hx.ok s hs
   omega
  ·rintro ⟨s,hs,h1,h2⟩
   have:=hy.ok s hs
   omega
theorem ofL_can (f:Nat→Bool):∀ (n i:Nat) (out:List Sp),Can i out→(∀ j,j<i→inF out j=f j)→Can ((i+n:Nat):Int) (ofL f n i out)∧∀ j,j<i+n→inF (ofL f n i out) j=f j
 | 0,i,out,h,hj=>⟨h,hj⟩
 | n+1,i,out,h,hj=>by
  have step:Can ((i+1:Nat):Int) (ofStep out i (f i))∧∀ j,j<i+1→inF (ofStep out i (f i)) j=f j:=by
   cases hf:f i with
   | false =>
    simp only [ofStep]
    refine ⟨⟨fun s hs=>by have:=h.ok s hs;omega,h.pw⟩,fun j hjj=>?_⟩
    by_cases e:j=i
    ·subst e
     rw [hf]
     simp only [Bool.false_eq_true,if_false]
     rw [inF_false]
     intro s hs
     have:=h.ok s hs
     omega
    ·exact hj j (by omega)
   | true =>
    rcases List.eq_nil_or_concat out with rfl | ⟨pre,⟨lo,hi⟩,rfl⟩
    ·simp only [ofStep,if_true,List.getLast?_nil]
     refine ⟨⟨fun s hs=>by simp only [List.mem_singleton] at hs;subst hs;dsimp only;omega,by simp⟩,fun j hjj=>?_⟩
     by_cases e:j=i
     ·subst e
      rw [hf,inF_iff]
      exact ⟨((j:Int),(j:Int)+1),by simp,by dsimp only;omega,by dsimp only;omega⟩
     ·rw [← hj j (by omega)]
      have:inF ([]:List Sp) j=false:=rfl
      rw [this,inF_false]
      intro s hs
      simp only [List.mem_singleton] at hs
      subst hs
      dsimp only
      omega
    ·rw [List.concat_eq_append] at h hj ⊢
     have hl:=h.ok (lo,hi) (by simp)
     dsimp only at hl
     have hp:=List.pairwise_append.1 h.pw
     have hpl:∀ s∈pre,s.2<lo:=fun s hs=>hp.2.2 s hs (lo,hi) (by simp)
     simp only [ofStep,if_true,List.getLast?_append,List.getLast?_singleton,Option.or_some,Option.some_or]
     cases e:eqI hi i with
     | true =>
      have e:=eqI_iff.1 e
      simp only [if_true,List.dropLast_concat]
      refine ⟨⟨fun s hs=>?_,List.pairwise_append.2 ⟨hp.1,by simp,fun a ha b hb=>?_⟩⟩,fun j hjj=>?_⟩
      ·rcases List.mem_append.1 hs with hs | hs
       ·have:=h.ok s (by simp [hs]);omega
       ·simp only [List.mem_singleton] at hs;subst hs;dsimp only;omega
      ·simp only [List.mem_singleton] at hb
       subst hb
       exact hpl a ha
      ·by_cases ej:j=i
       ·subst ej
        rw [hf,inF_iff]
        exact ⟨(lo,(j:Int)+1),by simp,by dsimp only;omega,by dsimp only;omega⟩
       ·rw [← hj j (by omega),Bool.eq_iff_iff,inF_iff,inF_iff]
        constructor
        ·rintro ⟨s,hs,h1,h2⟩
         rcases List.mem_append.1 hs with hs | hs
         ·exact ⟨s,by simp [hs],h1,h2⟩
         ·simp only [List.mem_singleton] at hs;subst hs;dsimp only at h1 h2
          exact ⟨(lo,hi),by simp,by dsimp only;omega,by dsimp only;omega⟩
        ·rintro ⟨s,hs,h1,h2⟩
         rcases List.mem_append.1 hs with hs | hs
         ·exact ⟨s,by simp [hs],h1,h2⟩
         ·simp only [List.mem_singleton] at hs;subst hs;dsimp only at h1 h2
          exact ⟨(lo,(i:Int)+1),by simp,by dsimp only;omega,by dsimp only;omega⟩
     | false =>
      have e:=eqI_not.1 e
      simp only [Bool.false_eq_true,if_false]
      refine ⟨⟨fun s hs=>?_,List.pairwise_append.2 ⟨h.pw,by simp,fun a ha b hb=>?_⟩⟩,fun j hjj=>?_⟩
      ·rcases List.mem_append.1 hs with hs | hs
       ·have:=h.ok s hs;omega
       ·simp only [List.mem_singleton] at hs;subst hs;dsimp only;omega
      ·simp only [List.mem_singleton] at hb
       subst hb
       dsimp only
       rcases List.mem_append.1 ha with ha | ha
       ·have:=hpl a ha;omega
       ·simp only [List.mem_singleton] at ha;subst ha;dsimp only;omega
      ·by_cases ej:j=i
       ·subst ej
        rw [hf,inF_iff]
        exact ⟨((j:Int),(j:Int)+1),by simp,by dsimp only;omega,by dsimp only;omega⟩
       ·rw [← hj j (by omega),Bool.eq_iff_iff,inF_iff,inF_iff]
        constructor
        ·rintro ⟨s,hs,h1,h2⟩
         rcases List.mem_append.1 hs with hs | hs
         ·exact ⟨s,hs,h1,h2⟩
         ·simp only [List.mem_singleton] at hs;subst hs;dsimp only at h1 h2;omega
        ·rintro ⟨s,hs,h1,h2⟩
         exact ⟨s,List.mem_append.2 (.inl hs),h1,h2⟩
  have:=ofL_can f n (i+1) (ofStep out i (f i)) step.1 step.2
  rw [show i+1+n=i+(n+1) by omega] at this
  exact this
theorem of_can (f:Nat→Bool):Can 48 (ofL f 48 0 [])∧∀ j,j<48→inF (ofL f 48 0 []) j=f j:=by
 have:=ofL_can f 48 0 [] ⟨by simp,by simp⟩ (fun j hj=>by omega)
 simpa using this
theorem runEnd_spec (f:Nat→Bool):∀ n i,(∀ j,i≤j→j<runEnd f n i→f j=true)∧(runEnd f n i=i+n∨f (runEnd f n i)=false)
 | 0,i=>⟨fun j h1 h2=>by simp [runEnd] at h2;omega,.inl rfl⟩
 | n+1,i=>by
  have:=runEnd_spec f n (i+1)
  simp only [runEnd]
  split
  ·rename_i hf
   refine ⟨fun j h1 h2=>?_,this.2.imp (fun h=>by omega) id⟩
   by_cases e:j=i
   ·subst e;exact hf
   ·exact this.1 j (by omega) h2
  ·rename_i hf
   exact ⟨fun j h1 h2=>by omega,.inr (by simpa using hf)⟩
theorem spansF_can (f:Nat→Bool):∀ (n i:Nat),48≤i+n→Can 48 (spansF f n i)∧(∀ s∈spansF f n i,(i:Int)≤s.1)∧∀ j,i≤j→j<48→inF (spansF f n i) j=f j
 | 0,i,h=>⟨⟨by simp [spansF],by simp [spansF]⟩,by simp [spansF],fun j h1 h2=>by omega⟩
 | n+1,i,h=>by
  simp only [spansF]
  split
  ·rename_i hi
   split
   ·rename_i hf
    have hs:=runEnd_spec f (48 - i) i
    have hl:=runEnd_le f (48 - i) i
    have hgt:i<runEnd f (48 - i) i:=by
     have:48 - i=(47 - i)+1:=by omega
     rw [this,runEnd,if_pos hf]
     have:=(runEnd_le f (47 - i) (i+1)).1
     omega
    generalize runEnd f (48 - i) i=e at hs hl hgt
    obtain ⟨c,lo,hm⟩:=spansF_can f n (e+1) (by omega)
    refine ⟨⟨fun s hs=>?_,List.pairwise_cons.2 ⟨fun s hs=>?_,c.pw⟩⟩,fun s hs=>?_,fun j h1 h2=>?_⟩
    ·rcases List.mem_cons.1 hs with rfl | hs
     ·dsimp only;omega
     ·exact c.ok s hs
    ·have:=lo s hs
     dsimp only
     omega
    ·rcases List.mem_cons.1 hs with rfl | hs
     ·dsimp only;omega
     ·have:=lo s hs;omega
    ·by_cases hje:j<e
     ·rw [hs.1 j h1 hje,inF_iff]
      exact ⟨((i:Int),(e:Int)),by simp,by dsimp only;omega,by dsimp only;omega⟩
     ·have hc:inF (((i:Int),(e:Int))::spansF f n (e+1)) j=inF (spansF f n (e+1)) j:=by
       rw [Bool.eq_iff_iff,inF_iff,inF_iff]
       constructor
       ·rintro ⟨s,hs,q1,q2⟩
        rcases List.mem_cons.1 hs with rfl | hs
        ·dsimp only at q1 q2;omega
        ·exact ⟨s,hs,q1,q2⟩
       ·rintro ⟨s,hs,q1,q2⟩
        exact ⟨s,by simp [hs],q1,q2⟩
      rw [hc]
      by_cases hje2:j=e
      ·subst hje2
       rcases hs.2 with h | h
       ·omega
       ·rw [h,inF_false]
        intro s hs
        have:=lo s hs
        omega
      ·exact hm j (by omega) h2
   ·rename_i hf
    obtain ⟨c,lo,hm⟩:=spansF_can f n (i+1) (by omega)
    refine ⟨c,fun s hs=>by have:=lo s hs;omega,fun j h1 h2=>?_⟩
    by_cases e:j=i
    ·subst e
     have:f j=false:=by simpa using hf
     rw [this,inF_false]
     intro s hs
     have:=lo s hs
     omega
    ·exact hm j (by omega) h2
  ·exact ⟨⟨by simp,by simp⟩,by simp,fun j h1 h2=>by omega⟩
theorem spans_of {f g:Nat→Bool} (h:∀ j,j<48→f j=g j):spansF f 48 0=ofL g 48 0 []:=by
 obtain ⟨c1,_,m1⟩:=spansF_can f 48 0 (by omega)
 obtain ⟨c2,m2⟩:=of_can g
 exact can_eq c1 c2 fun j hj=>by rw [m1 j (by omega) hj,m2 j hj,h j hj]
theorem stepsOk_at {xs:List Sp}:∀ (n i:Nat),stepsOk xs n i=true→∀ j,i≤j→j<i+n→stepOk xs j=true
 | 0,i,_,j,h1,h2=>by omega
 | n+1,i,h,j,h1,h2=>by
  simp only [stepsOk,Bool.and_eq_true] at h
  by_cases e:j=i
  ·subst e;exact h.1
  ·exact stepsOk_at n (i+1) h.2 j (by omega) (by omega)
theorem spsOk_can {xs:List Sp} (h:spsOk xs=true):Can 48 xs:=by
 have hok:=spsOk_sp h
 refine ⟨hok,?_⟩
 simp only [spsOk,Bool.and_eq_true] at h
 have hst:=stepsOk_at _ _ h.1
 have hc:∀ i,(hi:i+1<xs.length)→(xs[i]'(by omega)).2<xs[i+1].1:=fun i hi=>by
  have:=hst (i+1) (by omega) (by omega)
  simp only [stepOk,Bool.and_eq_true,ltI_iff] at this
  have h2:=this.2
  rw [List.getD_eq_getElem?_getD,List.getD_eq_getElem?_getD,List.getElem?_eq_getElem (by omega:i<xs.length),List.getElem?_eq_getElem hi] at h2
  exact h2
 rw [List.pairwise_iff_getElem]
 intro i j hi hj hij
 obtain ⟨k,rfl⟩:∃ k,j=i+1+k:=⟨j - i - 1,by omega⟩
 induction k with
 | zero=>exact hc i hj
 | succ k ih =>
  have h1:=ih (by omega) (by omega)
  have h2:=hc (i+1+k) hj
  have h3:=hok (xs[i+1+k]'(by omega)) (List.getElem_mem _)
  have:xs[i+1+(k+1)]=xs[i+1+k+1]:=rfl
  rw [this]
  omega
theorem of_self {xs:List Sp} (h:spsOk xs=true) {f:Nat→Bool} (hf:∀ j,j<48→f j=inF xs j):ofL f 48 0 []=xs:=by
 obtain ⟨c,m⟩:=of_can f
 exact can_eq c (spsOk_can h) fun j hj=>by rw [m j hj,hf j hj]
end Go.Ev


set_option maxRecDepth 100000
set_option maxHeartbeats 4000000
namespace Go.Ev
open Go.Proofs
theorem ev_Clone (m:M) (xs:List Sp) (hb:xs.length≤4000000):ev E 195 [.v m false [.sl (xs.map spL)]]=some { rs:=[.v .own false [.sl (xs.map spL)]],outs:=[] }:=by
 have h1:xs.length*16≤17592186044416:=by omega
 have h2:xs.length≤17592186044416:=by omega
 rw [ev_eq]
 simp [cloneK,h1,h2]
theorem ev_kept (m:M) (hm:m.isOwn=false) (t:List UInt8) (h d:List Sp) (b:OwB t h d):ev E 137 [.v m true (owL t h d)]=some { rs:=[rOw t h d],outs:=[] }:=by
 have c1:=fun m=>ev_Clone m h b.h
 have c2:=fun m=>ev_Clone m d b.d
 rw [ev_fn Tryz.f137 rfl Tryz.func137 rfl rfl rfl (Nat.le_of_ble_eq_true rfl)]
 simp [hm,c1,c2]
theorem spansF_len (f:Nat→Bool):∀ (n i:Nat),(spansF f n i).length≤n
 | 0,i=>by simp [spansF]
 | n+1,i=>by
  have h1:=spansF_len f n (runEnd f (48 - i) i+1)
  have h2:=spansF_len f n (i+1)
  simp only [spansF]
  split
  ·split
   ·simp only [List.length_cons];omega
   ·omega
  ·simp
theorem bytes_rows:∀ (bs:List UInt8),bytesOfRows (rowsOfBytes bs)=some bs
 | []=>rfl
 | b::bs=>by
  have:=bytes_rows bs
  simp only [rowsOfBytes] at this
  simp [rowsOfBytes,bytesOfRows,this]
def chgI (t:List UInt8) (h d:List Sp) (may:Bool) (f g:Nat→Bool):Out :=
 if ownOk t h d=true then
  if may=true then (if ownOk t (spansF f 48 0) (spansF g 48 0)=true then rOB t (spansF f 48 0) (spansF g 48 0) true else rOB t h d false)
  else rOB t h d false
 else rOB [] [] [] false
theorem ev_changed (m mb mf:M) (hm:m.isOwn=false) (t:List UInt8) (h d:List Sp) (may:Bool) (cl:FuncId) (l:L) (f g:Nat→Bool) (b:OwB t h d) (hsig:E.sig cl=[]∧E.alt2 cl=none)
  (hcl:may=true→ownOk t h d=true→∀ m0 m1 m2,ev E cl (.v m0 false [.sl (rowsOfBytes t)]::.v m1 true (pl (inF h))::.v m2 true (pl (inF d))::[.v mf false [l]])=some { rs:=[.v .own true (pl f),.v .own true (pl g)],outs:=[] }) :
  ev E 200 [.v m true (owL t h d),.v mb false [.bool may],.v mf false [.fn cl [l]]]=some (chgI t h d may f g):=by
 have bt:=b.t
 have bh:=b.h
 have bd:=b.d
 have c1:=fun m hm=>ev_impl_OwnOk m hm t h d (by omega) (by omega) (by omega)
 have c3:=fun m hm=>ev_kept m hm t h d b
 rw [ev_fn Tryz.f200 rfl Tryz.func200 rfl rfl rfl (Nat.le_of_ble_eq_true rfl)]
 cases e1:ownOk t h d
 ·simp [c1,e1,hm,chgI]
 ·cases may with
  | false=>simp [c1,c3,e1,hm,chgI]
  | true =>
   have hcl:=hcl rfl e1
   obtain ⟨ht,hsh,hsd,_⟩:t.length=48∧spsOk h=true∧spsOk d=true∧t.all okB=true:=by
    simp only [ownOk,Bool.and_eq_true,eqI_iff] at e1
    exact ⟨by omega,e1.1.1.2,e1.1.2,e1.1.1.1.1⟩
   have hne:t≠[]:=by intro e;rw [e] at ht;simp at ht
   have c4:∀ m,ev E 64 [.v m false [.sl (h.map spL)]]=some { rs:=[.v .own true (pl (inF h))],outs:=[] }:=fun m=>ev_impl_of m h (by omega) fun s hs=>by have:=spsOk_sp hsh s hs;omega
   have c5:∀ m,ev E 64 [.v m false [.sl (d.map spL)]]=some { rs:=[.v .own true (pl (inF d))],outs:=[] }:=fun m=>ev_impl_of m d (by omega) fun s hs=>by have:=spsOk_sp hsd s hs;omega
   have l1:=spansF_len f 48 0
   have l2:=spansF_len g 48 0
   have c6:=fun m=>ev_spans m f
   have c7:=fun m=>ev_spans m g
   have hbr:=bytes_rows t
   have hlr:(rowsOfBytes t).length=48:=by simp [rowsOfBytes,ht]
   simp only [chgI,e1,if_true]
   generalize spansF f 48 0=h' at *
   generalize spansF g 48 0=d' at *
   have c8:=fun m hm=>ev_impl_OwnOk m hm t h' d' (by omega) (by omega) (by omega)
   cases e3:ownOk t h' d'<;>simp [c1,e1,e3,hm,hne,ht,c3,c4,c5,c6,c7,c8,hcl,hsig.1,hsig.2,hbr,pl_ff]
theorem ev_cleanFn (m m1 m2 m3:M) (rows:List (List L)) (f g:Nat→Bool) (p:Sp) (hp:0≤p.1∧p.1<p.2∧p.2≤48) :
  ev E 246 [.v m false [.sl rows],.v m1 true (pl f),.v m2 true (pl g),.v m3 false [.ref (spL p)]]=some { rs:=[.v .own true (pl f),.v .own true (pl fun j=>if inF [p] j=true then false else g j)],outs:=[] }:=by
 have c1:∀ m,ev E 64 [.v m false [.sl [spL p]]]=some { rs:=[.v .own true (pl (inF [p]))],outs:=[] }:=fun m=>ev_impl_of m [p] (by simp) fun s hs=>by simp only [List.mem_singleton] at hs;subst hs;omega
 have c2:=fun m m' m'' f=>ev_put m m' m'' f (inF [p]) false
 rw [ev_fn Tryz.f246 rfl Tryz.func246 rfl rfl rfl (Nat.le_of_ble_eq_true rfl)]
 simp [c1,c2,pl_ff]
theorem ev_impl_OwnClean (m m':M) (hm:m.isOwn=false) (t:List UInt8) (h d:List Sp) (p:Sp) (b:OwB t h d) :
  ev E 205 [.v m true (owL t h d),.v m' true (spL p)]=some (chgI t h d (spOk p) (inF h) (fun j=>if inF [p] j=true then false else inF d j)):=by
 have c1:=fun m=>ev_impl_SpanOk m p
 have c2:=fun m mb mf hm hcl=>ev_changed m mb mf hm t h d (spOk p) 246 (.ref (spL p)) (inF h) (fun j=>if inF [p] j=true then false else inF d j) b ⟨rfl,rfl⟩ hcl
 have c3:=fun (mf:M) (h1:spOk p=true) (_:ownOk t h d=true) (m0 m1 m2:M)=>ev_cleanFn m0 m1 m2 mf (rowsOfBytes t) (inF h) (inF d) p (spOk_iff.1 h1)
 have c4:=fun m mb mf hm=>c2 m mb mf hm (c3 mf)
 have hex:∃ t' h' d' b',chgI t h d (spOk p) (inF h) (fun j=>if inF [p] j=true then false else inF d j)=rOB t' h' d' b':=by
  unfold chgI
  split
  ·split
   ·split<;>exact ⟨_,_,_,_,rfl⟩
   ·exact ⟨_,_,_,_,rfl⟩
  ·exact ⟨_,_,_,_,rfl⟩
 obtain ⟨t',h',d',b',hr⟩:=hex
 rw [hr] at c4 ⊢
 rw [ev_fn Tryz.f205 rfl Tryz.func205 rfl rfl rfl (Nat.le_of_ble_eq_true rfl)]
 simp [c1,c4,hm]
end Go.Ev


set_option maxRecDepth 100000
set_option maxHeartbeats 4000000
namespace Go.Ev
open Go.Proofs
abbrev Pt:=Int × List UInt8
abbrev ptL (q:Pt):List L:=[.int .i64 q.1,.str q.2]
def subS (t:List UInt8) (s:Sp):List UInt8:=(t.take s.2.toNat).drop s.1.toNat
def patF (t:List UInt8) (p:Sp):List Sp→List Pt
 | []=>[]
 | s::d=>if ltI (meetS s p).1 (meetS s p).2=true then ((meetS s p).1,subS t (meetS s p))::patF t p d else patF t p d
theorem patF_len (t:List UInt8) (p:Sp):∀ d,(patF t p d).length≤d.length
 | []=>by simp [patF]
 | s::d=>by
  have:=patF_len t p d
  simp only [patF]
  split<;>simp<;>omega
theorem meet_bd {s p:Sp} (hs:0≤s.1∧s.1<s.2∧s.2≤48) (hp:0≤p.1∧p.1<p.2∧p.2≤48):0≤(meetS s p).1∧(meetS s p).2≤48∧0≤(meetS s p).2∧(meetS s p).1≤48:=by
 simp only [meetS,maxI,minI]
 split<;>split<;>refine ⟨?_,?_,?_,?_⟩<;>(try dsimp only)<;>omega
theorem lp_l6Patches (m:M) (hm:m.isOwn=false) (t:List UInt8) (h d:List Sp) (p:Sp) (ht:t.length=48) (hd:∀ s∈d,0≤s.1∧s.1<s.2∧s.2≤48) (hp:0≤p.1∧p.1<p.2∧p.2≤48) (hdl:d.length≤4000000) (a:Code) (ha:a=lp Tryz.f237 0):∀ (n i:Nat) (out:List Pt),i+n=d.length→out.length≤i →
  loopC E (ev E) 237 a { V:=[(2,adc 2),(3,adc 3),(5,at1 5),(6,vi i)],H:=[bxm (.c 2) m (owL t h d),bx (.c 3) (spL p),ow (.c 5) [.sl (out.map ptL)]],ps:=[] } =
   some (.exit 0,{ V:=[(2,adc 2),(3,adc 3),(5,at1 5),(6,vi d.length),(14,vb false)],H:=[bxm (.c 2) m (owL t h d),bx (.c 3) (spL p),ow (.c 5) [.sl ((out++patF t p (d.drop i)).map ptL)]],ps:=[] })
 | 0,i,out,h0,ho=>by
  rw [loopC_of _ _ _ _ ha]
  obtain rfl:i=d.length:=by omega
  simp [lp,loopsOf,Tryz.f237,patF,hm]
 | n+1,i,out,h0,ho=>by
  have hlt:i<d.length:=by omega
  have hw:=wrapN i (by omega)
  have hb:=meet_bd (hd d[i] (List.getElem_mem hlt)) hp
  have hc:=fun m m'=>ev_l1Meet m m' d[i] p
  have hsz:(out.length+1)*24≤17592186044416:=by omega
  have hsz1:(out.length+1)*32≤17592186044416:=by omega
  have hsz2:out.length+1≤17592186044416:=by omega
  rw [List.drop_eq_getElem_cons hlt,patF]
  cases e:ltI (meetS d[i] p).1 (meetS d[i] p).2
  ·have ih:=lp_l6Patches m hm t h d p ht hd hp hdl a ha n (i+1) out (by omega) (by omega)
   push_cast at ih
   rw [loopC_of _ _ _ _ ha]
   clear ha
   simp [lp,loopsOf,Tryz.f237,hlt,hw,hm,hc,e]
   simpa using ih
  ·have ih:=lp_l6Patches m hm t h d p ht hd hp hdl a ha n (i+1) (out++[((meetS d[i] p).1,subS t (meetS d[i] p))]) (by omega) (by simp;omega)
   push_cast at ih
   rw [loopC_of _ _ _ _ ha]
   clear ha
   have e':=ltI_iff.1 e
   have q1:(meetS d[i] p).1≤((meetS d[i] p).2.toNat:Int):=by omega
   have q2:(meetS d[i] p).2≤(48:Int):=by omega
   have q3:(meetS d[i] p).1.toNat≤(meetS d[i] p).2.toNat:=by omega
   have q4:max (meetS d[i] p).2 0=(meetS d[i] p).2:=by omega
   simp [lp,loopsOf,Tryz.f237,hlt,hw,hm,hc,e,ht,hb,q1,q2,q3,q4,hsz,hsz1,hsz2,Int.le_of_lt e']
   simpa [subS] using ih
theorem ev_l6Patches (m m':M) (hm:m.isOwn=false) (t:List UInt8) (h d:List Sp) (p:Sp) (ht:t.length=48) (hd:∀ s∈d,0≤s.1∧s.1<s.2∧s.2≤48) (hp:0≤p.1∧p.1<p.2∧p.2≤48) (hdl:d.length≤4000000) :
  ev E 237 [.v m true (owL t h d),.v m' true (spL p)]=some { rs:=[.v .own false [.sl ((patF t p d).map ptL)]],outs:=[] }:=by
 have hl:=lp_l6Patches m hm t h d p ht hd hp hdl _ rfl d.length 0 [] (by omega) (by simp)
 rw [ev_fn Tryz.f237 rfl Tryz.func237 rfl rfl rfl (Nat.le_of_ble_eq_true rfl)]
 push_cast at hl
 simp [hm]
 rw [loopC_at ?_ (by simpa using hl)]
 ·simp
 ·rfl
end Go.Ev

