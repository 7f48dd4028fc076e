/- My texts joined: EvT11, EvM1, EvT23, EvT12, EvT13, EvT24, EvT14, EvT15, EvT16. No condition. -/
import Derived.Test.YtikmfpdfippjhaaGreatDoorEn7
set_option linter.unusedVariables false
set_option linter.unusedSimpArgs false

set_option maxRecDepth 100000
set_option maxHeartbeats 4000000
namespace Go.Ev
open Go.Proofs
abbrev rOB (t:List UInt8) (h d:List Sp) (b:Bool):Out:={ rs:=[rOw t h d,.v .own false [.bool b]],outs:=[] }
def cutS (xs:List Sp) (s:Sp):List Sp:=ofL (fun j=>if inSp j s=true then false else xs.any (inSp j)) 48 0 []
def addS (xs:List Sp) (s:Sp):List Sp:=ofL (fun j=>if inSp j s=true then true else xs.any (inSp j)) 48 0 []
theorem ofL_len (f:Nat→Bool):∀ (n i:Nat) (out:List Sp),(ofL f n i out).length≤out.length+n
  | 0,i,out=>by simp [ofL]
  | n+1,i,out=>by
    have:=ofL_len f n (i+1) (ofStep out i (f i))
    have:=ofStep_len out i (f i)
    simp only [ofL]
    omega
theorem cutS_len (xs:List Sp) (s:Sp):(cutS xs s).length≤48:=by
  exact ofL_len (fun j=>if inSp j s=true then false else xs.any (inSp j)) 48 0 []
theorem addS_len (xs:List Sp) (s:Sp):(addS xs s).length≤48:=by
  exact ofL_len (fun j=>if inSp j s=true then true else xs.any (inSp j)) 48 0 []
structure OwB (t:List UInt8) (h d:List Sp):Prop where
  t:t.length≤4000000
  h:h.length≤4000000
  d:d.length≤4000000
def cleanS (t:List UInt8) (h d:List Sp) (p:Sp):Out :=
  if ownOk t h d=true then
    if spOk p=true then (if ownOk t h (cutS d p)=true then rOB t h (cutS d p) true else rOB t h d false)
    else rOB t h d false
  else rOB [] [] [] false
theorem ev_spec_OwnClean (m m':M) (hm:m.isOwn=false) (t:List UInt8) (h d:List Sp) (p:Sp) (b:OwB t h d) :
    ev E 114 [.v m true (owL t h d),.v m' true (spL p)]=some (cleanS t h d p):=by
  have bt:=b.t
  have bh:=b.h
  have bd:=b.d
  have c1:=fun m hm=>ev_spec_OwnOk m hm t h d (by omega) (by omega) (by omega)
  have c2:=fun m=>ev_spec_SpanOk m p
  have c3:=fun m hm=>ev_l6Copy m hm t h d (by omega) (by omega)
  rw [ev_fn Tryz.f114 rfl Tryz.func114 rfl rfl rfl (Nat.le_of_ble_eq_true rfl)]
  cases e1:ownOk t h d
  · simp [c1,e1,hm,cleanS]
  · cases e2:spOk p
    · simp [c1,c2,c3,e1,e2,hm,cleanS]
    · have hp:=spOk_iff.1 e2
      have c4:∀ m m',ev E 166 [.v m false [.sl (d.map spL)],.v m' true (spL p)]=some { rs:=[.v .own false [.sl ((cutS d p).map spL)]],outs:=[] }:=fun m m'=>ev_spec_l1Cut m m' d p (by omega) (by omega) (by omega) (by omega)
      have hl:=cutS_len d p
      have c5:=fun m m' hm hm'=>ev_l6Put m m' hm hm' t h d t h (cutS d p) (by omega) (by omega) (by omega) (by omega) (by omega)
      cases e3:ownOk t h (cutS d p)<;>simp [c1,c2,c3,c4,c5,e1,e2,e3,hm,cleanS]
theorem lp_l2Long (m:M) (N:Nat) (hN:N≤4000000) (a:Code) (ha:a=lp Tryz.f70 0):∀ (n:Nat) (m0:M) (s:List UInt8),N≤s.length+n→s.length≤4000000 →
    ∃ m',loopC E (ev E) 70 a { V:=[(0,.v m0 false [.str s]),(1,.v m false [.int .i64 N])],H:=[],ps:=[] } =
      some (.exit 0,{ V:=[(0,.v m' false [.str (s++List.replicate (N - s.length) 46)]),(1,.v m false [.int .i64 N]),(8,vb false)],H:=[],ps:=[] })
  | 0,m0,s,h,hs=>by
    refine ⟨m0,?_⟩
    rw [loopC_of _ _ _ _ ha]
    have h1:N≤s.length:=by omega
    have h2:N - s.length=0:=by omega
    simp [lp,loopsOf,Tryz.f70,h1,h2]
  | n+1,m0,s,h,hs=>by
    by_cases hlt:s.length<N
    · obtain ⟨m',ih⟩:=lp_l2Long m N hN a ha n .ro (s++[46]) (by simp;omega) (by simp;omega)
      refine ⟨m',?_⟩
      rw [loopC_of _ _ _ _ ha]
      clear ha
      have h2:N - s.length=(N - (s.length+1))+1:=by omega
      have h3:s.length+1≤4611686018427387904:=by omega
      rw [h2,List.replicate_succ]
      simp at ih
      simp [lp,loopsOf,Tryz.f70,hlt,h3]
      exact ih
    · refine ⟨m0,?_⟩
      rw [loopC_of _ _ _ _ ha]
      have h1:N≤s.length:=by omega
      have h2:N - s.length=0:=by omega
      simp [lp,loopsOf,Tryz.f70,h1,h2]
theorem ev_l2Long (m m':M) (s:List UInt8) (N:Nat) (hN:N≤4000000) (hs:s.length≤4000000) :
    ev E 70 [.v m' false [.str s],.v m false [.int .i64 N]]=some { rs:=[.v .own false [.str (s++List.replicate (N - s.length) 46)]],outs:=[] }:=by
  obtain ⟨m0,hl⟩:=lp_l2Long m N hN _ rfl N m' s (by omega) hs
  rw [ev_fn Tryz.f70 rfl Tryz.func70 rfl rfl rfl (Nat.le_of_ble_eq_true rfl)]
  simp
  rw [loopC_at ?_ hl]
  · simp
  · rfl
theorem ev_l6Blank (m:M) (N:Nat) (hN:N≤4000000):ev E 164 [.v m false [.int .i64 N]]=some { rs:=[.v .own false [.str (List.replicate N 46)]],outs:=[] }:=by
  have c:=fun m m'=>ev_l2Long m m' [] N hN (by simp)
  rw [ev_fn Tryz.f164 rfl Tryz.func164 rfl rfl rfl (Nat.le_of_ble_eq_true rfl)]
  simp [c]
theorem ev_l6None:ev E 113 []=some { rs:=[rOw (List.replicate 48 46) [] []],outs:=[] }:=by
  have c:=fun m=>ev_l6Blank m 48 (by omega)
  push_cast at c
  rw [ev_fn Tryz.f113 rfl Tryz.func113 rfl rfl rfl (Nat.le_of_ble_eq_true rfl)]
  simp [c,-List.reduceReplicate]
  rfl
def overS (s:List UInt8) (p:Sp) (x:List UInt8):List UInt8:=s.take p.1.toNat++x++s.drop p.2.toNat
theorem ev_l6Over (m m' m'':M) (s x:List UInt8) (p:Sp) (h1:0≤p.1) (h2:p.1≤s.length) (h3:0≤p.2) (h4:p.2≤s.length) (hs:s.length≤4000000) (hx:x.length≤4000000) :
    ev E 168 [.v m false [.str s],.v m' true (spL p),.v m'' false [.str x]]=some { rs:=[.v .own false [.str (overS s p x)]],outs:=[] }:=by
  have a1:min p.1.toNat s.length+x.length≤4611686018427387904:=by omega
  have a2:min p.1.toNat s.length+x.length+(s.length - p.2.toNat)≤4611686018427387904:=by omega
  have a3:min p.1.toNat s.length+(x.length+(s.length - p.2.toNat))≤4611686018427387904:=by omega
  rw [ev_fn Tryz.f168 rfl Tryz.func168 rfl rfl rfl (Nat.le_of_ble_eq_true rfl)]
  have a4:p.1.toNat+x.length≤4611686018427387904:=by omega
  have a5:p.1.toNat+x.length+(s.length - p.2.toNat)≤4611686018427387904:=by omega
  have a6:p.1.toNat+(x.length+(s.length - p.2.toNat))≤4611686018427387904:=by omega
  simp [h1,h2,h3,h4,a1,a2,a3,a4,a5,a6,overS]
end Go.Ev


namespace Go.Ev
theorem inSp_iff {j:Int} {s:Sp}:inSp j s=true↔s.1≤j∧j<s.2:=by
  simp [inSp,ltI]
theorem inF_iff {xs:List Sp} {j:Nat}:inF xs j=true↔∃ s∈xs,s.1≤(j:Int)∧(j:Int)<s.2:=by
  simp [inF,List.any_eq_true,inSp_iff]
theorem inF_false {xs:List Sp} {j:Nat}:inF xs j=false↔∀ s∈xs,¬ (s.1≤(j:Int)∧(j:Int)<s.2):=by
  rw [← Bool.not_eq_true,inF_iff]
  simp
structure Can (N:Int) (xs:List Sp):Prop where
  ok:∀ s∈xs,0≤s.1∧s.1<s.2∧s.2≤N
  pw:xs.Pairwise fun a b=>a.2<b.1
theorem Can.tail {N:Int} {s:Sp} {xs:List Sp} (h:Can N (s::xs)):Can N xs:=⟨fun u hu=>h.ok u (by simp [hu]),(List.pairwise_cons.1 h.pw).2⟩
theorem can_uniq {N:Int}:∀ (xs ys:List Sp) (a:Int),Can N xs→Can N ys→0≤a→(∀ s∈xs,a≤s.1)→(∀ s∈ys,a≤s.1)→(∀ j:Int,a≤j→((∃ s∈xs,s.1≤j∧j<s.2)↔(∃ s∈ys,s.1≤j∧j<s.2)))→xs=ys
  | [],[],_,_,_,_,_,_,_=>rfl
  | [],u::v,a,hx,hy,h0,h1,h2,hj=>by
    have:=(hj u.1 (h2 u (by simp))).2 ⟨u,by simp,by omega,(hy.ok u (by simp)).2.1⟩
    simp at this
  | s::r,[],a,hx,hy,h0,h1,h2,hj=>by
    have:=(hj s.1 (h1 s (by simp))).1 ⟨s,by simp,by omega,(hx.ok s (by simp)).2.1⟩
    simp at this
  | s::r,u::v,a,hx,hy,h0,h1,h2,hj=>by
    have hs:=hx.ok s (by simp)
    have hu:=hy.ok u (by simp)
    have pr:=(List.pairwise_cons.1 hx.pw).1
    have pv:=(List.pairwise_cons.1 hy.pw).1
    have l1:u.1≤s.1:=by
      obtain ⟨q,hq,q1,q2⟩:=(hj s.1 (h1 s (by simp))).1 ⟨s,by simp,by omega,hs.2.1⟩
      rcases List.mem_cons.1 hq with rfl | hq
      · exact q1
      · have:=pv q hq;omega
    have l2:s.1≤u.1:=by
      obtain ⟨q,hq,q1,q2⟩:=(hj u.1 (h2 u (by simp))).2 ⟨u,by simp,by omega,hu.2.1⟩
      rcases List.mem_cons.1 hq with rfl | hq
      · exact q1
      · have:=pr q hq;omega
    have e1:s.1=u.1:=by omega
    have n1:¬ ∃ q∈s::r,q.1≤s.2∧s.2<q.2:=by
      rintro ⟨q,hq,q1,q2⟩
      rcases List.mem_cons.1 hq with rfl | hq
      · omega
      · have:=pr q hq;omega
    have n2:¬ ∃ q∈u::v,q.1≤u.2∧u.2<q.2:=by
      rintro ⟨q,hq,q1,q2⟩
      rcases List.mem_cons.1 hq with rfl | hq
      · omega
      · have:=pv q hq;omega
    have m1:¬ s.2<u.2:=fun hlt=>n1 ((hj s.2 (by have:=h1 s (by simp);omega)).2 ⟨u,by simp,by omega,hlt⟩)
    have m2:¬ u.2<s.2:=fun hlt=>n2 ((hj u.2 (by have:=h2 u (by simp);omega)).1 ⟨s,by simp,by omega,hlt⟩)
    have e2:s.2=u.2:=by omega
    have e:s=u:=Prod.ext e1 e2
    subst e
    congr 1
    refine can_uniq r v (s.2+1) hx.tail hy.tail (by omega) (fun q hq=>by have:=pr q hq;omega) (fun q hq=>by have:=pv q hq;omega) fun j hjj=>?_
    have:=hj j (by have:=h1 s (by simp);omega)
    constructor
    · rintro ⟨q,hq,q1,q2⟩
      obtain ⟨q',hq',w1,w2⟩:=this.1 ⟨q,by simp [hq],q1,q2⟩
      rcases List.mem_cons.1 hq' with rfl | hq'
      · omega
      · exact ⟨q',hq',w1,w2⟩
    · rintro ⟨q,hq,q1,q2⟩
      obtain ⟨q',hq',w1,w2⟩:=this.2 ⟨q,by simp [hq],q1,q2⟩
      rcases List.mem_cons.1 hq' with rfl | hq'
      · omega
      · exact ⟨q',hq',w1,w2⟩
theorem can_eq {xs ys:List Sp} (hx:Can 48 xs) (hy:Can 48 ys) (h:∀ j:Nat,j<48→inF xs j=inF ys j):xs=ys:=by
  refine can_uniq xs ys 0 hx hy (by omega) (fun s hs=>(hx.ok s hs).1) (fun s hs=>(hy.ok s hs).1) fun j hj=>?_
  obtain ⟨n,rfl⟩:∃ n:Nat,j=n:=⟨j.toNat,by omega⟩
  by_cases hn:n<48
  · have:=h n hn
    rw [← inF_iff,← inF_iff,this]
  · constructor
    · rintro ⟨s,hs,h1,h2⟩
      have:=hx.ok s hs
      omega
    · rintro ⟨s,hs,h1,h2⟩
      have:=hy.ok s hs
      omega
theorem ofL_can (f:Nat→Bool):∀ (n i:Nat) (out:List Sp),Can i out→(∀ j,j<i→inF out j=f j)→Can ((i+n:Nat):Int) (ofL f n i out)∧∀ j,j<i+n→inF (ofL f n i out) j=f j
  | 0,i,out,h,hj=>⟨h,hj⟩
  | n+1,i,out,h,hj=>by
    have step:Can ((i+1:Nat):Int) (ofStep out i (f i))∧∀ j,j<i+1→inF (ofStep out i (f i)) j=f j:=by
      cases hf:f i with
      | false =>
        simp only [ofStep]
        refine ⟨⟨fun s hs=>by have:=h.ok s hs;omega,h.pw⟩,fun j hjj=>?_⟩
        by_cases e:j=i
        · subst e
          rw [hf]
          simp only [Bool.false_eq_true,if_false]
          rw [inF_false]
          intro s hs
          have:=h.ok s hs
          omega
        · exact hj j (by omega)
      | true =>
        rcases List.eq_nil_or_concat out with rfl | ⟨pre,⟨lo,hi⟩,rfl⟩
        · simp only [ofStep,if_true,List.getLast?_nil]
          refine ⟨⟨fun s hs=>by simp only [List.mem_singleton] at hs;subst hs;dsimp only;omega,by simp⟩,fun j hjj=>?_⟩
          by_cases e:j=i
          · subst e
            rw [hf,inF_iff]
            exact ⟨((j:Int),(j:Int)+1),by simp,by dsimp only;omega,by dsimp only;omega⟩
          · rw [← hj j (by omega)]
            have:inF ([]:List Sp) j=false:=rfl
            rw [this,inF_false]
            intro s hs
            simp only [List.mem_singleton] at hs
            subst hs
            dsimp only
            omega
        · rw [List.concat_eq_append] at h hj ⊢
          have hl:=h.ok (lo,hi) (by simp)
          dsimp only at hl
          have hp:=List.pairwise_append.1 h.pw
          have hpl:∀ s∈pre,s.2<lo:=fun s hs=>hp.2.2 s hs (lo,hi) (by simp)
          simp only [ofStep,if_true,List.getLast?_append,List.getLast?_singleton,Option.or_some,Option.some_or]
          cases e:eqI hi i with
          | true =>
            have e:=eqI_iff.1 e
            simp only [if_true,List.dropLast_concat]
            refine ⟨⟨fun s hs=>?_,List.pairwise_append.2 ⟨hp.1,by simp,fun a ha b hb=>?_⟩⟩,fun j hjj=>?_⟩
            · rcases List.mem_append.1 hs with hs | hs
              · have:=h.ok s (by simp [hs]);omega
              · simp only [List.mem_singleton] at hs;subst hs;dsimp only;omega
            · simp only [List.mem_singleton] at hb
              subst hb
              exact hpl a ha
            · by_cases ej:j=i
              · subst ej
                rw [hf,inF_iff]
                exact ⟨(lo,(j:Int)+1),by simp,by dsimp only;omega,by dsimp only;omega⟩
              · rw [← hj j (by omega),Bool.eq_iff_iff,inF_iff,inF_iff]
                constructor
                · rintro ⟨s,hs,h1,h2⟩
                  rcases List.mem_append.1 hs with hs | hs
                  · exact ⟨s,by simp [hs],h1,h2⟩
                  · simp only [List.mem_singleton] at hs;subst hs;dsimp only at h1 h2
                    exact ⟨(lo,hi),by simp,by dsimp only;omega,by dsimp only;omega⟩
                · rintro ⟨s,hs,h1,h2⟩
                  rcases List.mem_append.1 hs with hs | hs
                  · exact ⟨s,by simp [hs],h1,h2⟩
                  · simp only [List.mem_singleton] at hs;subst hs;dsimp only at h1 h2
                    exact ⟨(lo,(i:Int)+1),by simp,by dsimp only;omega,by dsimp only;omega⟩
          | false =>
            have e:=eqI_not.1 e
            simp only [Bool.false_eq_true,if_false]
            refine ⟨⟨fun s hs=>?_,List.pairwise_append.2 ⟨h.pw,by simp,fun a ha b hb=>?_⟩⟩,fun j hjj=>?_⟩
            · rcases List.mem_append.1 hs with hs | hs
              · have:=h.ok s hs;omega
              · simp only [List.mem_singleton] at hs;subst hs;dsimp only;omega
            · simp only [List.mem_singleton] at hb
              subst hb
              dsimp only
              rcases List.mem_append.1 ha with ha | ha
              · have:=hpl a ha;omega
              · simp only [List.mem_singleton] at ha;subst ha;dsimp only;omega
            · by_cases ej:j=i
              · subst ej
                rw [hf,inF_iff]
                exact ⟨((j:Int),(j:Int)+1),by simp,by dsimp only;omega,by dsimp only;omega⟩
              · rw [← hj j (by omega),Bool.eq_iff_iff,inF_iff,inF_iff]
                constructor
                · rintro ⟨s,hs,h1,h2⟩
                  rcases List.mem_append.1 hs with hs | hs
                  · exact ⟨s,hs,h1,h2⟩
                  · simp only [List.mem_singleton] at hs;subst hs;dsimp only at h1 h2;omega
                · rintro ⟨s,hs,h1,h2⟩
                  exact ⟨s,List.mem_append.2 (.inl hs),h1,h2⟩
    have:=ofL_can f n (i+1) (ofStep out i (f i)) step.1 step.2
    rw [show i+1+n=i+(n+1) by omega] at this
    exact this
theorem of_can (f:Nat→Bool):Can 48 (ofL f 48 0 [])∧∀ j,j<48→inF (ofL f 48 0 []) j=f j:=by
  have:=ofL_can f 48 0 [] ⟨by simp,by simp⟩ (fun j hj=>by omega)
  simpa using this
theorem runEnd_spec (f:Nat→Bool):∀ n i,(∀ j,i≤j→j<runEnd f n i→f j=true)∧(runEnd f n i=i+n∨f (runEnd f n i)=false)
  | 0,i=>⟨fun j h1 h2=>by simp [runEnd] at h2;omega,.inl rfl⟩
  | n+1,i=>by
    have:=runEnd_spec f n (i+1)
    simp only [runEnd]
    split
    · rename_i hf
      refine ⟨fun j h1 h2=>?_,this.2.imp (fun h=>by omega) id⟩
      by_cases e:j=i
      · subst e;exact hf
      · exact this.1 j (by omega) h2
    · rename_i hf
      exact ⟨fun j h1 h2=>by omega,.inr (by simpa using hf)⟩
theorem spansF_can (f:Nat→Bool):∀ (n i:Nat),48≤i+n→Can 48 (spansF f n i)∧(∀ s∈spansF f n i,(i:Int)≤s.1)∧∀ j,i≤j→j<48→inF (spansF f n i) j=f j
  | 0,i,h=>⟨⟨by simp [spansF],by simp [spansF]⟩,by simp [spansF],fun j h1 h2=>by omega⟩
  | n+1,i,h=>by
    simp only [spansF]
    split
    · rename_i hi
      split
      · rename_i hf
        have hs:=runEnd_spec f (48 - i) i
        have hl:=runEnd_le f (48 - i) i
        have hgt:i<runEnd f (48 - i) i:=by
          have:48 - i=(47 - i)+1:=by omega
          rw [this,runEnd,if_pos hf]
          have:=(runEnd_le f (47 - i) (i+1)).1
          omega
        generalize runEnd f (48 - i) i=e at hs hl hgt
        obtain ⟨c,lo,hm⟩:=spansF_can f n (e+1) (by omega)
        refine ⟨⟨fun s hs=>?_,List.pairwise_cons.2 ⟨fun s hs=>?_,c.pw⟩⟩,fun s hs=>?_,fun j h1 h2=>?_⟩
        · rcases List.mem_cons.1 hs with rfl | hs
          · dsimp only;omega
          · exact c.ok s hs
        · have:=lo s hs
          dsimp only
          omega
        · rcases List.mem_cons.1 hs with rfl | hs
          · dsimp only;omega
          · have:=lo s hs;omega
        · by_cases hje:j<e
          · rw [hs.1 j h1 hje,inF_iff]
            exact ⟨((i:Int),(e:Int)),by simp,by dsimp only;omega,by dsimp only;omega⟩
          · have hc:inF (((i:Int),(e:Int))::spansF f n (e+1)) j=inF (spansF f n (e+1)) j:=by
              rw [Bool.eq_iff_iff,inF_iff,inF_iff]
              constructor
              · rintro ⟨s,hs,q1,q2⟩
                rcases List.mem_cons.1 hs with rfl | hs
                · dsimp only at q1 q2;omega
                · exact ⟨s,hs,q1,q2⟩
              · rintro ⟨s,hs,q1,q2⟩
                exact ⟨s,by simp [hs],q1,q2⟩
            rw [hc]
            by_cases hje2:j=e
            · subst hje2
              rcases hs.2 with h | h
              · omega
              · rw [h,inF_false]
                intro s hs
                have:=lo s hs
                omega
            · exact hm j (by omega) h2
      · rename_i hf
        obtain ⟨c,lo,hm⟩:=spansF_can f n (i+1) (by omega)
        refine ⟨c,fun s hs=>by have:=lo s hs;omega,fun j h1 h2=>?_⟩
        by_cases e:j=i
        · subst e
          have:f j=false:=by simpa using hf
          rw [this,inF_false]
          intro s hs
          have:=lo s hs
          omega
        · exact hm j (by omega) h2
    · exact ⟨⟨by simp,by simp⟩,by simp,fun j h1 h2=>by omega⟩
theorem spans_of {f g:Nat→Bool} (h:∀ j,j<48→f j=g j):spansF f 48 0=ofL g 48 0 []:=by
  obtain ⟨c1,_,m1⟩:=spansF_can f 48 0 (by omega)
  obtain ⟨c2,m2⟩:=of_can g
  exact can_eq c1 c2 fun j hj=>by rw [m1 j (by omega) hj,m2 j hj,h j hj]
theorem stepsOk_at {xs:List Sp}:∀ (n i:Nat),stepsOk xs n i=true→∀ j,i≤j→j<i+n→stepOk xs j=true
  | 0,i,_,j,h1,h2=>by omega
  | n+1,i,h,j,h1,h2=>by
    simp only [stepsOk,Bool.and_eq_true] at h
    by_cases e:j=i
    · subst e;exact h.1
    · exact stepsOk_at n (i+1) h.2 j (by omega) (by omega)
theorem spsOk_can {xs:List Sp} (h:spsOk xs=true):Can 48 xs:=by
  have hok:=spsOk_sp h
  refine ⟨hok,?_⟩
  simp only [spsOk,Bool.and_eq_true] at h
  have hst:=stepsOk_at _ _ h.1
  have hc:∀ i,(hi:i+1<xs.length)→(xs[i]'(by omega)).2<xs[i+1].1:=fun i hi=>by
    have:=hst (i+1) (by omega) (by omega)
    simp only [stepOk,Bool.and_eq_true,ltI_iff] at this
    have h2:=this.2
    rw [List.getD_eq_getElem?_getD,List.getD_eq_getElem?_getD,List.getElem?_eq_getElem (by omega:i<xs.length),List.getElem?_eq_getElem hi] at h2
    exact h2
  rw [List.pairwise_iff_getElem]
  intro i j hi hj hij
  obtain ⟨k,rfl⟩:∃ k,j=i+1+k:=⟨j - i - 1,by omega⟩
  induction k with
  | zero=>exact hc i hj
  | succ k ih =>
    have h1:=ih (by omega) (by omega)
    have h2:=hc (i+1+k) hj
    have h3:=hok (xs[i+1+k]'(by omega)) (List.getElem_mem _)
    have:xs[i+1+(k+1)]=xs[i+1+k+1]:=rfl
    rw [this]
    omega
theorem of_self {xs:List Sp} (h:spsOk xs=true) {f:Nat→Bool} (hf:∀ j,j<48→f j=inF xs j):ofL f 48 0 []=xs:=by
  obtain ⟨c,m⟩:=of_can f
  exact can_eq c (spsOk_can h) fun j hj=>by rw [m j hj,hf j hj]
end Go.Ev


set_option maxRecDepth 100000
set_option maxHeartbeats 4000000
namespace Go.Ev
open Go.Proofs
theorem ev_Clone (m:M) (xs:List Sp) (hb:xs.length≤4000000):ev E 122 [.v m false [.sl (xs.map spL)]]=some { rs:=[.v .own false [.sl (xs.map spL)]],outs:=[] }:=by
  have h1:xs.length*16≤17592186044416:=by omega
  have h2:xs.length≤17592186044416:=by omega
  rw [ev_eq]
  simp [cloneK,h1,h2]
theorem ev_kept (m:M) (hm:m.isOwn=false) (t:List UInt8) (h d:List Sp) (b:OwB t h d):ev E 77 [.v m true (owL t h d)]=some { rs:=[rOw t h d],outs:=[] }:=by
  have c1:=fun m=>ev_Clone m h b.h
  have c2:=fun m=>ev_Clone m d b.d
  rw [ev_fn Tryz.f77 rfl Tryz.func77 rfl rfl rfl (Nat.le_of_ble_eq_true rfl)]
  simp [hm,c1,c2]
theorem spansF_len (f:Nat→Bool):∀ (n i:Nat),(spansF f n i).length≤n
  | 0,i=>by simp [spansF]
  | n+1,i=>by
    have h1:=spansF_len f n (runEnd f (48 - i) i+1)
    have h2:=spansF_len f n (i+1)
    simp only [spansF]
    split
    · split
      · simp only [List.length_cons];omega
      · omega
    · simp
theorem bytes_rows:∀ (bs:List UInt8),bytesOfRows (rowsOfBytes bs)=some bs
  | []=>rfl
  | b::bs=>by
    have:=bytes_rows bs
    simp only [rowsOfBytes] at this
    simp [rowsOfBytes,bytesOfRows,this]
def chgI (t:List UInt8) (h d:List Sp) (may:Bool) (f g:Nat→Bool):Out :=
  if ownOk t h d=true then
    if may=true then (if ownOk t (spansF f 48 0) (spansF g 48 0)=true then rOB t (spansF f 48 0) (spansF g 48 0) true else rOB t h d false)
    else rOB t h d false
  else rOB [] [] [] false
theorem ev_changed (m mb mf:M) (hm:m.isOwn=false) (t:List UInt8) (h d:List Sp) (may:Bool) (cl:FuncId) (l:L) (f g:Nat→Bool) (b:OwB t h d) (hsig:E.sig cl=[]∧E.alt2 cl=none)
    (hcl:may=true→ownOk t h d=true→∀ m0 m1 m2,ev E cl (.v m0 false [.sl (rowsOfBytes t)]::.v m1 true (pl (inF h))::.v m2 true (pl (inF d))::[.v mf false [l]])=some { rs:=[.v .own true (pl f),.v .own true (pl g)],outs:=[] }) :
    ev E 127 [.v m true (owL t h d),.v mb false [.bool may],.v mf false [.fn cl [l]]]=some (chgI t h d may f g):=by
  have bt:=b.t
  have bh:=b.h
  have bd:=b.d
  have c1:=fun m hm=>ev_impl_OwnOk m hm t h d (by omega) (by omega) (by omega)
  have c3:=fun m hm=>ev_kept m hm t h d b
  rw [ev_fn Tryz.f127 rfl Tryz.func127 rfl rfl rfl (Nat.le_of_ble_eq_true rfl)]
  cases e1:ownOk t h d
  · simp [c1,e1,hm,chgI]
  · cases may with
    | false=>simp [c1,c3,e1,hm,chgI]
    | true =>
      have hcl:=hcl rfl e1
      obtain ⟨ht,hsh,hsd,_⟩:t.length=48∧spsOk h=true∧spsOk d=true∧t.all okB=true:=by
        simp only [ownOk,Bool.and_eq_true,eqI_iff] at e1
        exact ⟨by omega,e1.1.1.2,e1.1.2,e1.1.1.1.1⟩
      have hne:t≠[]:=by intro e;rw [e] at ht;simp at ht
      have c4:∀ m,ev E 42 [.v m false [.sl (h.map spL)]]=some { rs:=[.v .own true (pl (inF h))],outs:=[] }:=fun m=>ev_impl_of m h (by omega) fun s hs=>by have:=spsOk_sp hsh s hs;omega
      have c5:∀ m,ev E 42 [.v m false [.sl (d.map spL)]]=some { rs:=[.v .own true (pl (inF d))],outs:=[] }:=fun m=>ev_impl_of m d (by omega) fun s hs=>by have:=spsOk_sp hsd s hs;omega
      have l1:=spansF_len f 48 0
      have l2:=spansF_len g 48 0
      have c6:=fun m=>ev_spans m f
      have c7:=fun m=>ev_spans m g
      have hbr:=bytes_rows t
      have hlr:(rowsOfBytes t).length=48:=by simp [rowsOfBytes,ht]
      simp only [chgI,e1,if_true]
      generalize spansF f 48 0=h' at *
      generalize spansF g 48 0=d' at *
      have c8:=fun m hm=>ev_impl_OwnOk m hm t h' d' (by omega) (by omega) (by omega)
      cases e3:ownOk t h' d'<;>simp [c1,e1,e3,hm,hne,ht,c3,c4,c5,c6,c7,c8,hcl,hsig.1,hsig.2,hbr,pl_ff]
theorem ev_cleanFn (m m1 m2 m3:M) (rows:List (List L)) (f g:Nat→Bool) (p:Sp) (hp:0≤p.1∧p.1<p.2∧p.2≤48) :
    ev E 180 [.v m false [.sl rows],.v m1 true (pl f),.v m2 true (pl g),.v m3 false [.ref (spL p)]]=some { rs:=[.v .own true (pl f),.v .own true (pl fun j=>if inF [p] j=true then false else g j)],outs:=[] }:=by
  have c1:∀ m,ev E 42 [.v m false [.sl [spL p]]]=some { rs:=[.v .own true (pl (inF [p]))],outs:=[] }:=fun m=>ev_impl_of m [p] (by simp) fun s hs=>by simp only [List.mem_singleton] at hs;subst hs;omega
  have c2:=fun m m' m'' f=>ev_put m m' m'' f (inF [p]) false
  rw [ev_fn Tryz.f180 rfl Tryz.func180 rfl rfl rfl (Nat.le_of_ble_eq_true rfl)]
  simp [c1,c2,pl_ff]
theorem ev_impl_OwnClean (m m':M) (hm:m.isOwn=false) (t:List UInt8) (h d:List Sp) (p:Sp) (b:OwB t h d) :
    ev E 132 [.v m true (owL t h d),.v m' true (spL p)]=some (chgI t h d (spOk p) (inF h) (fun j=>if inF [p] j=true then false else inF d j)):=by
  have c1:=fun m=>ev_impl_SpanOk m p
  have c2:=fun m mb mf hm hcl=>ev_changed m mb mf hm t h d (spOk p) 180 (.ref (spL p)) (inF h) (fun j=>if inF [p] j=true then false else inF d j) b ⟨rfl,rfl⟩ hcl
  have c3:=fun (mf:M) (h1:spOk p=true) (_:ownOk t h d=true) (m0 m1 m2:M)=>ev_cleanFn m0 m1 m2 mf (rowsOfBytes t) (inF h) (inF d) p (spOk_iff.1 h1)
  have c4:=fun m mb mf hm=>c2 m mb mf hm (c3 mf)
  have hex:∃ t' h' d' b',chgI t h d (spOk p) (inF h) (fun j=>if inF [p] j=true then false else inF d j)=rOB t' h' d' b':=by
    unfold chgI
    split
    · split
      · split<;>exact ⟨_,_,_,_,rfl⟩
      · exact ⟨_,_,_,_,rfl⟩
    · exact ⟨_,_,_,_,rfl⟩
  obtain ⟨t',h',d',b',hr⟩:=hex
  rw [hr] at c4 ⊢
  rw [ev_fn Tryz.f132 rfl Tryz.func132 rfl rfl rfl (Nat.le_of_ble_eq_true rfl)]
  simp [c1,c4,hm]
end Go.Ev


set_option maxRecDepth 100000
set_option maxHeartbeats 4000000
namespace Go.Ev
open Go.Proofs
abbrev Pt:=Int × List UInt8
abbrev ptL (q:Pt):List L:=[.int .i64 q.1,.str q.2]
def subS (t:List UInt8) (s:Sp):List UInt8:=(t.take s.2.toNat).drop s.1.toNat
def patF (t:List UInt8) (p:Sp):List Sp→List Pt
  | []=>[]
  | s::d=>if ltI (meetS s p).1 (meetS s p).2=true then ((meetS s p).1,subS t (meetS s p))::patF t p d else patF t p d
theorem patF_len (t:List UInt8) (p:Sp):∀ d,(patF t p d).length≤d.length
  | []=>by simp [patF]
  | s::d=>by
    have:=patF_len t p d
    simp only [patF]
    split<;>simp<;>omega
theorem meet_bd {s p:Sp} (hs:0≤s.1∧s.1<s.2∧s.2≤48) (hp:0≤p.1∧p.1<p.2∧p.2≤48):0≤(meetS s p).1∧(meetS s p).2≤48∧0≤(meetS s p).2∧(meetS s p).1≤48:=by
  simp only [meetS,maxI,minI]
  split<;>split<;>refine ⟨?_,?_,?_,?_⟩<;>(try dsimp only)<;>omega
theorem lp_l6Patches (m:M) (hm:m.isOwn=false) (t:List UInt8) (h d:List Sp) (p:Sp) (ht:t.length=48) (hd:∀ s∈d,0≤s.1∧s.1<s.2∧s.2≤48) (hp:0≤p.1∧p.1<p.2∧p.2≤48) (hdl:d.length≤4000000) (a:Code) (ha:a=lp Tryz.f167 0):∀ (n i:Nat) (out:List Pt),i+n=d.length→out.length≤i →
    loopC E (ev E) 167 a { V:=[(2,adc 2),(3,adc 3),(5,at1 5),(6,vi i)],H:=[bxm (.c 2) m (owL t h d),bx (.c 3) (spL p),ow (.c 5) [.sl (out.map ptL)]],ps:=[] } =
      some (.exit 0,{ V:=[(2,adc 2),(3,adc 3),(5,at1 5),(6,vi d.length),(14,vb false)],H:=[bxm (.c 2) m (owL t h d),bx (.c 3) (spL p),ow (.c 5) [.sl ((out++patF t p (d.drop i)).map ptL)]],ps:=[] })
  | 0,i,out,h0,ho=>by
    rw [loopC_of _ _ _ _ ha]
    obtain rfl:i=d.length:=by omega
    simp [lp,loopsOf,Tryz.f167,patF,hm]
  | n+1,i,out,h0,ho=>by
    have hlt:i<d.length:=by omega
    have hw:=wrapN i (by omega)
    have hb:=meet_bd (hd d[i] (List.getElem_mem hlt)) hp
    have hc:=fun m m'=>ev_l1Meet m m' d[i] p
    have hsz:(out.length+1)*24≤17592186044416:=by omega
    have hsz1:(out.length+1)*32≤17592186044416:=by omega
    have hsz2:out.length+1≤17592186044416:=by omega
    rw [List.drop_eq_getElem_cons hlt,patF]
    cases e:ltI (meetS d[i] p).1 (meetS d[i] p).2
    · have ih:=lp_l6Patches m hm t h d p ht hd hp hdl a ha n (i+1) out (by omega) (by omega)
      push_cast at ih
      rw [loopC_of _ _ _ _ ha]
      clear ha
      simp [lp,loopsOf,Tryz.f167,hlt,hw,hm,hc,e]
      simpa using ih
    · have ih:=lp_l6Patches m hm t h d p ht hd hp hdl a ha n (i+1) (out++[((meetS d[i] p).1,subS t (meetS d[i] p))]) (by omega) (by simp;omega)
      push_cast at ih
      rw [loopC_of _ _ _ _ ha]
      clear ha
      have e':=ltI_iff.1 e
      have q1:(meetS d[i] p).1≤((meetS d[i] p).2.toNat:Int):=by omega
      have q2:(meetS d[i] p).2≤(48:Int):=by omega
      have q3:(meetS d[i] p).1.toNat≤(meetS d[i] p).2.toNat:=by omega
      have q4:max (meetS d[i] p).2 0=(meetS d[i] p).2:=by omega
      simp [lp,loopsOf,Tryz.f167,hlt,hw,hm,hc,e,ht,hb,q1,q2,q3,q4,hsz,hsz1,hsz2,Int.le_of_lt e']
      simpa [subS] using ih
theorem ev_l6Patches (m m':M) (hm:m.isOwn=false) (t:List UInt8) (h d:List Sp) (p:Sp) (ht:t.length=48) (hd:∀ s∈d,0≤s.1∧s.1<s.2∧s.2≤48) (hp:0≤p.1∧p.1<p.2∧p.2≤48) (hdl:d.length≤4000000) :
    ev E 167 [.v m true (owL t h d),.v m' true (spL p)]=some { rs:=[.v .own false [.sl ((patF t p d).map ptL)]],outs:=[] }:=by
  have hl:=lp_l6Patches m hm t h d p ht hd hp hdl _ rfl d.length 0 [] (by omega) (by simp)
  rw [ev_fn Tryz.f167 rfl Tryz.func167 rfl rfl rfl (Nat.le_of_ble_eq_true rfl)]
  push_cast at hl
  simp [hm]
  rw [loopC_at ?_ (by simpa using hl)]
  · simp
  · rfl
end Go.Ev


set_option maxRecDepth 100000
set_option maxHeartbeats 4000000
namespace Go.Ev
open Go.Proofs
theorem ownOk_t {t:List UInt8} {h d:List Sp} (e:ownOk t h d=true):t.length=48∧spsOk h=true∧spsOk d=true∧t.all okB=true:=by
  simp only [ownOk,Bool.and_eq_true,eqI_iff] at e
  exact ⟨by omega,e.1.1.2,e.1.2,e.1.1.1.1⟩
theorem overS_len (s x:List UInt8) (p:Sp) (h1:0≤p.1) (h2:p.1≤p.2) (h4:p.2≤s.length):(overS s p x).length=s.length - (p.2.toNat - p.1.toNat)+x.length:=by
  simp only [overS,List.length_append,List.length_take,List.length_drop]
  omega
def dropS (t:List UInt8) (h d:List Sp) (p:Sp):Out :=
  if ownOk t h d=true then
    if spOk p=true then
      if ltI 0 (patF t p d).length=true then rOB t h d false
      else if ownOk (overS t p (List.replicate (p.2 - p.1).toNat 46)) (cutS h p) d=true then rOB (overS t p (List.replicate (p.2 - p.1).toNat 46)) (cutS h p) d true else rOB t h d false
    else rOB t h d false
  else rOB [] [] [] false
theorem ev_spec_OwnDrop (m m':M) (hm:m.isOwn=false) (t:List UInt8) (h d:List Sp) (p:Sp) (b:OwB t h d) :
    ev E 115 [.v m true (owL t h d),.v m' true (spL p)]=some (dropS t h d p):=by
  have bt:=b.t
  have bh:=b.h
  have bd:=b.d
  have c1:=fun m hm=>ev_spec_OwnOk m hm t h d (by omega) (by omega) (by omega)
  have c2:=fun m=>ev_spec_SpanOk m p
  have c3:=fun m hm=>ev_l6Copy m hm t h d (by omega) (by omega)
  rw [ev_fn Tryz.f115 rfl Tryz.func115 rfl rfl rfl (Nat.le_of_ble_eq_true rfl)]
  cases e1:ownOk t h d
  · simp [c1,e1,hm,dropS]
  · obtain ⟨ht,hsh,hsd,_⟩:=ownOk_t e1
    cases e2:spOk p
    · simp [c1,c2,c3,e1,e2,hm,dropS]
    · have hp:=spOk_iff.1 e2
      have c4:=fun m m' hm=>ev_l6Patches m m' hm t h d p ht (spsOk_sp hsd) hp (by omega)
      cases e4:ltI 0 (patF t p d).length
      · have c5:∀ m m',ev E 166 [.v m false [.sl (h.map spL)],.v m' true (spL p)]=some { rs:=[.v .own false [.sl ((cutS h p).map spL)]],outs:=[] }:=fun m m'=>ev_spec_l1Cut m m' h p (by omega) (by omega) (by omega) (by omega)
        have hl:=cutS_len h p
        have hN:(p.2 - p.1).toNat≤48:=by omega
        have hw:IntKind.i64.wrap (p.2 - p.1)=(((p.2 - p.1).toNat:Nat):Int):=by rw [wrap64]<;>omega
        have c6:=fun m=>ev_l6Blank m (p.2 - p.1).toNat (by omega)
        generalize hNN:(p.2 - p.1).toNat=N at *
        have c7:=fun m m' m''=>ev_l6Over m m' m'' t (List.replicate N 46) p (by omega) (by omega) (by omega) (by omega) (by omega) (by simp;omega)
        have hol:=overS_len t (List.replicate N 46) p (by omega) (by omega) (by omega)
        rw [List.length_replicate] at hol
        generalize htt:overS t p (List.replicate N 46)=t' at *
        have c8:=fun m m' hm hm'=>ev_l6Put m m' hm hm' t h d t' (cutS h p) d (by omega) (by omega) (by omega) (by omega) (by omega)
        cases e3:ownOk t' (cutS h p) d<;>simp [c1,c2,c3,c4,c5,c6,c7,c8,e1,e2,e3,e4,hm,hw,dropS,hNN,htt]
      · simp [c1,c2,c3,c4,e1,e2,e4,hm,dropS]
def wrOk (k:Int) (x:List UInt8):Bool:=!ltI k 0&&!ltI 48 k&&(x.all okB&&!ltI 48 x.length)&&!eqS x []&&!ltI 48 (k+x.length)
def writeS (t:List UInt8) (h d:List Sp) (k:Int) (x:List UInt8):Out :=
  if ownOk t h d=true then
    if wrOk k x=true then
      if ownOk (overS t (k,k+x.length) x) (addS h (k,k+x.length)) (addS d (k,k+x.length))=true then rOB (overS t (k,k+x.length) x) (addS h (k,k+x.length)) (addS d (k,k+x.length)) true else rOB t h d false
    else rOB t h d false
  else rOB [] [] [] false
theorem ev_spec_OwnWrite (m m' m'':M) (hm:m.isOwn=false) (t:List UInt8) (h d:List Sp) (k:Int) (x:List UInt8) (b:OwB t h d) (hx:x.length≤4000000) :
    ev E 118 [.v m true (owL t h d),.v m' false [.int .i64 k],.v m'' false [.str x]]=some (writeS t h d k x):=by
  have bt:=b.t
  have bh:=b.h
  have bd:=b.d
  have c1:=fun m hm=>ev_spec_OwnOk m hm t h d (by omega) (by omega) (by omega)
  have c2:=fun m=>ev_spec_TextOk m x (by omega)
  have c3:=fun m hm=>ev_l6Copy m hm t h d (by omega) (by omega)
  rw [ev_fn Tryz.f118 rfl Tryz.func118 rfl rfl rfl (Nat.le_of_ble_eq_true rfl)]
  cases e1:ownOk t h d
  · simp [c1,e1,hm,writeS]
  · obtain ⟨ht,hsh,hsd,_⟩:=ownOk_t e1
    cases e2:ltI k 0
    · cases e3:ltI 48 k
      · cases e4:(x.all okB&&!ltI 48 x.length)
        · simp [c1,c2,c3,e1,e2,e3,e4,hm,writeS,wrOk,-Bool.and_eq_false_imp,-List.all_eq_true,-List.all_eq_false]
        · cases e5:eqS x []
          · have hk1:=ltI_not.1 e2
            have hk2:=ltI_not.1 e3
            have hx2:x.length≤48:=by
              simp only [Bool.and_eq_true,Bool.not_eq_true',ltI_not] at e4
              omega
            have hw:IntKind.i64.wrap (k+x.length)=k+x.length:=by rw [wrap64]<;>omega
            cases e6:ltI 48 (k+x.length)
            · have hk3:=ltI_not.1 e6
              have hne:x≠[]:=eqS_not.1 e5
              have hpos:0<x.length:=List.length_pos_iff.2 hne
              have c5:∀ m m',ev E 170 [.v m false [.sl (h.map spL)],.v m' true (spL (k,k+x.length))]=some { rs:=[.v .own false [.sl ((addS h (k,k+x.length)).map spL)]],outs:=[] }:=fun m m'=>ev_spec_l1Add m m' h (k,k+x.length) (by omega) (by dsimp only;omega) (by dsimp only;omega) (by dsimp only;omega)
              have c6:∀ m m',ev E 170 [.v m false [.sl (d.map spL)],.v m' true (spL (k,k+x.length))]=some { rs:=[.v .own false [.sl ((addS d (k,k+x.length)).map spL)]],outs:=[] }:=fun m m'=>ev_spec_l1Add m m' d (k,k+x.length) (by omega) (by dsimp only;omega) (by dsimp only;omega) (by dsimp only;omega)
              have hl1:=addS_len h (k,k+x.length)
              have hl2:=addS_len d (k,k+x.length)
              have c7:=fun m m' m''=>ev_l6Over m m' m'' t x (k,k+x.length) (by dsimp only;omega) (by dsimp only;omega) (by dsimp only;omega) (by dsimp only;omega) (by omega) (by omega)
              have hol:=overS_len t x (k,k+x.length) (by dsimp only;omega) (by dsimp only;omega) (by dsimp only;omega)
              have c8:=fun m m' hm hm'=>ev_l6Put m m' hm hm' t h d (overS t (k,k+x.length) x) (addS h (k,k+x.length)) (addS d (k,k+x.length)) (by omega) (by omega) (by rw [hol];omega) (by omega) (by omega)
              simp only [spL] at c5 c6 c7
              cases e7:ownOk (overS t (k,k+x.length) x) (addS h (k,k+x.length)) (addS d (k,k+x.length)) <;>
                simp [c1,c2,c3,c5,c6,c7,e1,e2,e3,e4,e5,e6,e7,hw,hm,writeS,wrOk,-Bool.and_eq_false_imp,-List.all_eq_true,-List.all_eq_false,-Bool.and_eq_true]
              all_goals (rw [c8 m .tn hm rfl];simp [e7])
            · simp [c1,c2,c3,e1,e2,e3,e4,e5,e6,hw,hm,writeS,wrOk,-Bool.and_eq_false_imp,-List.all_eq_true,-List.all_eq_false,-Bool.and_eq_true]
          · simp [c1,c2,c3,e1,e2,e3,e4,e5,hm,writeS,wrOk,-Bool.and_eq_false_imp,-List.all_eq_true,-List.all_eq_false,-Bool.and_eq_true]
      · simp [c1,c2,c3,e1,e2,e3,hm,writeS,wrOk]
    · simp [c1,c2,c3,e1,e2,hm,writeS,wrOk]
end Go.Ev


set_option maxRecDepth 100000
set_option maxHeartbeats 4000000
namespace Go.Ev
open Go.Proofs
theorem meetO_eq {s p:Sp} (hs:0≤s.1∧s.1<s.2∧s.2≤48) (hp:0≤p.1∧p.1<p.2∧p.2≤48):meetO s p=ltI (meetS s p).1 (meetS s p).2:=by
  have hb:=meet_bd hs hp
  have h1:spOk s=true:=spOk_iff.2 hs
  have h2:spOk p=true:=spOk_iff.2 hp
  simp only [meetO,h1,h2,Bool.true_and]
  rw [Bool.eq_iff_iff,spOk_iff,ltI_iff]
  omega
theorem lp_OwnPatches (m:M) (hm:m.isOwn=false) (t:List UInt8) (h d:List Sp) (p:Sp) (ht:t.length=48) (hd:∀ s∈d,0≤s.1∧s.1<s.2∧s.2≤48) (hp:0≤p.1∧p.1<p.2∧p.2≤48) (hdl:d.length≤4000000) (a:Code) (ha:a=lp Tryz.f33 0):∀ (n i:Nat) (out:List Pt),i+n=d.length→out.length≤i →
    loopC E (ev E) 33 a { V:=[(2,adc 2),(3,adc 3),(5,at1 5),(20,.v m false [.sl (d.map spL)]),(21,vi d.length),(22,vi i)],H:=[bxm (.c 2) m (owL t h d),bx (.c 3) (spL p),ow (.c 5) [.sl (out.map ptL)]],ps:=[] } =
      some (.exit 0,{ V:=[(2,adc 2),(3,adc 3),(5,at1 5),(20,.v m false [.sl (d.map spL)]),(21,vi d.length),(22,vi d.length),(23,vb false)],H:=[bxm (.c 2) m (owL t h d),bx (.c 3) (spL p),ow (.c 5) [.sl ((out++patF t p (d.drop i)).map ptL)]],ps:=[] })
  | 0,i,out,h0,ho=>by
    rw [loopC_of _ _ _ _ ha]
    obtain rfl:i=d.length:=by omega
    simp [lp,loopsOf,Tryz.f33,patF,hm]
  | n+1,i,out,h0,ho=>by
    have hlt:i<d.length:=by omega
    have hw:=wrapN i (by omega)
    have hs:=hd d[i] (List.getElem_mem hlt)
    have hb:=meet_bd hs hp
    have hc:=fun m m'=>ev_SpanMeet m m' d[i] p
    rw [meetO_eq hs hp] at hc
    have hsz:(out.length+1)*24≤17592186044416:=by omega
    have hsz2:out.length+1≤17592186044416:=by omega
    rw [List.drop_eq_getElem_cons hlt,patF]
    cases e:ltI (meetS d[i] p).1 (meetS d[i] p).2
    · have ih:=lp_OwnPatches m hm t h d p ht hd hp hdl a ha n (i+1) out (by omega) (by omega)
      push_cast at ih
      rw [loopC_of _ _ _ _ ha]
      clear ha
      simp [lp,loopsOf,Tryz.f33,hlt,hw,hm,hc,e]
      simpa using ih
    · have ih:=lp_OwnPatches m hm t h d p ht hd hp hdl a ha n (i+1) (out++[((meetS d[i] p).1,subS t (meetS d[i] p))]) (by omega) (by simp;omega)
      push_cast at ih
      rw [loopC_of _ _ _ _ ha]
      clear ha
      have e':=ltI_iff.1 e
      have q1:(meetS d[i] p).1≤((meetS d[i] p).2.toNat:Int):=by omega
      have q2:(meetS d[i] p).2≤(48:Int):=by omega
      have q3:(meetS d[i] p).1.toNat≤(meetS d[i] p).2.toNat:=by omega
      have q4:max (meetS d[i] p).2 0=(meetS d[i] p).2:=by omega
      simp [lp,loopsOf,Tryz.f33,hlt,hw,hm,hc,e,ht,hb,q1,q2,q3,q4,hsz,hsz2,Int.le_of_lt e']
      simpa [subS] using ih
def patI (t:List UInt8) (h d:List Sp) (p:Sp):List Pt:=if ownOk t h d=true then (if spOk p=true then patF t p d else []) else []
theorem ev_OwnPatches (m m':M) (hm:m.isOwn=false) (t:List UInt8) (h d:List Sp) (p:Sp) (b:OwB t h d) :
    ev E 33 [.v m true (owL t h d),.v m' true (spL p)]=some { rs:=[.v .own false [.sl ((patI t h d p).map ptL)]],outs:=[] }:=by
  have bt:=b.t
  have bh:=b.h
  have bd:=b.d
  have c1:=fun m hm=>ev_impl_OwnOk m hm t h d (by omega) (by omega) (by omega)
  have c2:=fun m=>ev_impl_SpanOk m p
  rw [ev_fn Tryz.f33 rfl Tryz.func33 rfl rfl rfl (Nat.le_of_ble_eq_true rfl)]
  cases e1:ownOk t h d
  · simp [c1,e1,hm,patI]
  · cases e2:spOk p
    · simp [c1,c2,e1,e2,hm,patI]
    · obtain ⟨ht,hsh,hsd,_⟩:=ownOk_t e1
      have hl:=lp_OwnPatches m hm t h d p ht (spsOk_sp hsd) (spOk_iff.1 e2) (by omega) _ rfl d.length 0 [] (by omega) (by simp)
      push_cast at hl
      simp [c1,c2,e1,e2,hm,patI]
      rw [loopC_at ?_ (by simpa using hl)]
      · simp
      · rfl
def eqP (f g:Nat→Bool):Bool:=(List.range 48).all fun j=>f j==g j
theorem cellsEq_bools (f g:Nat→Bool):∀ (xs:List Nat),cellsEq (xs.map fun i=>L.bool (f i)) (xs.map fun i=>L.bool (g i))=some (xs.all fun j=>f j==g j)
  | []=>rfl
  | x::xs=>by
    have:=cellsEq_bools f g xs
    simp only [List.map_cons,cellsEq,leafEq,this,List.all_cons]
theorem cellsEq_pl (f g:Nat→Bool):cellsEq (pl f) (pl g)=some (eqP f g):=cellsEq_bools f g (List.range 48)
theorem eqP_iff {f g:Nat→Bool}:eqP f g=true↔∀ j,j<48→f j=g j:=by
  simp [eqP,List.all_eq_true]
@[simp] theorem eqAgg_places:eqAgg Tryz.prog 81=true:=by kernel_rfl
@[simp] theorem shape_places (f:Nat→Bool):shapeT Tryz.prog 8 81 (pl f)=true:=by
  have:(pl f).all (leafFits TD.bool)=true:=by simp [pl,leafFits]
  simp [shapeT,this]
def haveS (h:List Sp) (s:Sp):Bool:=spsOk h&&spOk s&&eqP (fun j=>inF h j&&inF [s] j) (inF [s])
theorem ev_SpansHave (m m':M) (h:List Sp) (s:Sp) (hb:h.length≤1099511627776):ev E 129 [.v m false [.sl (h.map spL)],.v m' true (spL s)]=some (rB (haveS h s)):=by
  have c1:=fun m=>ev_impl_SpansOk m h hb
  have c2:=fun m=>ev_impl_SpanOk m s
  rw [ev_fn Tryz.f129 rfl Tryz.func129 rfl rfl rfl (Nat.le_of_ble_eq_true rfl)]
  cases e1:spsOk h
  · simp [c1,e1,haveS]
  · cases e2:spOk s
    · simp [c1,c2,e1,e2,haveS]
    · have hs:=spOk_iff.1 e2
      have c3:∀ m,ev E 42 [.v m false [.sl (h.map spL)]]=some { rs:=[.v .own true (pl (inF h))],outs:=[] }:=fun m=>ev_impl_of m h (by omega) fun s hs=>by have:=spsOk_sp e1 s hs;omega
      have c4:∀ m,ev E 42 [.v m false [.sl [spL s]]]=some { rs:=[.v .own true (pl (inF [s]))],outs:=[] }:=fun m=>ev_impl_of m [s] (by simp) fun q hq=>by simp only [List.mem_singleton] at hq;subst hq;omega
      have c5:=fun m m'=>ev_meet m m' (inF h) (inF [s])
      simp [-shapeT,c1,c2,c3,c4,c5,e1,e2,haveS,cellsEq_pl]
def readS (t:List UInt8) (h d:List Sp) (s:Sp):List UInt8 × Bool:=if ownOk t h d=true then (if haveS h s=true then (subS t s,true) else ([],false)) else ([],false)
theorem ev_OwnRead (m m':M) (hm:m.isOwn=false) (t:List UInt8) (h d:List Sp) (s:Sp) (b:OwB t h d) :
    ev E 88 [.v m true (owL t h d),.v m' true (spL s)]=some { rs:=[.v .own false [.str (readS t h d s).1],.v .own false [.bool (readS t h d s).2]],outs:=[] }:=by
  have bt:=b.t
  have bh:=b.h
  have bd:=b.d
  have c1:=fun m hm=>ev_impl_OwnOk m hm t h d (by omega) (by omega) (by omega)
  have c2:=fun m m'=>ev_SpansHave m m' h s (by omega)
  rw [ev_fn Tryz.f88 rfl Tryz.func88 rfl rfl rfl (Nat.le_of_ble_eq_true rfl)]
  cases e1:ownOk t h d
  · simp [c1,e1,hm,readS]
  · cases e2:haveS h s
    · simp [c1,c2,e1,e2,hm,readS]
    · obtain ⟨ht,hsh,hsd,_⟩:=ownOk_t e1
      have hs:0≤s.1∧s.1<s.2∧s.2≤48:=by
        simp only [haveS,Bool.and_eq_true] at e2
        exact spOk_iff.1 e2.1.2
      have q1:s.1≤(s.2.toNat:Int):=by omega
      have q3:s.1.toNat≤s.2.toNat:=by omega
      have q4:max s.2 0=s.2:=by omega
      have q5:0≤s.2:=by omega
      have q6:s.1≤s.2:=by omega
      simp [c1,c2,e1,e2,hm,readS,ht,hs,q1,q3,q4,q5,q6,subS]
end Go.Ev


set_option maxRecDepth 100000
set_option maxHeartbeats 4000000
namespace Go.Ev
open Go.Proofs
def fillT (d:List Sp) (x:List UInt8) (lo:Nat):Nat→Nat→List UInt8→List UInt8
  | 0,_,s=>s
  | n+1,i,s=>fillT d x lo n (i+1) (if inF d i=true then s else overS s ((i:Int),(i:Int)+1) ((x.take (i - lo+1)).drop (i - lo)))
theorem lp_sFill (m md:M) (hm:m.isOwn=false) (t:List UInt8) (h d:List Sp) (x:List UInt8) (lo hi:Nat) (hlh:lo≤hi) (hhi:hi≤48) (hx:x.length=hi - lo) (hb:d.length≤1099511627776) (a:Code) (ha:a=lp Tryz.f116 0):∀ (n i:Nat) (m0:M) (s:List UInt8),i+n=hi→lo≤i→s.length=48 →
    ∃ m',loopC E (ev E) 116 a { V:=[(2,.v md false [.str x]),(3,adc 3),(4,adc 4),(6,adc 6),(8,.v m0 false [.str s]),(9,vi i)],H:=[bxm (.c 3) m (owL t h d),bx (.c 4) [.int .i64 lo,.int .i64 hi],bx (.c 6) [.str [],.sl [],.sl []]],ps:=[] } =
      some (.exit 0,{ V:=[(2,.v md false [.str x]),(3,adc 3),(4,adc 4),(6,adc 6),(8,.v m' false [.str (fillT d x lo n i s)]),(9,vi hi),(41,vb false)],H:=[bxm (.c 3) m (owL t h d),bx (.c 4) [.int .i64 lo,.int .i64 hi],bx (.c 6) [.str [],.sl [],.sl []]],ps:=[] })∧(fillT d x lo n i s).length=48
  | 0,i,m0,s,h0,h1,hs=>by
    refine ⟨m0,?_,by simpa [fillT] using hs⟩
    rw [loopC_of _ _ _ _ ha]
    obtain rfl:i=hi:=by omega
    simp [lp,loopsOf,Tryz.f116,fillT,hm]
  | n+1,i,m0,s,h0,h1,hs=>by
    have hlt:i<hi:=by omega
    have hw:=wrapN i (by omega)
    have c1:∀ m m',ev E 145 [.v m false [.sl (d.map spL)],.v m' false [.int .i64 i]]=some (rB (inF d i)):=fun m m'=>ev_spec_l1In m m' d i hb
    cases e:inF d i
    · have hol:=overS_len s ((x.take (i - lo+1)).drop (i - lo)) ((i:Int),(i:Int)+1) (by dsimp only;omega) (by dsimp only;omega) (by dsimp only;omega)
      have hxl:((x.take (i - lo+1)).drop (i - lo)).length=1:=by simp;omega
      obtain ⟨m',ih,hl⟩:=lp_sFill m md hm t h d x lo hi hlh hhi hx hb a ha n (i+1) .own (overS s ((i:Int),(i:Int)+1) ((x.take (i - lo+1)).drop (i - lo))) (by omega) (by omega) (by rw [hol,hxl];dsimp only;omega)
      refine ⟨m',?_,by simpa [fillT,e] using hl⟩
      push_cast at ih
      rw [loopC_of _ _ _ _ ha]
      clear ha
      have w2:IntKind.i64.wrap ((i:Int) - lo)=((i - lo:Nat):Int):=by rw [wrap64]<;>omega
      have w3:IntKind.i64.wrap (((i - lo:Nat):Int)+1)=((i - lo+1:Nat):Int):=by rw [wrap64]<;>omega
      have c2:=fun m m' m''=>ev_l6Over m m' m'' s ((x.take (i - lo+1)).drop (i - lo)) ((i:Int),(i:Int)+1) (by dsimp only;omega) (by dsimp only;omega) (by dsimp only;omega) (by dsimp only;omega) (by omega) (by omega)
      simp only [spL] at c2
      generalize hj:i - lo=j at *
      have q1:(j:Int)+1≤(x.length:Int):=by omega
      have q2:j+1≤x.length:=by omega
      have q3:(0:Int)≤(j:Int)+1:=by omega
      have q4:(j:Int)≤(j:Int)+1:=by omega
      simp [lp,loopsOf,Tryz.f116,hlt,hw,hm,c1,e,w2,w3,fillT,q1,q2,q3,q4,c2]
      rw [hj]
      simpa using ih
    · obtain ⟨m',ih,hl⟩:=lp_sFill m md hm t h d x lo hi hlh hhi hx hb a ha n (i+1) m0 s (by omega) (by omega) hs
      refine ⟨m',?_,by simpa [fillT,e] using hl⟩
      push_cast at ih
      rw [loopC_of _ _ _ _ ha]
      clear ha
      simp [lp,loopsOf,Tryz.f116,hlt,hw,hm,c1,e,fillT]
      simpa using ih
def fillOk (p:Sp) (x:List UInt8):Bool:=spOk p&&(x.all okB&&!ltI 48 x.length)&&eqI x.length (p.2 - p.1)
def fillS (t:List UInt8) (h d:List Sp) (p:Sp) (x:List UInt8):Out :=
  if ownOk t h d=true then
    if fillOk p x=true then
      if ownOk (fillT d x p.1.toNat (p.2 - p.1).toNat p.1.toNat t) (addS h p) d=true then rOB (fillT d x p.1.toNat (p.2 - p.1).toNat p.1.toNat t) (addS h p) d true else rOB t h d false
    else rOB t h d false
  else rOB [] [] [] false
theorem ev_spec_OwnFill (m m' m'':M) (hm:m.isOwn=false) (t:List UInt8) (h d:List Sp) (p:Sp) (x:List UInt8) (b:OwB t h d) (hx:x.length≤4000000) :
    ev E 116 [.v m true (owL t h d),.v m' true (spL p),.v m'' false [.str x]]=some (fillS t h d p x):=by
  have bt:=b.t
  have bh:=b.h
  have bd:=b.d
  have c1:=fun m hm=>ev_spec_OwnOk m hm t h d (by omega) (by omega) (by omega)
  have c2:=fun m=>ev_spec_SpanOk m p
  have c3:=fun m hm=>ev_l6Copy m hm t h d (by omega) (by omega)
  have c4:=fun m=>ev_spec_TextOk m x (by omega)
  rw [ev_fn Tryz.f116 rfl Tryz.func116 rfl rfl rfl (Nat.le_of_ble_eq_true rfl)]
  cases e1:ownOk t h d
  · simp [c1,e1,hm,fillS]
  · obtain ⟨ht,hsh,hsd,_⟩:=ownOk_t e1
    cases e2:spOk p
    · simp [c1,c2,c3,e1,e2,hm,fillS,fillOk]
    · have hp:=spOk_iff.1 e2
      cases e4:(x.all okB&&!ltI 48 x.length)
      · simp [c1,c2,c3,c4,e1,e2,e4,hm,fillS,fillOk,-Bool.and_eq_false_imp,-List.all_eq_true,-List.all_eq_false,-Bool.and_eq_true]
      · have hw:IntKind.i64.wrap (p.2 - p.1)=p.2 - p.1:=by rw [wrap64]<;>omega
        cases e5:eqI x.length (p.2 - p.1)
        · simp [c1,c2,c3,c4,e1,e2,e4,e5,hw,hm,fillS,fillOk,-Bool.and_eq_false_imp,-List.all_eq_true,-List.all_eq_false,-Bool.and_eq_true]
        · obtain ⟨lo',hi'⟩:=p
          obtain ⟨lo,rfl⟩:∃ lo:Nat,lo'=lo:=⟨lo'.toNat,by dsimp only at hp;omega⟩
          obtain ⟨hi,rfl⟩:∃ hi:Nat,hi'=hi:=⟨hi'.toNat,by dsimp only at hp;omega⟩
          have e5':=eqI_iff.1 e5
          dsimp only at hp e5' hw
          obtain ⟨mm,hl,hlen⟩:=lp_sFill m m'' hm t h d x lo hi (by omega) (by omega) (by omega) (by omega) _ rfl (hi - lo) lo .ro t (by omega) (by omega) ht
          have hT:fillT d x ((lo:Int),(hi:Int)).1.toNat (((lo:Int),(hi:Int)).2 - ((lo:Int),(hi:Int)).1).toNat ((lo:Int),(hi:Int)).1.toNat t=fillT d x lo (hi - lo) lo t:=by
            have:((hi:Int) - (lo:Int)).toNat=hi - lo:=by omega
            simp only [this,wrap_i]
          have c5:∀ m m',ev E 170 [.v m false [.sl (h.map spL)],.v m' true [.int .i64 lo,.int .i64 hi]]=some { rs:=[.v .own false [.sl ((addS h ((lo:Int),(hi:Int))).map spL)]],outs:=[] }:=fun m m'=>ev_spec_l1Add m m' h (lo,hi) (by omega) (by dsimp only;omega) (by dsimp only;omega) (by dsimp only;omega)
          have hl1:=addS_len h ((lo:Int),(hi:Int))
          rw [fillS,hT]
          generalize htt:fillT d x lo (hi - lo) lo t=t' at *
          have c8:=fun m m' hm hm'=>ev_l6Put m m' hm hm' t h d t' (addS h ((lo:Int),(hi:Int))) d (by omega) (by omega) (by omega) (by omega) (by omega)
          have f1:fillOk ((lo:Int),(hi:Int)) x=true:=by simp only [fillOk,e2,e4,e5];rfl
          rw [if_pos e1,if_pos f1]
          have c2':∀ m,ev E 99 [.v m true [.int .i64 lo,.int .i64 hi]]=some (rB true):=fun m=>by have:=c2 m;rw [e2] at this;exact this
          simp [c1,c2',c3,c4,e1,e4,e5,hw,hm,-Bool.and_eq_false_imp,-List.all_eq_true,-List.all_eq_false,-Bool.and_eq_true]
          rw [loopC_at ?_ hl]
          · simp [c5,hm]
            rw [c8 m m hm hm]
            cases e7:ownOk t' (addS h ((lo:Int),(hi:Int))) d<;>simp
          · rfl
end Go.Ev


set_option maxRecDepth 100000
set_option maxHeartbeats 4000000
namespace Go.Ev
open Go.Proofs
abbrev rdL (bs:List UInt8) (p:Nat):List L:=[.sl (rowsOfBytes bs),.int .i64 p]
abbrev rdA (bs:List UInt8) (p:Nat):Arg:=.ptr .ro (rdL bs p)
abbrev rdO (bs:List UInt8) (p:Nat):M × List L:=(.ro,rdL bs p)
structure RdB (bs:List UInt8) (p:Nat):Prop where
  b:bs.length≤2000
  p:p≤1099511627776
@[simp] theorem rows_len (bs:List UInt8):(rowsOfBytes bs).length=bs.length:=by simp [rowsOfBytes]
@[simp] theorem rows_getE {bs:List UInt8} {i:Nat} (h:i<(rowsOfBytes bs).length):(rowsOfBytes bs)[i]=[.int .u8 (bs[i]'(by simpa using h)).toNat]:=by simp [rowsOfBytes]
theorem xor64 (a b:Nat) (ha:a<4611686018427387904) (hb:b<4611686018427387904):IntKind.i64.wrap ((BitVec.ofInt IntKind.i64.bits a ^^^ BitVec.ofInt IntKind.i64.bits b).toNat:Int)=((a ^^^ b:Nat):Int):=by
  have h1:(BitVec.ofInt IntKind.i64.bits a ^^^ BitVec.ofInt IntKind.i64.bits b).toNat=a ^^^ b:=by
    have e:IntKind.i64.bits=64:=rfl
    rw [e,BitVec.toNat_xor,BitVec.toNat_ofInt,BitVec.toNat_ofInt]
    congr 1<;>omega
  rw [h1]
  have h2:a ^^^ b<2 ^ 62:=Nat.xor_lt_two_pow (by omega) (by omega)
  rw [wrap64]
  omega
theorem ev_pick (m:M) (bs:List UInt8) (p:Nat) (n:Int) (b:RdB bs p) (hn:n≤1099511627776) :
    ∃ k:Nat,(1≤n→(k:Int)<n)∧ev E 58 [rdA bs p,.v m false [.int .i64 n]]=some { rs:=[.v .own false [.int .i64 k]],outs:=[rdO bs (p+1)] }:=by
  have bb:=b.b
  have bp:=b.p
  have hw:=wrapN p (by omega)
  have hw2:IntKind.i64.wrap (p:Int)=p:=by rw [wrap64];omega
  cases e1:ltI n 1
  · have hn1:=ltI_not.1 e1
    obtain ⟨N,rfl⟩:∃ N:Nat,n=N:=⟨n.toNat,by omega⟩
    have hN0:eqI (N:Int) 0=false:=eqI_not.2 (by omega)
    by_cases h0:bs.length=0
    · refine ⟨0,fun _=>by omega,?_⟩
      rw [ev_fn Tryz.f58 rfl Tryz.func58 rfl rfl rfl (Nat.le_of_ble_eq_true rfl)]
      simp [hw,e1,h0]
    · have e2:eqI bs.length 0=false:=eqI_not.2 (by omega)
      by_cases hlt:p<bs.length
      · refine ⟨bs[p].toNat % N,fun h=>by
          have:bs[p].toNat % N<N:=Nat.mod_lt _ (by omega)
          omega,?_⟩
        have hbl:bs[p].toNat<256:=bs[p].toNat_lt
        have w3:IntKind.i64.wrap (bs[p].toNat:Int)=bs[p].toNat:=by rw [wrap64];omega
        have w4:((bs[p].toNat:Nat):Int).tmod (N:Int)=((bs[p].toNat % N:Nat):Int):=(Int.ofNat_tmod _ _).symm
        rw [ev_fn Tryz.f58 rfl Tryz.func58 rfl rfl rfl (Nat.le_of_ble_eq_true rfl)]
        simp [hw,hw2,e1,e2,hlt,w3,w4,hN0]
      · have hlt':bs.length≤p:=by omega
        obtain ⟨q1,hq1⟩:∃ q,q=p % bs.length:=⟨_,rfl⟩
        obtain ⟨q2,hq2⟩:∃ q,q=(p*7+3) % bs.length:=⟨_,rfl⟩
        obtain ⟨q3,hq3⟩:∃ q,q=p / bs.length:=⟨_,rfl⟩
        have hi:q1<bs.length:=by rw [hq1];exact Nat.mod_lt _ (by omega)
        have hj:q2<bs.length:=by rw [hq2];exact Nat.mod_lt _ (by omega)
        have hd:q3≤p:=by rw [hq3];exact Nat.div_le_self _ _
        obtain ⟨A,hA⟩:∃ A,bs[q1].toNat=A:=⟨_,rfl⟩
        obtain ⟨B,hB⟩:∃ B,bs[q2].toNat=B:=⟨_,rfl⟩
        have hAl:A<256:=by rw [← hA];exact UInt8.toNat_lt _
        have hBl:B<256:=by rw [← hB];exact UInt8.toNat_lt _
        obtain ⟨X,hX⟩:∃ X,X=A*131+B*1117+p*29+q3*53:=⟨_,rfl⟩
        obtain ⟨q4,hq4⟩:∃ q,q=X / 64:=⟨_,rfl⟩
        have hq4l:q4≤X:=by rw [hq4];exact Nat.div_le_self _ _
        obtain ⟨Y,hY⟩:∃ Y,Y=X ^^^ q4:=⟨_,rfl⟩
        obtain ⟨Z,hZ⟩:∃ Z,Z=Y % N:=⟨_,rfl⟩
        refine ⟨Z,fun h=>by
          have:Y % N<N:=Nat.mod_lt _ (by omega)
          omega,?_⟩
        have hx:=xor64 X q4 (by omega) (by omega)
        rw [← hY] at hx
        have t1:((p:Nat):Int).tmod (bs.length:Int)=(q1:Int):=by rw [hq1];exact (Int.ofNat_tmod _ _).symm
        have t2:IntKind.i64.wrap ((p:Int)*7)=(p:Int)*7:=by rw [wrap64];omega
        have t3:IntKind.i64.wrap ((p:Int)*7+3)=(p:Int)*7+3:=by rw [wrap64];omega
        have t4:((p:Int)*7+3).tmod (bs.length:Int)=(q2:Int):=by rw [hq2];exact (Int.ofNat_tmod (p*7+3) _).symm
        have t5:IntKind.i64.wrap (A:Int)=A:=by rw [wrap64];omega
        have t6:IntKind.i64.wrap (B:Int)=B:=by rw [wrap64];omega
        have t7:IntKind.i64.wrap ((A:Int)*131)=(A:Int)*131:=by rw [wrap64];omega
        have t8:IntKind.i64.wrap ((B:Int)*1117)=(B:Int)*1117:=by rw [wrap64];omega
        have t9:IntKind.i64.wrap ((A:Int)*131+(B:Int)*1117)=(A:Int)*131+(B:Int)*1117:=by rw [wrap64];omega
        have u1:IntKind.i64.wrap ((p:Int)*29)=(p:Int)*29:=by rw [wrap64];omega
        have u2:IntKind.i64.wrap ((A:Int)*131+(B:Int)*1117+(p:Int)*29)=(A:Int)*131+(B:Int)*1117+(p:Int)*29:=by rw [wrap64];omega
        have u3:((p:Nat):Int).tdiv (bs.length:Int)=(q3:Int):=by rw [hq3];exact (Int.ofNat_tdiv _ _).symm
        have u4:IntKind.i64.wrap (q3:Int)=q3:=by rw [wrap64];omega
        have u5:IntKind.i64.wrap ((q3:Int)*53)=(q3:Int)*53:=by rw [wrap64];omega
        have u6:IntKind.i64.wrap ((A:Int)*131+(B:Int)*1117+(p:Int)*29+(q3:Int)*53)=(X:Int):=by rw [wrap64]<;>omega
        have u7:((X:Nat):Int).tdiv 64=(q4:Int):=by rw [hq4];exact (Int.ofNat_tdiv X 64).symm
        have u8:IntKind.i64.wrap (q4:Int)=q4:=by rw [wrap64];omega
        have u9:((Y:Nat):Int).tmod (N:Int)=(Z:Int):=by rw [hZ];exact (Int.ofNat_tmod _ _).symm
        have hx2:IntKind.i64.wrap ((X ^^^ q4:Nat):Int)=(Y:Int):=by
          have e:(BitVec.ofInt IntKind.i64.bits X ^^^ BitVec.ofInt IntKind.i64.bits q4).toNat=X ^^^ q4:=by
            have e:IntKind.i64.bits=64:=rfl
            rw [e,BitVec.toNat_xor,BitVec.toNat_ofInt,BitVec.toNat_ofInt]
            congr 1<;>omega
          rw [← e];exact hx
        have m1:X % 2 ^ IntKind.i64.bits=X:=Nat.mod_eq_of_lt (by show X<2 ^ 64;omega)
        have m2:q4 % 2 ^ IntKind.i64.bits=q4:=Nat.mod_eq_of_lt (by show q4<2 ^ 64;omega)
        rw [ev_fn Tryz.f58 rfl Tryz.func58 rfl rfl rfl (Nat.le_of_ble_eq_true rfl)]
        simp [m1,m2,hw,hw2,e1,e2,hlt',hN0,hi,hj,hA,hB,t1,t2,t3,t4,t5,t6,t7,t8,t9,u1,u2,u3,u4,u5,u6,u7,u8,u9,hx,hx2,eqI_false]
  · refine ⟨0,fun h=>by have:=ltI_iff.1 e1;omega,?_⟩
    rw [ev_fn Tryz.f58 rfl Tryz.func58 rfl rfl rfl (Nat.le_of_ble_eq_true rfl)]
    simp [hw,e1]
theorem ev_num (m:M) (bs:List UInt8) (p:Nat) (xs:List Int) (b:RdB bs p) (hx:0<xs.length) (hx2:xs.length≤4000000) :
    ∃ v∈xs,ev E 63 [rdA bs p,.v m false [.sl (xs.map fun x=>[L.int .i64 x])]]=some { rs:=[.v .own false [.int .i64 v]],outs:=[rdO bs (p+1)] }:=by
  obtain ⟨k,hk,hc⟩:=ev_pick .ro bs p xs.length b (by omega)
  have hk:=hk (by omega)
  have hkl:k<xs.length:=by omega
  refine ⟨xs[k],List.getElem_mem hkl,?_⟩
  rw [ev_fn Tryz.f63 rfl Tryz.func63 rfl rfl rfl (Nat.le_of_ble_eq_true rfl)]
  simp [hc,hkl]
theorem ev_ofS (m:M) (bs:List UInt8) (p:Nat) (xs:List (List UInt8)) (b:RdB bs p) (hx:0<xs.length) (hx2:xs.length≤4000000) :
    ∃ v∈xs,ev E 69 [rdA bs p,.v m false [.sl (xs.map fun x=>[L.str x])]]=some { rs:=[.v .own false [.str v]],outs:=[rdO bs (p+1)] }:=by
  obtain ⟨k,hk,hc⟩:=ev_pick .ro bs p xs.length b (by omega)
  have hk:=hk (by omega)
  have hkl:k<xs.length:=by omega
  refine ⟨xs[k],List.getElem_mem hkl,?_⟩
  rw [ev_fn Tryz.f69 rfl Tryz.func69 rfl rfl rfl (Nat.le_of_ble_eq_true rfl)]
  simp [hc,hkl]
end Go.Ev


set_option maxRecDepth 100000
set_option maxHeartbeats 4000000
namespace Go.Ev
open Go.Proofs
theorem RdB.add {bs:List UInt8} {p q:Nat} (b:RdB bs p) (h:p+q≤1099511627776):RdB bs (p+q):=⟨b.b,h⟩
theorem ev_l1Span (bs:List UInt8) (p:Nat) (b:RdB bs p) (hp:p+2≤1099511627776) :
    ∃ s:Sp,(0≤s.1∧s.1<s.2∧s.2≤48)∧ev E 68 [rdA bs p]=some { rs:=[.v .own true (spL s)],outs:=[rdO bs (p+2)] }:=by
  obtain ⟨k,hk,c1⟩:=ev_pick .ro bs p 47 b (by omega)
  have hk:=hk (by omega)
  obtain ⟨v,hv,c2⟩:=ev_num .tn bs (p+1) [0,1,3,5,9,20,47] (b.add (by omega)) (by simp) (by simp)
  have hv2:0≤v∧v≤47:=by
    simp at hv
    omega
  have w1:IntKind.i64.wrap ((k:Int)+1)=(k:Int)+1:=by rw [wrap64];omega
  have w2:IntKind.i64.wrap ((k:Int)+1+v)=(k:Int)+1+v:=by rw [wrap64];omega
  have c3:=fun m m'=>ev_spec_l1Min m m' 48 ((k:Int)+1+v)
  refine ⟨((k:Int),minI 48 ((k:Int)+1+v)),⟨by dsimp only;omega,?_,?_⟩,?_⟩
  · dsimp only [minI];split<;>omega
  · dsimp only [minI];split<;>rename_i h<;>simp [ltI] at h<;>omega
  · simp at c2
    rw [ev_fn Tryz.f68 rfl Tryz.func68 rfl rfl rfl (Nat.le_of_ble_eq_true rfl)]
    simp [c1,c2,c3,w1,w2]
end Go.Ev

