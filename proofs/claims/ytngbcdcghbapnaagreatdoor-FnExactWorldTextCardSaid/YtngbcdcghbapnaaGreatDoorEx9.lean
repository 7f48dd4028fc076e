/- My texts joined: EvM1, EvT23, EvT12, EvT13, EvT24, EvT15, EvT16, EvT21, EvT25, EvT32, EvT33, EvT34. No condition. -/
import Derived.Test.YtngbcdcghbapnaaGreatDoorEx1
import Derived.Test.YtngbcdcghbapnaaGreatDoorEx2
import Derived.Test.YtngbcdcghbapnaaGreatDoorEx5
import Derived.Test.YtngbcdcghbapnaaGreatDoorEx6
import Derived.Test.YtngbcdcghbapnaaGreatDoorEx7
import Derived.Test.YtngbcdcghbapnaaGreatDoorEx8
set_option linter.unusedVariables false
set_option linter.unusedSimpArgs false

namespace Go.Ev
theorem inSp_iff {j:Int} {s:Sp}:inSp j s=true↔s.1≤j∧j<s.2:=by
 simp [inSp,ltI]
theorem inF_iff {xs:List Sp} {j:Nat}:inF xs j=true↔∃ s∈xs,s.1≤(j:Int)∧(j:Int)<s.2:=by
 simp [inF,List.any_eq_true,inSp_iff]
theorem inF_false {xs:List Sp} {j:Nat}:inF xs j=false↔∀ s∈xs,¬ (s.1≤(j:Int)∧(j:Int)<s.2):=by
 rw [← Bool.not_eq_true,inF_iff]
 simp
structure Can (N:Int) (xs:List Sp):Prop where
 ok:∀ s∈xs,0≤s.1∧s.1<s.2∧s.2≤N
 pw:xs.Pairwise fun a b=>a.2<b.1
theorem Can.tail {N:Int} {s:Sp} {xs:List Sp} (h:Can N (s::xs)):Can N xs:=⟨fun u hu=>h.ok u (by simp [hu]),(List.pairwise_cons.1 h.pw).2⟩
theorem ofL_can (f:Nat→Bool):∀ (n i:Nat) (out:List Sp),Can i out→(∀ j,j<i→inF out j=f j)→Can ((i+n:Nat):Int) (ofL f n i out)∧∀ j,j<i+n→inF (ofL f n i out) j=f j
 | 0,i,out,h,hj=>⟨h,hj⟩
 | n+1,i,out,h,hj=>by
  have step:Can ((i+1:Nat):Int) (ofStep out i (f i))∧∀ j,j<i+1→inF (ofStep out i (f i)) j=f j:=by
   cases hf:f i with
   | false =>
    simp only [ofStep]
    refine ⟨⟨fun s hs=>by have:=h.ok s hs;omega,h.pw⟩,fun j hjj=>?_⟩
    by_cases e:j=i
    ·subst e
     rw [hf]
     simp only [Bool.false_eq_true,if_false]
     rw [inF_false]
     intro s hs
     have:=h.ok s hs
     omega
    ·exact hj j (by omega)
   | true =>
    rcases List.eq_nil_or_concat out with rfl | ⟨pre,⟨lo,hi⟩,rfl⟩
    ·simp only [ofStep,if_true,List.getLast?_nil]
     refine ⟨⟨fun s hs=>by simp only [List.mem_singleton] at hs;subst hs;dsimp only;omega,by simp⟩,fun j hjj=>?_⟩
     by_cases e:j=i
     ·subst e
      rw [hf,inF_iff]
      exact ⟨((j:Int),(j:Int)+1),by simp,by dsimp only;omega,by dsimp only;omega⟩
     ·rw [← hj j (by omega)]
      have:inF ([]:List Sp) j=false:=rfl
      rw [this,inF_false]
      intro s hs
      simp only [List.mem_singleton] at hs
      subst hs
      dsimp only
      omega
    ·rw [List.concat_eq_append] at h hj ⊢
     have hl:=h.ok (lo,hi) (by simp)
     dsimp only at hl
     have hp:=List.pairwise_append.1 h.pw
     have hpl:∀ s∈pre,s.2<lo:=fun s hs=>hp.2.2 s hs (lo,hi) (by simp)
     simp only [ofStep,if_true,List.getLast?_append,List.getLast?_singleton,Option.or_some,Option.some_or]
     cases e:eqI hi i with
     | true =>
      have e:=eqI_iff.1 e
      simp only [if_true,List.dropLast_concat]
      refine ⟨⟨fun s hs=>?_,List.pairwise_append.2 ⟨hp.1,by simp,fun a ha b hb=>?_⟩⟩,fun j hjj=>?_⟩
      ·rcases List.mem_append.1 hs with hs | hs
       ·have:=h.ok s (by simp [hs]);omega
       ·simp only [List.mem_singleton] at hs;subst hs;dsimp only;omega
      ·simp only [List.mem_singleton] at hb
       subst hb
       exact hpl a ha
      ·by_cases ej:j=i
       ·subst ej
        rw [hf,inF_iff]
        exact ⟨(lo,(j:Int)+1),by simp,by dsimp only;omega,by dsimp only;omega⟩
       ·rw [← hj j (by omega),Bool.eq_iff_iff,inF_iff,inF_iff]
        constructor
        ·rintro ⟨s,hs,h1,h2⟩
         rcases List.mem_append.1 hs with hs | hs
         ·exact ⟨s,by simp [hs],h1,h2⟩
         ·simp only [List.mem_singleton] at hs;subst hs;dsimp only at h1 h2
          exact ⟨(lo,hi),by simp,by dsimp only;omega,by dsimp only;omega⟩
        ·rintro ⟨s,hs,h1,h2⟩
         rcases List.mem_append.1 hs with hs | hs
         ·exact ⟨s,by simp [hs],h1,h2⟩
         ·simp only [List.mem_singleton] at hs;subst hs;dsimp only at h1 h2
          exact ⟨(lo,(i:Int)+1),by simp,by dsimp only;omega,by dsimp only;omega⟩
     | false =>
      have e:=eqI_not.1 e
      simp only [Bool.false_eq_true,if_false]
      refine ⟨⟨fun s hs=>?_,List.pairwise_append.2 ⟨h.pw,by simp,fun a ha b hb=>?_⟩⟩,fun j hjj=>?_⟩
      ·rcases List.mem_append.1 hs with hs | hs
       ·have:=h.ok s hs;omega
       ·simp only [List.mem_singleton] at hs;subst hs;dsimp only;omega
      ·simp only [List.mem_singleton] at hb
       subst hb
       dsimp only
       rcases List.mem_append.1 ha with ha | ha
       ·have:=hpl a ha;omega
       ·simp only [List.mem_singleton] at ha;subst ha;dsimp only;omega
      ·by_cases ej:j=i
       ·subst ej
        rw [hf,inF_iff]
        exact ⟨((j:Int),(j:Int)+1),by simp,by dsimp only;omega,by dsimp only;omega⟩
       ·rw [← hj j (by omega),Bool.eq_iff_iff,inF_iff,inF_iff]
        constructor
        ·rintro ⟨s,hs,h1,h2⟩
         rcases List.mem_append.1 hs with hs | hs
         ·exact ⟨s,hs,h1,h2⟩
         ·simp only [List.mem_singleton] at hs;subst hs;dsimp only at h1 h2;omega
        ·rintro ⟨s,hs,h1,h2⟩
         exact ⟨s,List.mem_append.2 (.inl hs),h1,h2⟩
  have:=ofL_can f n (i+1) (ofStep out i (f i)) step.1 step.2
  rw [show i+1+n=i+(n+1) by omega] at this
  exact this
theorem of_can (f:Nat→Bool):Can 48 (ofL f 48 0 [])∧∀ j,j<48→inF (ofL f 48 0 []) j=f j:=by
 have:=ofL_can f 48 0 [] ⟨by simp,by simp⟩ (fun j hj=>by omega)
 simpa using this
end Go.Ev


set_option maxRecDepth 100000
set_option maxHeartbeats 4000000
namespace Go.Ev
open Go.Proofs
theorem bytes_rows:∀ (bs:List UInt8),bytesOfRows (rowsOfBytes bs)=some bs
 | []=>rfl
 | b::bs=>by
  have:=bytes_rows bs
  simp only [rowsOfBytes] at this
  simp [rowsOfBytes,bytesOfRows,this]
end Go.Ev


set_option maxRecDepth 100000
set_option maxHeartbeats 4000000
namespace Go.Ev
open Go.Proofs
abbrev Pt:=Int × List UInt8
abbrev ptL (q:Pt):List L:=[.int .i64 q.1,.str q.2]
def subS (t:List UInt8) (s:Sp):List UInt8:=(t.take s.2.toNat).drop s.1.toNat
def patF (t:List UInt8) (p:Sp):List Sp→List Pt
 | []=>[]
 | s::d=>if ltI (meetS s p).1 (meetS s p).2=true then ((meetS s p).1,subS t (meetS s p))::patF t p d else patF t p d
theorem meet_bd {s p:Sp} (hs:0≤s.1∧s.1<s.2∧s.2≤48) (hp:0≤p.1∧p.1<p.2∧p.2≤48):0≤(meetS s p).1∧(meetS s p).2≤48∧0≤(meetS s p).2∧(meetS s p).1≤48:=by
 simp only [meetS,maxI,minI]
 split<;>split<;>refine ⟨?_,?_,?_,?_⟩<;>(try dsimp only)<;>omega
end Go.Ev


set_option maxRecDepth 100000
set_option maxHeartbeats 4000000
namespace Go.Ev
open Go.Proofs
theorem ownOk_t {t:List UInt8} {h d:List Sp} (e:ownOk t h d=true):t.length=48∧spsOk h=true∧spsOk d=true∧t.all okB=true:=by
 simp only [ownOk,Bool.and_eq_true,eqI_iff] at e
 exact ⟨by omega,e.1.1.2,e.1.2,e.1.1.1.1⟩
theorem overS_len (s x:List UInt8) (p:Sp) (h1:0≤p.1) (h2:p.1≤p.2) (h4:p.2≤s.length):(overS s p x).length=s.length - (p.2.toNat - p.1.toNat)+x.length:=by
 simp only [overS,List.length_append,List.length_take,List.length_drop]
 omega
def wrOk (k:Int) (x:List UInt8):Bool:=!ltI k 0&&!ltI 48 k&&(x.all okB&&!ltI 48 x.length)&&!eqS x []&&!ltI 48 (k+x.length)
end Go.Ev


set_option maxRecDepth 100000
set_option maxHeartbeats 4000000
namespace Go.Ev
open Go.Proofs
theorem meetO_eq {s p:Sp} (hs:0≤s.1∧s.1<s.2∧s.2≤48) (hp:0≤p.1∧p.1<p.2∧p.2≤48):meetO s p=ltI (meetS s p).1 (meetS s p).2:=by
 have hb:=meet_bd hs hp
 have h1:spOk s=true:=spOk_iff.2 hs
 have h2:spOk p=true:=spOk_iff.2 hp
 simp only [meetO,h1,h2,Bool.true_and]
 rw [Bool.eq_iff_iff,spOk_iff,ltI_iff]
 omega
theorem lp_OwnPatches (m:M) (hm:m.isOwn=false) (t:List UInt8) (h d:List Sp) (p:Sp) (ht:t.length=48) (hd:∀ s∈d,0≤s.1∧s.1<s.2∧s.2≤48) (hp:0≤p.1∧p.1<p.2∧p.2≤48) (hdl:d.length≤4000000) (a:Code) (ha:a=lp Tryz.f72 0):∀ (n i:Nat) (out:List Pt),i+n=d.length→out.length≤i →
  loopC E (ev E) 72 a { V:=[(2,adc 2),(3,adc 3),(5,at1 5),(20,.v m false [.sl (d.map spL)]),(21,vi d.length),(22,vi i)],H:=[bxm (.c 2) m (owL t h d),bx (.c 3) (spL p),ow (.c 5) [.sl (out.map ptL)]],ps:=[] } =
   some (.exit 0,{ V:=[(2,adc 2),(3,adc 3),(5,at1 5),(20,.v m false [.sl (d.map spL)]),(21,vi d.length),(22,vi d.length),(23,vb false)],H:=[bxm (.c 2) m (owL t h d),bx (.c 3) (spL p),ow (.c 5) [.sl ((out++patF t p (d.drop i)).map ptL)]],ps:=[] })
 | 0,i,out,h0,ho=>by
  rw [loopC_of _ _ _ _ ha]
  obtain rfl:i=d.length:=by omega
  simp [lp,loopsOf,Tryz.f72,patF,hm]
 | n+1,i,out,h0,ho=>by
  have hlt:i<d.length:=by omega
  have hw:=wrapN i (by omega)
  have hs:=hd d[i] (List.getElem_mem hlt)
  have hb:=meet_bd hs hp
  have hc:=fun m m'=>ev_SpanMeet m m' d[i] p
  rw [meetO_eq hs hp] at hc
  have hsz:(out.length+1)*24≤17592186044416:=by omega
  have hsz2:out.length+1≤17592186044416:=by omega
  rw [List.drop_eq_getElem_cons hlt,patF]
  cases e:ltI (meetS d[i] p).1 (meetS d[i] p).2
  ·have ih:=lp_OwnPatches m hm t h d p ht hd hp hdl a ha n (i+1) out (by omega) (by omega)
   push_cast at ih
   rw [loopC_of _ _ _ _ ha]
   clear ha
   simp [lp,loopsOf,Tryz.f72,hlt,hw,hm,hc,e]
   simpa using ih
  ·have ih:=lp_OwnPatches m hm t h d p ht hd hp hdl a ha n (i+1) (out++[((meetS d[i] p).1,subS t (meetS d[i] p))]) (by omega) (by simp;omega)
   push_cast at ih
   rw [loopC_of _ _ _ _ ha]
   clear ha
   have e':=ltI_iff.1 e
   have q1:(meetS d[i] p).1≤((meetS d[i] p).2.toNat:Int):=by omega
   have q2:(meetS d[i] p).2≤(48:Int):=by omega
   have q3:(meetS d[i] p).1.toNat≤(meetS d[i] p).2.toNat:=by omega
   have q4:max (meetS d[i] p).2 0=(meetS d[i] p).2:=by omega
   simp [lp,loopsOf,Tryz.f72,hlt,hw,hm,hc,e,ht,hb,q1,q2,q3,q4,hsz,hsz2,Int.le_of_lt e']
   simpa [subS] using ih
def patI (t:List UInt8) (h d:List Sp) (p:Sp):List Pt:=if ownOk t h d=true then (if spOk p=true then patF t p d else []) else []
theorem ev_OwnPatches (m m':M) (hm:m.isOwn=false) (t:List UInt8) (h d:List Sp) (p:Sp) (b:OwB t h d) :
  ev E 72 [.v m true (owL t h d),.v m' true (spL p)]=some { rs:=[.v .own false [.sl ((patI t h d p).map ptL)]],outs:=[] }:=by
 have bt:=b.t
 have bh:=b.h
 have bd:=b.d
 have c1:=fun m hm=>ev_impl_OwnOk m hm t h d (by omega) (by omega) (by omega)
 have c2:=fun m=>ev_impl_SpanOk m p
 rw [ev_fn Tryz.f72 rfl Tryz.func72 rfl rfl rfl (Nat.le_of_ble_eq_true rfl)]
 cases e1:ownOk t h d
 ·simp [c1,e1,hm,patI]
 ·cases e2:spOk p
  ·simp [c1,c2,e1,e2,hm,patI]
  ·obtain ⟨ht,hsh,hsd,_⟩:=ownOk_t e1
   have hl:=lp_OwnPatches m hm t h d p ht (spsOk_sp hsd) (spOk_iff.1 e2) (by omega) _ rfl d.length 0 [] (by omega) (by simp)
   push_cast at hl
   simp [c1,c2,e1,e2,hm,patI]
   rw [loopC_at ?_ (by simpa using hl)]
   ·simp
   ·rfl
def eqP (f g:Nat→Bool):Bool:=(List.range 48).all fun j=>f j==g j
theorem cellsEq_bools (f g:Nat→Bool):∀ (xs:List Nat),cellsEq (xs.map fun i=>L.bool (f i)) (xs.map fun i=>L.bool (g i))=some (xs.all fun j=>f j==g j)
 | []=>rfl
 | x::xs=>by
  have:=cellsEq_bools f g xs
  simp only [List.map_cons,cellsEq,leafEq,this,List.all_cons]
theorem cellsEq_pl (f g:Nat→Bool):cellsEq (pl f) (pl g)=some (eqP f g):=cellsEq_bools f g (List.range 48)
theorem eqP_iff {f g:Nat→Bool}:eqP f g=true↔∀ j,j<48→f j=g j:=by
 simp [eqP,List.all_eq_true]
@[simp] theorem eqAgg_places:eqAgg Tryz.prog 99=true:=by kernel_rfl
@[simp] theorem shape_places (f:Nat→Bool):shapeT Tryz.prog 8 99 (pl f)=true:=by
 have:(pl f).all (leafFits TD.bool)=true:=by simp [pl,leafFits]
 simp [shapeT,this]
end Go.Ev


set_option maxRecDepth 100000
set_option maxHeartbeats 4000000
namespace Go.Ev
open Go.Proofs
structure RdB (bs:List UInt8) (p:Nat):Prop where
 b:bs.length≤2000
 p:p≤1099511627776
@[simp] theorem rows_len (bs:List UInt8):(rowsOfBytes bs).length=bs.length:=by simp [rowsOfBytes]
@[simp] theorem rows_getE {bs:List UInt8} {i:Nat} (h:i<(rowsOfBytes bs).length):(rowsOfBytes bs)[i]=[.int .u8 (bs[i]'(by simpa using h)).toNat]:=by simp [rowsOfBytes]
end Go.Ev


set_option maxRecDepth 100000
set_option maxHeartbeats 4000000
namespace Go.Ev
open Go.Proofs
theorem RdB.add {bs:List UInt8} {p q:Nat} (b:RdB bs p) (h:p+q≤1099511627776):RdB bs (p+q):=⟨b.b,h⟩
end Go.Ev


set_option maxRecDepth 100000
set_option maxHeartbeats 4000000
namespace Go.Ev
open Go.Proofs
structure OB (t:List UInt8) (h d:List Sp):Prop where
 t:t.length≤1000
 h:h.length≤1000
 d:d.length≤1000
theorem OB.w {t:List UInt8} {h d:List Sp} (o:OB t h d):OwB t h d:=⟨by have:=o.t;omega,by have:=o.h;omega,by have:=o.d;omega⟩
theorem OB.ok {t:List UInt8} {h d:List Sp} (e:ownOk t h d=true):OB t h d:=by
 obtain ⟨h1,h2,h3,_⟩:=ownOk_t e
 have:=spsOk_len h2
 have:=spsOk_len h3
 exact ⟨by omega,by omega,by omega⟩
theorem OB.nil:OB [] [] []:=⟨by simp,by simp,by simp⟩
end Go.Ev


set_option maxRecDepth 100000
set_option maxHeartbeats 4000000
namespace Go.Ev
open Go.Proofs
structure OC (t:List UInt8) (h d:List Sp):Prop where
 t:t.length≤2000
 h:h.length≤2000
 d:d.length≤2000
theorem OC.w {t:List UInt8} {h d:List Sp} (o:OC t h d):OwB t h d:=⟨by have:=o.t;omega,by have:=o.h;omega,by have:=o.d;omega⟩
theorem cutS_get (d:List Sp) (p:Sp) (j:Nat) (hj:j<48):inF (cutS d p) j=(!inSp j p&&inF d j):=by
 have:=(of_can fun j=>if inSp j p=true then false else d.any (inSp j)).2 j hj
 rw [cutS,this]
 cases inSp j p<;>simp [inF]
theorem OC.ok {t:List UInt8} {h d:List Sp} (e:ownOk t h d=true):OC t h d:=by
 obtain ⟨h1,h2,h3,_⟩:=ownOk_t e
 have:=spsOk_len h2
 have:=spsOk_len h3
 exact ⟨by omega,by omega,by omega⟩
end Go.Ev


set_option maxRecDepth 100000
set_option maxHeartbeats 4000000
namespace Go.Ev
open Go.Proofs
theorem repeatL_dot:∀ n,Lib.repeatL [46] n=List.replicate n 46
 | 0=>rfl
 | n+1=>by rw [Lib.repeatL,repeatL_dot n];rfl
theorem ev_Repeat (m m':M) (k:Nat) (hk:k≤8200000):ev E 172 [.v m false [.str [46]],.v m' false [.int .i64 (k:Int)]]=some { rs:=[.v .own false [.str (List.replicate k 46)]],outs:=[] }:=by
 rw [ev_eq]
 have q0:(0:Int)≤(k:Int):=by omega
 have q4:(k:Int)≤9223372036854775807:=by omega
 have q2:k≤140737488355328:=by omega
 simp [repK,q0,q4,q2,repeatL_dot,leafOut]
def txtOk (s:List UInt8):Bool:=s.all okB&&!ltI 48 s.length
theorem txtOk_len {s:List UInt8} (h:txtOk s=true):s.length≤48:=by
 simp only [txtOk,Bool.and_eq_true,Bool.not_eq_true',ltI_not] at h
 omega
def sizedS (s:List UInt8) (n:Nat):List UInt8:=if ltI s.length n=true then s++List.replicate (n - s.length) 46 else s.take n
theorem ev_sized (m m':M) (s:List UInt8) (n:Nat) (hn:n≤8200000) (hs:s.length≤4000000):ev E 99 [.v m false [.str s],.v m' false [.int .i64 n]]=some { rs:=[.v .own false [.str (sizedS s n)]],outs:=[] }:=by
 rw [ev_fn Tryz.f99 rfl Tryz.func99 rfl rfl rfl (Nat.le_of_ble_eq_true rfl)]
 cases e:ltI s.length n
 ·have h1:=ltI_not.1 e
  have h2:n≤s.length:=by omega
  simp [e,sizedS,h2]
 ·have h1:=ltI_iff.1 e
  have hw:IntKind.i64.wrap ((n:Int) - s.length)=((n - s.length:Nat):Int):=by rw [wrap64]<;>omega
  have q1:n - s.length≤9223372036854775807:=by omega
  have q3:s.length+(n - s.length)≤4611686018427387904:=by omega
  have c:=fun m m'=>ev_Repeat m m' (n - s.length) (by omega)
  generalize hk:n - s.length=k at *
  simp [e,sizedS,hw,c,q3,hk]
def wrS (s:List UInt8) (k:Nat) (x:List UInt8):List UInt8:=(s++List.replicate (k - s.length) 46).take k++x++s.drop (k+x.length)
theorem wrS_sized (s x:List UInt8) (k:Nat):(sizedS s (max s.length (k+x.length))).take k++x++s.drop (min (k+x.length) s.length)=wrS s k x:=by
 unfold wrS sizedS
 congr 1
 ·congr 1
  split
  ·rename_i h
   rw [ltI_iff] at h
   apply List.ext_getElem?
   intro j
   simp only [List.getElem?_take,List.getElem?_append,List.getElem?_replicate]
   grind
  ·rename_i h
   rw [Bool.not_eq_true,ltI_not] at h
   apply List.ext_getElem?
   intro j
   simp only [List.getElem?_take,List.getElem?_append,List.getElem?_replicate]
   grind
 ·apply List.ext_getElem?
  intro j
  simp only [List.getElem?_drop]
  by_cases h:k+x.length≤s.length
  ·rw [Nat.min_eq_left h]
  ·rw [Nat.min_eq_right (by omega),List.getElem?_eq_none (by omega),List.getElem?_eq_none (by omega)]
theorem wrS_len (s x:List UInt8) (k:Nat):(wrS s k x).length=max s.length (k+x.length):=by
 simp [wrS]
 omega
def twS (s:List UInt8) (k:Int) (x:List UInt8):List UInt8 × Bool:=if txtOk s=true then (if wrOk k x=true then (wrS s k.toNat x,true) else (s,false)) else ([],false)
theorem ev_impl_TextWrite (m m' m'':M) (s x:List UInt8) (k:Int) (hs:s.length≤4000000) (hx:x.length≤4000000):ev E 47 [.v m false [.str s],.v m' false [.int .i64 k],.v m'' false [.str x]]=some { rs:=[.v .own false [.str (twS s k x).1],.v .own false [.bool (twS s k x).2]],outs:=[] }:=by
 have c1:∀ m,ev E 98 [.v m false [.str s]]=some (rB (txtOk s)):=fun m=>ev_impl_TextOk m s (by omega)
 have c2:∀ m,ev E 98 [.v m false [.str x]]=some (rB (txtOk x)):=fun m=>ev_impl_TextOk m x (by omega)
 have hwr:wrOk k x=(!ltI k 0&&!ltI 48 k&&txtOk x&&!eqS x []&&!ltI 48 (k+x.length)):=rfl
 by_cases hk:0≤k∧k≤48
 ·obtain ⟨n,rfl⟩:∃ n:Nat,k=n:=⟨k.toNat,by omega⟩
  have f1:ltI n 0=false:=ltI_not.2 (by omega)
  have f2:ltI 48 n=false:=ltI_not.2 (by omega)
  have hw:IntKind.i64.wrap ((n:Int)+x.length)=((n+x.length:Nat):Int):=by rw [wrap64]<;>omega
  have hm:maxI s.length ((n:Int)+x.length)=((max s.length (n+x.length):Nat):Int):=by simp only [maxI,ltI,decide_eq_true_eq];split<;>omega
  have hmi:minI ((n:Int)+x.length) s.length=((min (n+x.length) s.length:Nat):Int):=by simp only [minI,ltI,decide_eq_true_eq];split<;>omega
  have c3:=fun m m'=>ev_sized m m' s (max s.length (n+x.length)) (by omega) hs
  have hl:(sizedS s (max s.length (n+x.length))).length=max s.length (n+x.length):=by
   unfold sizedS
   split
   ·rename_i h;rw [ltI_iff] at h;simp;omega
   ·rename_i h;rw [Bool.not_eq_true,ltI_not] at h;simp;omega
  have hws:=wrS_sized s x n
  generalize sizedS s (max s.length (n+x.length))=z at c3 hl hws
  rw [ev_fn Tryz.f47 rfl Tryz.func47 rfl rfl rfl (Nat.le_of_ble_eq_true rfl)]
  cases e1:txtOk s
  ·simp [c1,e1,twS]
  ·cases e5:eqS x []
   ·cases e4:txtOk x
    ·simp [c1,c2,f1,f2,e1,e4,e5,twS,hwr]
    ·have hx48:=txtOk_len e4
     have hs48:=txtOk_len e1
     have g1:(n:Int)≤(max s.length (n+x.length):Nat):=by omega
     have g2:n≤max s.length (n+x.length):=by omega
     have g3:min (n+x.length) s.length≤s.length:=by omega
     have g4:n+x.length≤4611686018427387904:=by omega
     have g5:n+(x.length+(s.length - min (n+x.length) s.length))≤4611686018427387904:=by omega
     have g6:n+x.length+(s.length - min (n+x.length) s.length)≤4611686018427387904:=by omega
     generalize hmx:max s.length (n+x.length)=mx at *
     generalize hmn:min (n+x.length) s.length=mn at *
     cases e6:ltI 48 (n+x.length)
     ·simp [c1,c2,f1,f2,e1,e4,e5,e6,hw,maxJ,minJ,hm,hmi,c3,hl,twS,hwr,g1,g2,g3,g4,g5,g6,← hws]
     ·simp [c1,c2,f1,f2,e1,e4,e5,e6,hw,twS,hwr]
   ·simp [c1,f1,f2,e1,e5,twS,hwr]
 ·have hb:wrOk k x=false:=by
   rw [hwr]
   by_cases h0:0≤k
   ·rw [(ltI_iff.2 (by omega):ltI 48 k=true)];simp
   ·rw [(ltI_iff.2 (by omega):ltI k 0=true)];simp
  rw [ev_fn Tryz.f47 rfl Tryz.func47 rfl rfl rfl (Nat.le_of_ble_eq_true rfl)]
  cases e1:txtOk s
  ·simp [c1,e1,twS]
  ·cases e2:ltI k 0
   ·have e3:ltI 48 k=true:=ltI_iff.2 (by have:=ltI_not.1 e2;omega)
    simp [c1,e1,e2,e3,twS,hb]
   ·simp [c1,e1,e2,twS,hb]
end Go.Ev


set_option maxRecDepth 100000
set_option maxHeartbeats 4000000
namespace Go.Ev
open Go.Proofs
theorem wrOk_len {k:Int} {x:List UInt8} (h:wrOk k x=true):0≤k∧k+x.length≤48∧0<x.length∧x.all okB=true:=by
 simp only [wrOk,Bool.and_eq_true,Bool.not_eq_true',ltI_not,eqS_not] at h
 have:=List.length_pos_iff.2 h.1.2
 exact ⟨by omega,by omega,this,h.1.1.2.1⟩
theorem txtOk_wr {s:List UInt8} {k:Int} {x:List UInt8} (h1:txtOk s=true) (h2:wrOk k x=true):txtOk (wrS s k.toNat x)=true:=by
 obtain ⟨a1,a2,a3,a4⟩:=wrOk_len h2
 have hs:=txtOk_len h1
 simp only [txtOk,Bool.and_eq_true,Bool.not_eq_true',ltI_not] at h1 ⊢
 refine ⟨?_,by rw [wrS_len];omega⟩
 have h46:okB 46=true:=by decide
 rw [List.all_eq_true] at h1 a4 ⊢
 intro c hc
 simp only [wrS,List.mem_append] at hc
 rcases hc with (hc | hc) | hc
 ·have:=List.mem_of_mem_take hc
  rcases List.mem_append.1 this with hc | hc
  ·exact h1.1 c hc
  ·rw [(List.mem_replicate.1 hc).2];exact h46
 ·exact a4 c hc
 ·exact h1.1 c (List.mem_of_mem_drop hc)
end Go.Ev


set_option maxRecDepth 100000
set_option maxHeartbeats 4000000
namespace Go.Ev
open Go.Proofs
theorem subS_get (t:List UInt8) (a b i:Nat) (h:a+i<b):(subS t ((a:Int),(b:Int)))[i]?=t[a+i]?:=by
 simp only [subS,List.getElem?_drop,Int.toNat_natCast]
 rw [List.getElem?_take_of_lt h]
@[simp] theorem eqAgg_patch:eqAgg Tryz.prog 107=true:=by kernel_rfl
end Go.Ev

