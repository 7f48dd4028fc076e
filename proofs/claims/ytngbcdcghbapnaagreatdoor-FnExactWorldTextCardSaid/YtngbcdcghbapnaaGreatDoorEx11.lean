/- My texts joined: EvW7, EvW8, EvW9, EvQ1, EvT50. No condition. -/
import Derived.Test.YtngbcdcghbapnaaGreatDoorEx1
import Derived.Test.YtngbcdcghbapnaaGreatDoorEx2
import Derived.Test.YtngbcdcghbapnaaGreatDoorEx5
import Derived.Test.YtngbcdcghbapnaaGreatDoorEx6
import Derived.Test.YtngbcdcghbapnaaGreatDoorEx7
import Derived.Test.YtngbcdcghbapnaaGreatDoorEx8
import Derived.Test.YtngbcdcghbapnaaGreatDoorEx9
import Derived.Test.YtngbcdcghbapnaaGreatDoorEx10
set_option linter.unusedVariables false
set_option linter.unusedSimpArgs false

namespace Go.Ev
structure ReadR (w:WorldT) (i:Nat) (s:Sp) (x:WorldT) (data:Bs):Prop where
 ok:WorldP x
 own:∀ k,k<3→k≠i→x.own k=w.own k
 dirty:(x.own i).d=(w.own i).d
 text:∀ j,(x.own i).t.getD j 0=if inSp j s=true∧inF (w.own i).d j=false then w.byte j else (w.own i).t.getD j 0
 have':∀ j,j<48→inF (x.own i).h j=(inSp j s || inF (w.own i).h j)
 rest:x={ w with owns:=x.owns }
 data:data=subS (x.own i).t s
 may:∀ j:Nat,inSp j s=true→mayAt (w.lock i) false j=true
theorem ReadR.byte {w x:WorldT} {i:Nat} {s:Sp} {data:Bs} (R:ReadR w i s x data) (j:Nat):x.byte j=w.byte j:=by rw [R.rest];rfl
theorem ReadR.see {w x:WorldT} {i:Nat} {s:Sp} {data:Bs} (hw:WorldP w) (hi:i<3) (R:ReadR w i s x data) {j:Nat} (hj:j<48):x.see j=w.see j:=by
 refine R.ok.see_of hj (fun k hk hd=>?_) (fun hn=>?_)
 ·by_cases e:k=i
  ·subst e
   rw [R.dirty] at hd
   rw [R.text j,if_neg (by rw [hd];simp),hw.see_own hk hj hd]
  ·rw [R.own k hk e] at hd ⊢
   exact (hw.see_own hk hj hd).symm
 ·rw [R.byte]
  refine (see_none fun k hk=>?_).symm
  have:=hn k hk
  by_cases e:k=i
  ·subst e;rwa [R.dirty] at this
  ·rwa [R.own k hk e] at this
structure WriteR (w:WorldT) (i:Nat) (lo:Nat) (data:Bs) (x:WorldT):Prop where
 ok:WorldP x
 own:∀ k,k<3→k≠i→x.own k=w.own k
 dirty:∀ j,j<48→inF (x.own i).d j=(decide (lo≤j∧j<lo+data.length) || inF (w.own i).d j)
 text:∀ j,(x.own i).t.getD j 0=if lo≤j∧j<lo+data.length then data.getD (j - lo) 0 else (w.own i).t.getD j 0
 rest:x={ w with owns:=x.owns }
 lock:∀ j,lo≤j→j<lo+data.length→inF (w.lock i).w j=true
 wr:wrOk lo data=true
theorem WriteR.byte {w x:WorldT} {i lo:Nat} {data:Bs} (R:WriteR w i lo data x) (j:Nat):x.byte j=w.byte j:=by rw [R.rest];rfl
theorem WriteR.see {w x:WorldT} {i lo:Nat} {data:Bs} (hw:WorldP w) (hi:i<3) (R:WriteR w i lo data x) {j:Nat} (hj:j<48):x.see j=if lo≤j∧j<lo+data.length then data.getD (j - lo) 0 else w.see j:=by
 by_cases hc:lo≤j∧j<lo+data.length
 ·rw [if_pos hc]
  have hd:inF (x.own i).d j=true:=by rw [R.dirty j hj];simp [hc]
  rw [R.ok.see_own hi hj hd,R.text,if_pos hc]
 ·rw [if_neg hc]
  refine R.ok.see_of hj (fun k hk hd=>?_) (fun hn=>?_)
  ·by_cases e:k=i
   ·subst e
    rw [R.dirty j hj,decide_eq_false hc,Bool.false_or] at hd
    rw [R.text,if_neg hc,hw.see_own hk hj hd]
   ·rw [R.own k hk e] at hd ⊢
    exact (hw.see_own hk hj hd).symm
  ·rw [R.byte]
   refine (see_none fun k hk=>?_).symm
   have:=hn k hk
   by_cases e:k=i
   ·subst e
    rwa [R.dirty j hj,decide_eq_false hc,Bool.false_or] at this
   ·rwa [R.own k hk e] at this
end Go.Ev


namespace Go.Ev
def noneP (f:Nat→Bool):Bool:=eqP f fun _=>false
theorem noneP_iff {f:Nat→Bool}:noneP f=true↔∀ j,j<48→f j=false:=eqP_iff
def orP (f g:Nat→Bool):Nat→Bool:=fun j=>if g j=true then true else f j
theorem orP_eq (f g:Nat→Bool) (j:Nat):orP f g j=(f j || g j):=by unfold orP;cases g j<;>simp
def lockI:(Nat→Bool)→(Nat→Bool)→List HoldT→Bool
 | _,_,[]=>true
 | a,wr,h::hs=>spsOk h.r&&spsOk h.w&&(noneP (fun j=>inF h.r j&&inF h.w j)&&noneP (fun j=>inF h.w j&&a j)&&noneP (fun j=>inF h.r j&&wr j))&&lockI (orP (orP a (inF h.w)) (inF h.r)) (orP wr (inF h.w)) hs
def lockOkI (t:List HoldT):Bool:=eqI t.length 3&&lockI (fun _=>false) (fun _=>false) t
theorem apart48 {a b:List Sp} (ha:spsOk a=true):apartS a b↔∀ j,j<48→¬ (inF a j=true∧inF b j=true) :=
 ⟨fun h j _=>h j,fun h j hj=>h j (inF_lt ha hj.1) hj⟩
theorem lockI_eq (t:List HoldT):lockOkI t=lockOk t:=by
 rw [Bool.eq_iff_iff,lockOk_iff]
 unfold lockOkI
 rw [Bool.and_eq_true,eqI3]
 constructor
 ·rintro ⟨hl,h⟩
  match t,hl with
  | [a,b,c],_ =>
   simp only [lockI,Bool.and_eq_true,noneP_iff,orP_eq,Bool.or_eq_false_iff,Bool.and_eq_false_imp,Bool.or_false,Bool.false_or,Bool.or_eq_false_iff] at h
   obtain ⟨⟨⟨a1,a2⟩,⟨a3,_⟩,_⟩,⟨⟨b1,b2⟩,⟨b3,b4⟩,b5⟩,⟨⟨c1,c2⟩,⟨c3,c4⟩,c5⟩,_⟩:=h
   have e:∀ x y:List Sp,spsOk x=true→(∀ j,j<48→inF x j=true→inF y j=false)→apartS x y:=fun x y hx hh=>(apart48 hx).2 fun j hj q=>by rw [hh j hj q.1] at q;cases q.2
   have sy:∀ x y:List Sp,apartS x y→apartS y x:=fun x y hh j q=>hh j ⟨q.2,q.1⟩
   refine ⟨rfl,fun i hi=>?_,fun i hi=>?_,fun i hi=>?_,fun i k hi hk hne=>?_,fun i k hi hk hne=>?_⟩
   ·match i,hi with
    | 0,_=>exact a1
    | 1,_=>exact b1
    | 2,_=>exact c1
   ·match i,hi with
    | 0,_=>exact a2
    | 1,_=>exact b2
    | 2,_=>exact c2
   ·match i,hi with
    | 0,_=>exact e _ _ a1 a3
    | 1,_=>exact e _ _ b1 b3
    | 2,_=>exact e _ _ c1 c3
   ·have x01:apartS b.w a.w:=e _ _ b2 fun j hj q=>(b4 j hj q).1
    have x02:apartS c.w a.w:=e _ _ c2 fun j hj q=>(c4 j hj q).1.1.1
    have x12:apartS c.w b.w:=e _ _ c2 fun j hj q=>(c4 j hj q).1.2
    match i,hi,k,hk with
    | 0,_,0,_=>exact absurd rfl hne
    | 0,_,1,_=>exact sy _ _ x01
    | 0,_,2,_=>exact sy _ _ x02
    | 1,_,0,_=>exact x01
    | 1,_,1,_=>exact absurd rfl hne
    | 1,_,2,_=>exact sy _ _ x12
    | 2,_,0,_=>exact x02
    | 2,_,1,_=>exact x12
    | 2,_,2,_=>exact absurd rfl hne
   ·have y10:apartS b.w a.r:=e _ _ b2 fun j hj q=>(b4 j hj q).2
    have y20:apartS c.w a.r:=e _ _ c2 fun j hj q=>(c4 j hj q).1.1.2
    have y21:apartS c.w b.r:=e _ _ c2 fun j hj q=>(c4 j hj q).2
    have y01:apartS a.w b.r:=sy _ _ (e _ _ b1 fun j hj q=>(b5 j hj q))
    have y02:apartS a.w c.r:=sy _ _ (e _ _ c1 fun j hj q=>(c5 j hj q).1)
    have y12:apartS b.w c.r:=sy _ _ (e _ _ c1 fun j hj q=>(c5 j hj q).2)
    match i,hi,k,hk with
    | 0,_,0,_=>exact absurd rfl hne
    | 0,_,1,_=>exact y01
    | 0,_,2,_=>exact y02
    | 1,_,0,_=>exact y10
    | 1,_,1,_=>exact absurd rfl hne
    | 1,_,2,_=>exact y12
    | 2,_,0,_=>exact y20
    | 2,_,1,_=>exact y21
    | 2,_,2,_=>exact absurd rfl hne
 ·intro h
  refine ⟨h.len,?_⟩
  match t,h.len with
  | [a,b,c],_ =>
   have r0:=h.r 0 (by omega)
   have r1:=h.r 1 (by omega)
   have r2:=h.r 2 (by omega)
   have w0:=h.w 0 (by omega)
   have w1:=h.w 1 (by omega)
   have w2:=h.w 2 (by omega)
   have f:∀ x y:List Sp,apartS x y→∀ j,j<48→inF x j=true→inF y j=false:=fun x y hh j _ q=>by
    rw [← Bool.not_eq_true];exact fun q2=>hh j ⟨q,q2⟩
   have sy:∀ x y:List Sp,apartS x y→apartS y x:=fun x y hh j q=>hh j ⟨q.2,q.1⟩
   simp only [lockI,Bool.and_eq_true,noneP_iff,orP_eq,Bool.or_eq_false_iff,Bool.and_eq_false_imp,Bool.or_false,Bool.false_or,Bool.or_eq_false_iff]
   refine ⟨⟨⟨r0,w0⟩,⟨f _ _ (h.rw 0 (by omega)),fun _ _ _=>trivial⟩,fun _ _ _=>trivial⟩,⟨⟨r1,w1⟩,⟨f _ _ (h.rw 1 (by omega)),fun j hj q=>⟨f _ _ (h.ww 1 0 (by omega) (by omega) (by omega)) j hj q,f _ _ (h.wr 1 0 (by omega) (by omega) (by omega)) j hj q⟩⟩,fun j hj q=>f _ _ (sy _ _ (h.wr 0 1 (by omega) (by omega) (by omega))) j hj q⟩,
    ⟨⟨r2,w2⟩,⟨f _ _ (h.rw 2 (by omega)),fun j hj q=>⟨⟨⟨f _ _ (h.ww 2 0 (by omega) (by omega) (by omega)) j hj q,f _ _ (h.wr 2 0 (by omega) (by omega) (by omega)) j hj q⟩,f _ _ (h.ww 2 1 (by omega) (by omega) (by omega)) j hj q⟩,f _ _ (h.wr 2 1 (by omega) (by omega) (by omega)) j hj q⟩⟩,fun j hj q=>⟨f _ _ (sy _ _ (h.wr 0 2 (by omega) (by omega) (by omega))) j hj q,f _ _ (sy _ _ (h.wr 1 2 (by omega) (by omega) (by omega))) j hj q⟩⟩,trivial⟩
end Go.Ev


namespace Go.Ev
def layOk (size many:Int):Bool:=!ltI size 1&&!ltI 8 size&&!ltI many 1&&!ltI 3 many
theorem layOk_iff {size many:Int}:layOk size many=true↔1≤size∧size≤8∧1≤many∧many≤3:=by
 simp only [layOk,Bool.and_eq_true,Bool.not_eq_true',ltI_not]
 omega
theorem twS_of {s:Bs} {k:Int} {x:Bs} (h1:txtOk s=true) (h2:wrOk k x=true):twS s k x=(wrS s k.toNat x,true):=by
 simp only [twS,h1,h2,if_true]
end Go.Ev


namespace Go.Ev
abbrev reqL (q:ReqT):List L:=[.int .i64 q.who,.int .i64 q.epoch,.int .i64 q.num,.int .i64 q.obj,.int .i64 q.pos,.str q.data]
abbrev strsL (xs:List Bs):List (List L):=xs.map fun s=>[.str s]
abbrev intsL (xs:List Int):List (List L):=xs.map fun n=>[.int .i64 n]
abbrev storeL (s:StoreT):List L:=[.sl (strsL s.now),.sl (strsL s.sure),.sl (intsL s.last),.sl (intsL s.slast),.sl (intsL s.floors)]
abbrev holdL (h:HoldT):List L:=[.sl (h.r.map spL),.sl (h.w.map spL)]
abbrev ownL (o:OwnT):List L:=owL o.t o.h o.d
abbrev boolsL (xs:List Bool):List (List L):=xs.map fun b=>[.bool b]
abbrev worldL (w:WorldT):List L:=[.int .i64 w.size,.int .i64 w.many,.sl (strsL w.st.now),.sl (strsL w.st.sure),.sl (intsL w.st.last),.sl (intsL w.st.slast),.sl (intsL w.st.floors),.sl (w.locks.map holdL),.sl (w.owns.map ownL),.sl (intsL w.epochs),.sl (boolsL w.alive),.sl (w.kept.map reqL),.sl (w.late.map reqL)]
end Go.Ev


set_option maxRecDepth 100000
set_option maxHeartbeats 4000000
namespace Go.Ev
open Go.Proofs
theorem set_next {α:Type} (xs:List α) (f:α→List L) (z:List L) {i:Nat} (n:Nat) (h:i<xs.length):((xs.take i).map f++List.replicate (n+1) z).set i (f xs[i])=(xs.take (i+1)).map f++List.replicate n z:=by
 have hl:((xs.take i).map f).length=i:=by rw [List.length_map,List.length_take];omega
 rw [List.set_append_right _ _ (by omega),hl,Nat.sub_self,List.replicate_succ,List.set_cons_zero,List.take_succ_eq_append_getElem h,List.map_append,List.append_assoc]
 rfl
theorem get_next {α:Type} (xs:List α) (f:α→List L) (z:List L) {i:Nat} (n:Nat) (h:i<xs.length) (h':i<((xs.take i).map f++List.replicate (n+1) z).length):((xs.take i).map f++List.replicate (n+1) z)[i]=z:=by
 have hl:((xs.take i).map f).length=i:=by rw [List.length_map,List.length_take];omega
 rw [List.getElem_append_right (by omega)]
 simp
theorem lp_laws_toIntS (m:M) (xs:List (Int)) (hb:xs.length≤4000000) (a:Code) (ha:a=lp Tryz.f110 0):∀ (n i:Nat),i+n=xs.length →
  loopC E (ev E) 110 a { V:=[(0,.v m false [.sl (xs.map (fun n:Int=>[L.int .i64 n]))]),(3,at1 3),(4,vi i)],H:=[ow (.c 3) [.sl ((xs.take i).map (fun n:Int=>[L.int .i64 n])++List.replicate n [L.int .i64 0])]],ps:=[] } =
   some (.exit 0,{ V:=[(0,.v m false [.sl (xs.map (fun n:Int=>[L.int .i64 n]))]),(3,at1 3),(4,vi xs.length),(11,vb false)],H:=[ow (.c 3) [.sl (xs.map (fun n:Int=>[L.int .i64 n]))]],ps:=[] })
 | 0,i,h0=>by
  rw [loopC_of _ _ _ _ ha]
  obtain rfl:i=xs.length:=by omega
  simp [lp,loopsOf,Tryz.f110]
 | n+1,i,h0=>by
  have hlt:i<xs.length:=by omega
  have hw:=wrapN i (by omega)
  have hs:=set_next xs (fun n:Int=>[L.int .i64 n]) [L.int .i64 0] n hlt
  have hl:((xs.take i).map (fun n:Int=>[L.int .i64 n])++List.replicate (n+1) [L.int .i64 0]).length=xs.length:=by simp;omega
  have hy:=get_next xs (fun n:Int=>[L.int .i64 n]) [L.int .i64 0] n hlt
  have ih:=lp_laws_toIntS m xs hb a ha n (i+1) (by omega)
  push_cast at ih
  rw [loopC_of _ _ _ _ ha]
  clear ha
  generalize (xs.take i).map (fun n:Int=>[L.int .i64 n])++List.replicate (n+1) [L.int .i64 0]=ys at *
  have hl2:i<ys.length:=by omega
  simp [lp,loopsOf,Tryz.f110,hlt,hw,hl2,hs,hy]
  simpa using ih
theorem ev_laws_toIntS (m:M) (xs:List (Int)) (hb:xs.length≤4000000):ev E 110 [.v m false [.sl (xs.map (fun n:Int=>[L.int .i64 n]))]]=some { rs:=[.v .own false [.sl (xs.map (fun n:Int=>[L.int .i64 n]))]],outs:=[] }:=by
 have hl:=lp_laws_toIntS m xs hb _ rfl xs.length 0 (by omega)
 have q1:(xs.length:Int)≤17592186044416:=by omega
 have q2:(xs.length:Int)*8≤17592186044416:=by omega
 have q3:(xs.length:Int)*16≤17592186044416:=by omega
 push_cast at hl
 rw [ev_fn Tryz.f110 rfl Tryz.func110 rfl rfl rfl (Nat.le_of_ble_eq_true rfl)]
 simp [q1,q2,q3]
 rw [loopC_at ?_ (by simpa using hl)]
 ·simp
 ·rfl
theorem lp_laws_toBoolS (m:M) (xs:List (Bool)) (hb:xs.length≤4000000) (a:Code) (ha:a=lp Tryz.f111 0):∀ (n i:Nat),i+n=xs.length →
  loopC E (ev E) 111 a { V:=[(0,.v m false [.sl (xs.map (fun b:Bool=>[L.bool b]))]),(3,at1 3),(4,vi i)],H:=[ow (.c 3) [.sl ((xs.take i).map (fun b:Bool=>[L.bool b])++List.replicate n [L.bool false])]],ps:=[] } =
   some (.exit 0,{ V:=[(0,.v m false [.sl (xs.map (fun b:Bool=>[L.bool b]))]),(3,at1 3),(4,vi xs.length),(11,vb false)],H:=[ow (.c 3) [.sl (xs.map (fun b:Bool=>[L.bool b]))]],ps:=[] })
 | 0,i,h0=>by
  rw [loopC_of _ _ _ _ ha]
  obtain rfl:i=xs.length:=by omega
  simp [lp,loopsOf,Tryz.f111]
 | n+1,i,h0=>by
  have hlt:i<xs.length:=by omega
  have hw:=wrapN i (by omega)
  have hs:=set_next xs (fun b:Bool=>[L.bool b]) [L.bool false] n hlt
  have hl:((xs.take i).map (fun b:Bool=>[L.bool b])++List.replicate (n+1) [L.bool false]).length=xs.length:=by simp;omega
  have hy:=get_next xs (fun b:Bool=>[L.bool b]) [L.bool false] n hlt
  have ih:=lp_laws_toBoolS m xs hb a ha n (i+1) (by omega)
  push_cast at ih
  rw [loopC_of _ _ _ _ ha]
  clear ha
  generalize (xs.take i).map (fun b:Bool=>[L.bool b])++List.replicate (n+1) [L.bool false]=ys at *
  have hl2:i<ys.length:=by omega
  simp [lp,loopsOf,Tryz.f111,hlt,hw,hl2,hs,hy]
  simpa using ih
theorem ev_laws_toBoolS (m:M) (xs:List (Bool)) (hb:xs.length≤4000000):ev E 111 [.v m false [.sl (xs.map (fun b:Bool=>[L.bool b]))]]=some { rs:=[.v .own false [.sl (xs.map (fun b:Bool=>[L.bool b]))]],outs:=[] }:=by
 have hl:=lp_laws_toBoolS m xs hb _ rfl xs.length 0 (by omega)
 have q1:(xs.length:Int)≤17592186044416:=by omega
 have q2:(xs.length:Int)*8≤17592186044416:=by omega
 have q3:(xs.length:Int)*16≤17592186044416:=by omega
 push_cast at hl
 rw [ev_fn Tryz.f111 rfl Tryz.func111 rfl rfl rfl (Nat.le_of_ble_eq_true rfl)]
 simp [q1,q2,q3]
 rw [loopC_at ?_ (by simpa using hl)]
 ·simp
 ·rfl
theorem lp_laws_toStringS (m:M) (xs:List (List UInt8)) (hb:xs.length≤4000000) (a:Code) (ha:a=lp Tryz.f180 0):∀ (n i:Nat),i+n=xs.length →
  loopC E (ev E) 180 a { V:=[(0,.v m false [.sl (xs.map (fun s:List UInt8=>[L.str s]))]),(3,at1 3),(4,vi i)],H:=[ow (.c 3) [.sl ((xs.take i).map (fun s:List UInt8=>[L.str s])++List.replicate n [L.str []])]],ps:=[] } =
   some (.exit 0,{ V:=[(0,.v m false [.sl (xs.map (fun s:List UInt8=>[L.str s]))]),(3,at1 3),(4,vi xs.length),(11,vb false)],H:=[ow (.c 3) [.sl (xs.map (fun s:List UInt8=>[L.str s]))]],ps:=[] })
 | 0,i,h0=>by
  rw [loopC_of _ _ _ _ ha]
  obtain rfl:i=xs.length:=by omega
  simp [lp,loopsOf,Tryz.f180]
 | n+1,i,h0=>by
  have hlt:i<xs.length:=by omega
  have hw:=wrapN i (by omega)
  have hs:=set_next xs (fun s:List UInt8=>[L.str s]) [L.str []] n hlt
  have hl:((xs.take i).map (fun s:List UInt8=>[L.str s])++List.replicate (n+1) [L.str []]).length=xs.length:=by simp;omega
  have hy:=get_next xs (fun s:List UInt8=>[L.str s]) [L.str []] n hlt
  have ih:=lp_laws_toStringS m xs hb a ha n (i+1) (by omega)
  push_cast at ih
  rw [loopC_of _ _ _ _ ha]
  clear ha
  generalize (xs.take i).map (fun s:List UInt8=>[L.str s])++List.replicate (n+1) [L.str []]=ys at *
  have hl2:i<ys.length:=by omega
  simp [lp,loopsOf,Tryz.f180,hlt,hw,hl2,hs,hy]
  simpa using ih
theorem ev_laws_toStringS (m:M) (xs:List (List UInt8)) (hb:xs.length≤4000000):ev E 180 [.v m false [.sl (xs.map (fun s:List UInt8=>[L.str s]))]]=some { rs:=[.v .own false [.sl (xs.map (fun s:List UInt8=>[L.str s]))]],outs:=[] }:=by
 have hl:=lp_laws_toStringS m xs hb _ rfl xs.length 0 (by omega)
 have q1:(xs.length:Int)≤17592186044416:=by omega
 have q2:(xs.length:Int)*8≤17592186044416:=by omega
 have q3:(xs.length:Int)*16≤17592186044416:=by omega
 push_cast at hl
 rw [ev_fn Tryz.f180 rfl Tryz.func180 rfl rfl rfl (Nat.le_of_ble_eq_true rfl)]
 simp [q1,q2,q3]
 rw [loopC_at ?_ (by simpa using hl)]
 ·simp
 ·rfl
end Go.Ev

