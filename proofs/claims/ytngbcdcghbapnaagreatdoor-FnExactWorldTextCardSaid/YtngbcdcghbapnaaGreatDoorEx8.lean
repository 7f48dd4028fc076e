/- My texts joined: EvT5, EvT6, EvT7, EvT9, EvT10, EvT11. No condition. -/
import Derived.Test.YtngbcdcghbapnaaGreatDoorEx1
import Derived.Test.YtngbcdcghbapnaaGreatDoorEx2
import Derived.Test.YtngbcdcghbapnaaGreatDoorEx5
import Derived.Test.YtngbcdcghbapnaaGreatDoorEx6
import Derived.Test.YtngbcdcghbapnaaGreatDoorEx7
set_option linter.unusedVariables false
set_option linter.unusedSimpArgs false

set_option maxRecDepth 100000
set_option maxHeartbeats 2000000
namespace Go.Ev
open Go.Proofs
abbrev adc (t:Nat):AV:=.ad (.c t) 0 0 0 []
theorem lp_put (m'':M) (g z:Nat→Bool) (b:Bool) (a:Code) (ha:a=lp Tryz.f65 0):∀ (n i:Nat) (f:Nat→Bool),i+n=48 →
  ∃ f',loopC E (ev E) 65 a { V:=[(2,.v m'' false [.bool b]),(3,adc 3),(6,adc 6),(9,.v .ro true (pl g)),(10,vi i)],H:=[bx (.c 3) (pl f),bx (.c 6) (pl z)],ps:=[] } =
   some (.exit 0,{ V:=[(2,.v m'' false [.bool b]),(3,adc 3),(6,adc 6),(9,.v .ro true (pl g)),(10,vi 48),(11,vb false)],H:=[bx (.c 3) (pl f'),bx (.c 6) (pl z)],ps:=[] }) ∧
   ∀ j,j<48→f' j=if i≤j∧g j=true then b else f j
 | 0,i,f,h=>by
  refine ⟨f,?_,fun j hj=>by rw [if_neg (by omega)]⟩
  rw [loopC_of _ _ _ _ ha]
  obtain rfl:i=48:=by omega
  simp [lp,loopsOf,Tryz.f65]
 | n+1,i,f,h=>by
  have hlt:i<48:=by omega
  have hI:(i:Int)<48:=by omega
  have h1:1≤48 - i:=by omega
  have hw:=wrapN i (by omega)
  have hs:=pl_set f i b hlt
  have hg:=pl_get g hlt
  cases hgi:g i with
  | true =>
   obtain ⟨f',ih,hf⟩:=lp_put m'' g z b a ha n (i+1) (updB f i b) (by omega)
   refine ⟨f',?_,fun j hj=>?_⟩
   ·push_cast at ih
    rw [loopC_of _ _ _ _ ha]
    clear ha
    rw [hgi] at hg
    simp [lp,loopsOf,Tryz.f65,hI,hw,hs,hg,h1,show i≤48 by omega]
    simpa using ih
   ·rw [hf j hj]
    by_cases e:j=i
    ·subst e;simp [hgi,updB]
    ·by_cases e2:i≤j
     ·simp [show i+1≤j by omega,e2,updB,e]
     ·simp [show ¬ i+1≤j by omega,e2,updB,e]
  | false =>
   obtain ⟨f',ih,hf⟩:=lp_put m'' g z b a ha n (i+1) f (by omega)
   refine ⟨f',?_,fun j hj=>?_⟩
   ·push_cast at ih
    rw [loopC_of _ _ _ _ ha]
    clear ha
    rw [hgi] at hg
    simp [lp,loopsOf,Tryz.f65,hI,hw,hs,hg,h1,show i≤48 by omega]
    simpa using ih
   ·rw [hf j hj]
    by_cases e:j=i
    ·subst e;simp [hgi]
    ·by_cases e2:i≤j
     ·simp [show i+1≤j by omega,e2]
     ·simp [show ¬ i+1≤j by omega,e2]
theorem ev_put (m m' m'':M) (f g:Nat→Bool) (b:Bool):ev E 65 [.v m true (pl f),.v m' true (pl g),.v m'' false [.bool b]]=some { rs:=[.v .own true (pl fun j=>if g j=true then b else f j)],outs:=[] }:=by
 obtain ⟨f',hl,hf⟩:=lp_put m'' g (fun _=>false) b _ rfl 48 0 f (by omega)
 have:pl (fun j=>if g j=true then b else f j)=pl f':=pl_congr fun j hj=>by rw [hf j hj];simp
 rw [this]
 rw [ev_fn Tryz.f65 rfl Tryz.func65 rfl rfl rfl (Nat.le_of_ble_eq_true rfl)]
 push_cast at hl
 simp [pl_ff]
 rw [loopC_at ?_ hl]
 ·simp
 ·rfl
theorem lp_meet (g z:Nat→Bool) (a:Code) (ha:a=lp Tryz.f66 0):∀ (n i:Nat) (f:Nat→Bool),i+n=48 →
  ∃ f',loopC E (ev E) 66 a { V:=[(2,adc 2),(4,adc 4),(7,.v .ro true (pl g)),(8,vi i)],H:=[bx (.c 2) (pl f),bx (.c 4) (pl z)],ps:=[] } =
   some (.exit 0,{ V:=[(2,adc 2),(4,adc 4),(7,.v .ro true (pl g)),(8,vi 48),(9,vb false)],H:=[bx (.c 2) (pl f'),bx (.c 4) (pl z)],ps:=[] }) ∧
   ∀ j,j<48→f' j=if i≤j then (f j&&g j) else f j
 | 0,i,f,h=>by
  refine ⟨f,?_,fun j hj=>by rw [if_neg (by omega)]⟩
  rw [loopC_of _ _ _ _ ha]
  obtain rfl:i=48:=by omega
  simp [lp,loopsOf,Tryz.f66]
 | n+1,i,f,h=>by
  have hlt:i<48:=by omega
  have hI:(i:Int)<48:=by omega
  have h1:1≤48 - i:=by omega
  have hw:=wrapN i (by omega)
  have hs:=pl_set f i (f i&&g i) hlt
  have hg:=pl_get g hlt
  have ht:=pl_take f hlt
  obtain ⟨f',ih,hf⟩:=lp_meet g z a ha n (i+1) (updB f i (f i&&g i)) (by omega)
  refine ⟨f',?_,fun j hj=>?_⟩
  ·push_cast at ih
   rw [loopC_of _ _ _ _ ha]
   clear ha
   cases hfi:f i<;>rw [hfi] at hs ht ih<;>simp at hs ih
   ·simp [lp,loopsOf,Tryz.f66,hI,hw,hs,hg,h1,show i≤48 by omega,ht]
    simpa using ih
   ·simp [lp,loopsOf,Tryz.f66,hI,hw,hs,hg,h1,show i≤48 by omega,ht]
    simpa using ih
  ·rw [hf j hj]
   by_cases e:j=i
   ·subst e;simp [updB]
   ·by_cases e2:i≤j
    ·simp [show i+1≤j by omega,e2,updB,e]
    ·simp [show ¬ i+1≤j by omega,e2,updB,e]
theorem ev_meet (m m':M) (f g:Nat→Bool):ev E 66 [.v m true (pl f),.v m' true (pl g)]=some { rs:=[.v .own true (pl fun j=>f j&&g j)],outs:=[] }:=by
 obtain ⟨f',hl,hf⟩:=lp_meet g (fun _=>false) _ rfl 48 0 f (by omega)
 have:pl (fun j=>f j&&g j)=pl f':=pl_congr fun j hj=>by rw [hf j hj];simp
 rw [this]
 rw [ev_fn Tryz.f66 rfl Tryz.func66 rfl rfl rfl (Nat.le_of_ble_eq_true rfl)]
 push_cast at hl
 simp [pl_ff]
 rw [loopC_at ?_ hl]
 ·simp
 ·rfl
def eqSp (s t:Sp):Bool:=eqI s.1 t.1&&eqI s.2 t.2
theorem eqSp_iff {s t:Sp}:eqSp s t=true↔s=t:=by
 obtain ⟨a,b⟩:=s
 obtain ⟨c,d⟩:=t
 simp [eqSp,eqI]
def eqFrom (xs ys:List Sp):Nat→Nat→Bool
 | 0,_=>true
 | n+1,i=>eqSp (xs.getD i (0,0)) (ys.getD i (0,0))&&eqFrom xs ys n (i+1)
theorem eqFrom_iff (xs ys:List Sp):∀ (n i:Nat),eqFrom xs ys n i=true↔∀ j,i≤j→j<i+n→xs.getD j (0,0)=ys.getD j (0,0)
 | 0,i=>by simp [eqFrom];omega
 | n+1,i=>by
  simp only [eqFrom,Bool.and_eq_true,eqSp_iff,eqFrom_iff xs ys n (i+1)]
  constructor
  ·intro ⟨h1,h2⟩ j hj hk
   by_cases e:j=i
   ·subst e;exact h1
   ·exact h2 j (by omega) (by omega)
  ·intro h
   exact ⟨h i (by omega) (by omega),fun j hj hk=>h j (by omega) (by omega)⟩
theorem eqFrom_all {xs ys:List Sp} (h:xs.length=ys.length):eqFrom xs ys xs.length 0=decide (xs=ys):=by
 rw [Bool.eq_iff_iff,eqFrom_iff]
 simp only [decide_eq_true_eq]
 constructor
 ·intro hj
  refine List.ext_getElem h fun i h1 h2=>?_
  have:=hj i (by omega) (by omega)
  simpa [h1,h2] using this
 ·rintro rfl
  intros;rfl
@[simp] theorem eqAgg_Span:eqAgg Tryz.prog 36=true:=by kernel_rfl
@[simp] theorem shape_Span (a b:Int):shapeT Tryz.prog 8 36 [.int .i64 a,.int .i64 b]=true:=by simp [shapeT,shapeFs]
theorem lp_Equal (m m':M) (xs ys:List Sp) (hl:xs.length=ys.length) (hb:ys.length≤1099511627776) (a:Code) (ha:a=lp Tryz.f81 0):∀ (n i:Nat),i+n=ys.length →
  loopC E (ev E) 81 a { V:=[(0,.v m false [.sl (xs.map spL)]),(1,.v m' false [.sl (ys.map spL)]),(12,vi ys.length),(13,vi i)],H:=[],ps:=[] } =
   if eqFrom xs ys n i then some (.exit 0,{ V:=[(0,.v m false [.sl (xs.map spL)]),(1,.v m' false [.sl (ys.map spL)]),(12,vi ys.length),(13,vi ys.length),(14,vb false)],H:=[],ps:=[] })
   else some (.ret,{ V:=[(4,vb false)],H:=[],ps:=[] })
 | 0,i,h=>by
  rw [loopC_of _ _ _ _ ha]
  obtain rfl:i=ys.length:=by omega
  simp [lp,loopsOf,Tryz.f81,eqFrom]
 | n+1,i,h=>by
  have hlt:i<ys.length:=by omega
  have hlx:i<xs.length:=by omega
  have ih:=lp_Equal m m' xs ys hl hb a ha n (i+1) (by omega)
  push_cast at ih
  have hw:=wrapN i (by omega)
  rw [loopC_of _ _ _ _ ha,eqFrom]
  have h1:xs.getD i (0,0)=xs[i]:=by simp [hlx]
  have h2:ys.getD i (0,0)=ys[i]:=by simp [hlt]
  rw [h1,h2]
  clear ha h1 h2
  generalize eqFrom xs ys n (i+1)=r at ih ⊢
  cases e1:eqI xs[i].1 ys[i].1<;>cases e2:eqI xs[i].2 ys[i].2 <;>
   simp [lp,loopsOf,Tryz.f81,hlt,hlx,hw,eqSp,e1,e2,ih]
theorem ev_Equal (m m':M) (xs ys:List Sp) (hb:ys.length≤1099511627776):ev E 81 [.v m false [.sl (xs.map spL)],.v m' false [.sl (ys.map spL)]]=some (rB (decide (xs=ys))):=by
 rw [ev_fn Tryz.f81 rfl Tryz.func81 rfl rfl rfl (Nat.le_of_ble_eq_true rfl)]
 by_cases h:xs.length=ys.length
 ·have hl:=fun a ha=>lp_Equal m m' xs ys h hb a ha ys.length 0 (by omega)
  rw [← h,eqFrom_all h,h] at hl
  push_cast at hl
  simp [h]
  rw [hl _ ?_]
  ·by_cases e:xs=ys<;>simp [e]
  ·rfl
 ·have e:¬ xs=ys:=fun e=>h (by rw [e])
  have e2:eqI xs.length ys.length=false:=by simp [eqI];omega
  simp [e2,e]
set_option maxRecDepth 100000
set_option maxHeartbeats 2000000
abbrev at1 (t:Nat):AV:=.at (.c t) 0 0 0 [] 1 false
abbrev ow (r:Root) (ls:List L):Root × HC:=(r,{ box:=false,wr:=true,m:=.own,ls,e0:=0,e1:=0 })
set_option maxRecDepth 100000
set_option maxHeartbeats 2000000
def plR (f:Nat→Bool) (n:Nat):List (List L):=(List.range n).map fun i=>[L.bool (f i)]
@[simp] theorem plR_length (f:Nat→Bool) (n:Nat):(plR f n).length=n:=by simp [plR]
@[simp] theorem plR_getE (f:Nat→Bool) {n i:Nat} (h:i<(plR f n).length):(plR f n)[i]=[.bool (f i)]:=by simp [plR]
@[simp] theorem plR_rows (f:Nat→Bool) (n:Nat):((plR f n).all fun r=>decide (r.length=1))=true:=by simp [plR]
@[simp] theorem plR_zero (f:Nat→Bool):plR f 0=[]:=rfl
def ofStep (out:List Sp) (i:Nat) (b:Bool):List Sp :=
 if b=true then
  match out.getLast? with
  | some (lo,hi)=>if eqI hi i=true then out.dropLast++[(lo,(i:Int)+1)] else out++[((i:Int),(i:Int)+1)]
  | none=>[((i:Int),(i:Int)+1)]
 else out
def ofL (f:Nat→Bool):Nat→Nat→List Sp→List Sp
 | 0,_,out=>out
 | n+1,i,out=>ofL f n (i+1) (ofStep out i (f i))
set_option maxRecDepth 100000
set_option maxHeartbeats 4000000
def meetS (a b:Sp):Sp:=(maxI a.1 b.1,minI a.2 b.2)
abbrev rSB (s:Sp) (b:Bool):Out:={ rs:=[.v .own true (spL s),.v .own false [.bool b]],outs:=[] }
theorem ev_l1Meet (m m':M) (a b:Sp):ev E 253 [.v m true (spL a),.v m' true (spL b)] =
  some (if ltI (meetS a b).1 (meetS a b).2=true then rSB (meetS a b) true else rSB (0,0) false):=by
 have h1:=fun m m'=>ev_spec_l1Max m m' a.1 b.1
 have h2:=fun m m'=>ev_spec_l1Min m m' a.2 b.2
 rw [ev_fn Tryz.f253 rfl Tryz.func253 rfl rfl rfl (Nat.le_of_ble_eq_true rfl)]
 cases h:ltI (meetS a b).1 (meetS a b).2<;>simp only [meetS] at h<;>simp [h1,h2,meetS,h]
theorem maxJ (a b:Int):(if a<b then b else a)=maxI a b:=by
 simp only [maxI,ltI,decide_eq_true_eq]
 split<;>split<;>omega
theorem minJ (a b:Int):(if b<a then b else a)=minI a b:=by
 simp only [minI,ltI,decide_eq_true_eq]
 split<;>split<;>omega
def meetO (a b:Sp):Bool:=spOk a&&spOk b&&spOk (meetS a b)
theorem ev_SpanMeet (m m':M) (a b:Sp):ev E 170 [.v m true (spL a),.v m' true (spL b)] =
  some (if meetO a b=true then rSB (meetS a b) true else rSB (0,0) false):=by
 have h1:=fun m=>ev_impl_SpanOk m a
 have h2:=fun m=>ev_impl_SpanOk m b
 have h3:=fun m=>ev_impl_SpanOk m (meetS a b)
 simp only [meetS] at h3
 rw [ev_fn Tryz.f170 rfl Tryz.func170 rfl rfl rfl (Nat.le_of_ble_eq_true rfl)]
 cases e1:spOk a<;>cases e2:spOk b<;>cases e3:spOk (meetS a b)<;>simp only [meetS] at e3<;>simp [h1,h2,h3,e1,e2,e3,meetS,meetO,maxJ,minJ]
abbrev owL (t:List UInt8) (h d:List Sp):List L:=[.str t,.sl (h.map spL),.sl (d.map spL)]
theorem ev_OwnSame (m m':M) (hm:m.isOwn=false) (hm':m'.isOwn=false) (t t':List UInt8) (h d h' d':List Sp) (hb:h'.length≤1099511627776) (db:d'.length≤1099511627776) :
  ev E 57 [.v m true (owL t h d),.v m' true (owL t' h' d')]=some (rB (eqS t t'&&decide (h=h')&&decide (d=d'))):=by
 have h1:=fun m m'=>ev_Equal m m' h h' hb
 have h2:=fun m m'=>ev_Equal m m' d d' db
 rw [ev_fn Tryz.f57 rfl Tryz.func57 rfl rfl rfl (Nat.le_of_ble_eq_true rfl)]
 cases e1:eqS t t'
 ·simp [e1,hm,hm']
 ·by_cases e2:h=h'
  ·subst e2
   simp [e1,hm,hm',h1,h2]
  ·simp [e1,hm,hm',h1,h2,e2]
abbrev rOw (t:List UInt8) (h d:List Sp):RV:=.v .own true (owL t h d)
set_option maxRecDepth 100000
set_option maxHeartbeats 4000000
abbrev bxm (r:Root) (m:M) (ls:List L):Root × HC:=(r,{ box:=true,wr:=true,m,ls,e0:=0,e1:=0 })
def allTo (p:Nat→Bool):Nat→Nat→Bool
 | 0,_=>true
 | n+1,i=>p i&&allTo p n (i+1)
theorem allTo_iff (p:Nat→Bool):∀ (n i:Nat),allTo p n i=true↔∀ j,i≤j→j<i+n→p j=true
 | 0,i=>by simp [allTo];omega
 | n+1,i=>by
  simp only [allTo,Bool.and_eq_true,allTo_iff p n (i+1)]
  constructor
  ·intro ⟨h1,h2⟩ j hj hk
   by_cases e:j=i
   ·subst e;exact h1
   ·exact h2 j (by omega) (by omega)
  ·intro h
   exact ⟨h i (by omega) (by omega),fun j hj hk=>h j (by omega) (by omega)⟩
def okAt (t:List UInt8) (hf df:Nat→Bool) (i:Nat):Bool:=hf i || (eqI (t.getD i 0).toNat 46&&!df i)
theorem lp_iOwnOk (m:M) (hm:m.isOwn=false) (t:List UInt8) (h d:List Sp) (ht:t.length=48) (hf df:Nat→Bool) (a:Code) (ha:a=lp Tryz.f83 0):∀ (n i:Nat),i+n=48 →
  loopC E (ev E) 83 a { V:=[(1,adc 1),(3,adc 3),(4,adc 4),(34,vi i)],H:=[bxm (.c 1) m (owL t h d),bx (.c 3) (pl hf),bx (.c 4) (pl df)],ps:=[] } =
   if allTo (okAt t hf df) n i then some (.exit 0,{ V:=[(1,adc 1),(3,adc 3),(4,adc 4),(34,vi 48),(35,vb false)],H:=[bxm (.c 1) m (owL t h d),bx (.c 3) (pl hf),bx (.c 4) (pl df)],ps:=[] })
   else some (.ret,{ V:=[(2,vb false)],H:=[],ps:=[] })
 | 0,i,h0=>by
  rw [loopC_of _ _ _ _ ha]
  obtain rfl:i=48:=by omega
  simp [lp,loopsOf,Tryz.f83,allTo,hm]
 | n+1,i,h0=>by
  have hlt:i<48:=by omega
  have hI:(i:Int)<48:=by omega
  have h1:1≤48 - i:=by omega
  have hw:=wrapN i (by omega)
  have hlt2:i<t.length:=by omega
  have hp:=pl_take hf hlt
  have hq:=pl_take df hlt
  have ih:=lp_iOwnOk m hm t h d ht hf df a ha n (i+1) (by omega)
  push_cast at ih
  rw [loopC_of _ _ _ _ ha,allTo]
  have hg:t.getD i 0=t[i]:=by simp [hlt2]
  simp only [okAt,hg]
  clear ha hg
  generalize allTo (okAt t hf df) n (i+1)=r at ih ⊢
  cases e1:hf i<;>rw [e1] at hp
  ·cases e2:eqI t[i].toNat 46
   ·simp [lp,loopsOf,Tryz.f83,hI,hlt2,hw,hp,h1,show i≤48 by omega,hm,e2]
   ·cases e3:df i<;>rw [e3] at hq<;>simp [lp,loopsOf,Tryz.f83,hI,hlt2,hw,hp,hq,h1,show i≤48 by omega,hm,e2,ih]
  ·simp [lp,loopsOf,Tryz.f83,hI,hlt2,hw,hp,h1,show i≤48 by omega,hm,ih]
def inF (xs:List Sp):Nat→Bool:=fun j=>xs.any (inSp j)
def ownOk (t:List UInt8) (h d:List Sp):Bool:=t.all okB&&eqI t.length 48&&spsOk h&&spsOk d&&allTo (okAt t (inF h) (inF d)) 48 0
theorem spOk_iff {s:Sp}:spOk s=true↔0≤s.1∧s.1<s.2∧s.2≤48:=by
 simp [spOk,ltI,and_assoc]
theorem stepsOk_sp {xs:List Sp}:∀ (n i:Nat),stepsOk xs n i=true→∀ j,i≤j→j<i+n→j<xs.length→spOk (xs.getD j (0,0))=true
 | 0,i,_,j,h1,h2,_=>by omega
 | n+1,i,h,j,h1,h2,h3=>by
  simp only [stepsOk,Bool.and_eq_true] at h
  by_cases e:j=i
  ·subst e
   simp only [stepOk,Bool.and_eq_true] at h
   exact h.1.1
  ·exact stepsOk_sp n (i+1) h.2 j (by omega) (by omega) h3
theorem spsOk_sp {xs:List Sp} (h:spsOk xs=true):∀ s∈xs,0≤s.1∧s.1<s.2∧s.2≤48:=by
 intro s hs
 simp only [spsOk,Bool.and_eq_true] at h
 obtain ⟨j,hj,rfl⟩:=List.mem_iff_getElem.1 hs
 have:=stepsOk_sp _ _ h.1 j (by omega) (by omega) hj
 simp only [List.getD_eq_getElem?_getD,List.getElem?_eq_getElem hj,Option.getD_some] at this
 exact spOk_iff.1 this
theorem spsOk_len {xs:List Sp} (h:spsOk xs=true):xs.length≤12:=by
 simp only [spsOk,Bool.and_eq_true,Bool.not_eq_true',ltI_not] at h
 omega
theorem ev_impl_OwnOk (m:M) (hm:m.isOwn=false) (t:List UInt8) (h d:List Sp) (tb:t.length≤1099511627776) (hb:h.length≤1099511627776) (db:d.length≤1099511627776) :
  ev E 83 [.v m true (owL t h d)]=some (rB (ownOk t h d)):=by
 have c1:=fun m=>ev_impl_TextOk m t tb
 have c2:=fun m=>ev_impl_SpansOk m h hb
 have c3:=fun m=>ev_impl_SpansOk m d db
 rw [ev_fn Tryz.f83 rfl Tryz.func83 rfl rfl rfl (Nat.le_of_ble_eq_true rfl)]
 cases e1:t.all okB
 ·simp [c1,e1,hm,ownOk,-List.all_eq_true,-List.all_eq_false]
 ·cases e2:eqI t.length 48
  ·cases e3:ltI 48 t.length<;>simp [c1,e1,e2,e3,hm,ownOk,-List.all_eq_true,-List.all_eq_false]
  ·have hl:t.length=48:=by simp only [eqI_iff] at e2;omega
   have e3:ltI 48 t.length=false:=by simp only [ltI_not];omega
   cases e4:spsOk h
   ·simp [c1,c2,e1,e2,e3,e4,hm,ownOk,-List.all_eq_true,-List.all_eq_false]
   ·cases e5:spsOk d
    ·simp [c1,c2,c3,e1,e2,e3,e4,e5,hm,ownOk,-List.all_eq_true,-List.all_eq_false]
    ·have c4:∀ m,ev E 64 [.v m false [.sl (h.map spL)]]=some { rs:=[.v .own true (pl (inF h))],outs:=[] }:=fun m=>ev_impl_of m h hb fun s hs=>by have:=spsOk_sp e4 s hs;omega
     have c5:∀ m,ev E 64 [.v m false [.sl (d.map spL)]]=some { rs:=[.v .own true (pl (inF d))],outs:=[] }:=fun m=>ev_impl_of m d db fun s hs=>by have:=spsOk_sp e5 s hs;omega
     have hl2:=lp_iOwnOk m hm t h d hl (inF h) (inF d) _ rfl 48 0 (by omega)
     push_cast at hl2
     simp [c1,c2,c3,c4,c5,e1,e2,e3,e4,e5,hm,ownOk,-List.all_eq_true,-List.all_eq_false,pl_ff]
     rw [loopC_at ?_ hl2]
     ·cases e6:allTo (okAt t (inF h) (inF d)) 48 0<;>simp
     ·rfl
theorem lp_sOwnOk (m:M) (hm:m.isOwn=false) (t:List UInt8) (h d:List Sp) (ht:t.length=48) (hb:h.length≤1099511627776) (db:d.length≤1099511627776) (a:Code) (ha:a=lp Tryz.f162 0):∀ (n i:Nat),i+n=48 →
  loopC E (ev E) 162 a { V:=[(1,adc 1),(3,vi i)],H:=[bxm (.c 1) m (owL t h d)],ps:=[] } =
   if allTo (okAt t (inF h) (inF d)) n i then some (.exit 0,{ V:=[(1,adc 1),(3,vi 48),(30,vb false)],H:=[bxm (.c 1) m (owL t h d)],ps:=[] })
   else some (.ret,{ V:=[(2,vb false)],H:=[],ps:=[] })
 | 0,i,h0=>by
  rw [loopC_of _ _ _ _ ha]
  obtain rfl:i=48:=by omega
  simp [lp,loopsOf,Tryz.f162,allTo,hm,ht]
 | n+1,i,h0=>by
  have hI:(i:Int)<48:=by omega
  have hw:=wrapN i (by omega)
  have hlt2:i<t.length:=by omega
  have hltc:i<48:=by omega
  have ih:=lp_sOwnOk m hm t h d ht hb db a ha n (i+1) (by omega)
  push_cast at ih
  rw [loopC_of _ _ _ _ ha,allTo]
  have hg:t.getD i 0=t[i]:=by simp [hlt2]
  simp only [okAt,hg]
  clear ha hg
  have c1:∀ m m',ev E 167 [.v m false [.sl (h.map spL)],.v m' false [.int .i64 i]]=some (rB (inF h i)):=fun m m'=>ev_spec_l1In m m' h i hb
  have c2:∀ m m',ev E 167 [.v m false [.sl (d.map spL)],.v m' false [.int .i64 i]]=some (rB (inF d i)):=fun m m'=>ev_spec_l1In m m' d i db
  generalize allTo (okAt t (inF h) (inF d)) n (i+1)=r at ih ⊢
  cases e1:inF h i
  ·cases e2:eqI t[i].toNat 46
   ·simp [lp,loopsOf,Tryz.f162,hI,hltc,hlt2,ht,hw,hm,e1,e2,c1,c2]
   ·cases e3:inF d i<;>simp [lp,loopsOf,Tryz.f162,hI,hltc,hlt2,ht,hw,hm,e1,e2,e3,c1,c2,ih]
  ·simp [lp,loopsOf,Tryz.f162,hI,hltc,hlt2,ht,hw,hm,ih,e1,c1,c2]
theorem ev_spec_OwnOk (m:M) (hm:m.isOwn=false) (t:List UInt8) (h d:List Sp) (tb:t.length≤1099511627776) (hb:h.length≤1099511627776) (db:d.length≤1099511627776) :
  ev E 162 [.v m true (owL t h d)]=some (rB (ownOk t h d)):=by
 have c1:=fun m=>ev_spec_TextOk m t tb
 have c2:=fun m=>ev_spec_SpansOk m h hb
 have c3:=fun m=>ev_spec_SpansOk m d db
 rw [ev_fn Tryz.f162 rfl Tryz.func162 rfl rfl rfl (Nat.le_of_ble_eq_true rfl)]
 cases e1:t.all okB
 ·simp [c1,e1,hm,ownOk,-List.all_eq_true,-List.all_eq_false]
 ·cases e2:eqI t.length 48
  ·cases e3:ltI 48 t.length<;>simp [c1,e1,e2,e3,hm,ownOk,-List.all_eq_true,-List.all_eq_false]
  ·have hl:t.length=48:=by simp only [eqI_iff] at e2;omega
   have e3:ltI 48 t.length=false:=by simp only [ltI_not];omega
   cases e4:spsOk h
   ·simp [c1,c2,e1,e2,e3,e4,hm,ownOk,-List.all_eq_true,-List.all_eq_false]
   ·cases e5:spsOk d
    ·simp [c1,c2,c3,e1,e2,e3,e4,e5,hm,ownOk,-List.all_eq_true,-List.all_eq_false]
    ·have hl2:=lp_sOwnOk m hm t h d hl hb db _ rfl 48 0 (by omega)
     push_cast at hl2
     simp [c1,c2,c3,e1,e2,e3,e4,e5,hm,ownOk,-List.all_eq_true,-List.all_eq_false]
     rw [loopC_at ?_ hl2]
     ·cases e6:allTo (okAt t (inF h) (inF d)) 48 0<;>simp
     ·rfl
set_option maxRecDepth 100000
set_option maxHeartbeats 4000000
def cutS (xs:List Sp) (s:Sp):List Sp:=ofL (fun j=>if inSp j s=true then false else xs.any (inSp j)) 48 0 []
structure OwB (t:List UInt8) (h d:List Sp):Prop where
 t:t.length≤4000000
 h:h.length≤4000000
 d:d.length≤4000000
theorem lp_l2Long (m:M) (N:Nat) (hN:N≤4000000) (a:Code) (ha:a=lp Tryz.f130 0):∀ (n:Nat) (m0:M) (s:List UInt8),N≤s.length+n→s.length≤4000000 →
  ∃ m',loopC E (ev E) 130 a { V:=[(0,.v m0 false [.str s]),(1,.v m false [.int .i64 N])],H:=[],ps:=[] } =
   some (.exit 0,{ V:=[(0,.v m' false [.str (s++List.replicate (N - s.length) 46)]),(1,.v m false [.int .i64 N]),(8,vb false)],H:=[],ps:=[] })
 | 0,m0,s,h,hs=>by
  refine ⟨m0,?_⟩
  rw [loopC_of _ _ _ _ ha]
  have h1:N≤s.length:=by omega
  have h2:N - s.length=0:=by omega
  simp [lp,loopsOf,Tryz.f130,h1,h2]
 | n+1,m0,s,h,hs=>by
  by_cases hlt:s.length<N
  ·obtain ⟨m',ih⟩:=lp_l2Long m N hN a ha n .ro (s++[46]) (by simp;omega) (by simp;omega)
   refine ⟨m',?_⟩
   rw [loopC_of _ _ _ _ ha]
   clear ha
   have h2:N - s.length=(N - (s.length+1))+1:=by omega
   have h3:s.length+1≤4611686018427387904:=by omega
   rw [h2,List.replicate_succ]
   simp at ih
   simp [lp,loopsOf,Tryz.f130,hlt,h3]
   exact ih
  ·refine ⟨m0,?_⟩
   rw [loopC_of _ _ _ _ ha]
   have h1:N≤s.length:=by omega
   have h2:N - s.length=0:=by omega
   simp [lp,loopsOf,Tryz.f130,h1,h2]
theorem ev_l2Long (m m':M) (s:List UInt8) (N:Nat) (hN:N≤4000000) (hs:s.length≤4000000) :
  ev E 130 [.v m' false [.str s],.v m false [.int .i64 N]]=some { rs:=[.v .own false [.str (s++List.replicate (N - s.length) 46)]],outs:=[] }:=by
 obtain ⟨m0,hl⟩:=lp_l2Long m N hN _ rfl N m' s (by omega) hs
 rw [ev_fn Tryz.f130 rfl Tryz.func130 rfl rfl rfl (Nat.le_of_ble_eq_true rfl)]
 simp
 rw [loopC_at ?_ hl]
 ·simp
 ·rfl
theorem ev_l6Blank (m:M) (N:Nat) (hN:N≤4000000):ev E 175 [.v m false [.int .i64 N]]=some { rs:=[.v .own false [.str (List.replicate N 46)]],outs:=[] }:=by
 have c:=fun m m'=>ev_l2Long m m' [] N hN (by simp)
 rw [ev_fn Tryz.f175 rfl Tryz.func175 rfl rfl rfl (Nat.le_of_ble_eq_true rfl)]
 simp [c]
theorem ev_l6None:ev E 97 []=some { rs:=[rOw (List.replicate 48 46) [] []],outs:=[] }:=by
 have c:=fun m=>ev_l6Blank m 48 (by omega)
 push_cast at c
 rw [ev_fn Tryz.f97 rfl Tryz.func97 rfl rfl rfl (Nat.le_of_ble_eq_true rfl)]
 simp [c,-List.reduceReplicate]
 rfl
def overS (s:List UInt8) (p:Sp) (x:List UInt8):List UInt8:=s.take p.1.toNat++x++s.drop p.2.toNat
theorem ev_l6Over (m m' m'':M) (s x:List UInt8) (p:Sp) (h1:0≤p.1) (h2:p.1≤s.length) (h3:0≤p.2) (h4:p.2≤s.length) (hs:s.length≤4000000) (hx:x.length≤4000000) :
  ev E 171 [.v m false [.str s],.v m' true (spL p),.v m'' false [.str x]]=some { rs:=[.v .own false [.str (overS s p x)]],outs:=[] }:=by
 have a1:min p.1.toNat s.length+x.length≤4611686018427387904:=by omega
 have a2:min p.1.toNat s.length+x.length+(s.length - p.2.toNat)≤4611686018427387904:=by omega
 have a3:min p.1.toNat s.length+(x.length+(s.length - p.2.toNat))≤4611686018427387904:=by omega
 rw [ev_fn Tryz.f171 rfl Tryz.func171 rfl rfl rfl (Nat.le_of_ble_eq_true rfl)]
 have a4:p.1.toNat+x.length≤4611686018427387904:=by omega
 have a5:p.1.toNat+x.length+(s.length - p.2.toNat)≤4611686018427387904:=by omega
 have a6:p.1.toNat+(x.length+(s.length - p.2.toNat))≤4611686018427387904:=by omega
 simp [h1,h2,h3,h4,a1,a2,a3,a4,a5,a6,overS]
end Go.Ev

