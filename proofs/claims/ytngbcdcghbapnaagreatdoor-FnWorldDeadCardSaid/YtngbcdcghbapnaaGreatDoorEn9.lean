/- My texts joined: EvT9, EvT10, EvT11. No condition. -/
import Derived.Test.YtngbcdcghbapnaaGreatDoorEn1
import Derived.Test.YtngbcdcghbapnaaGreatDoorEn2
import Derived.Test.YtngbcdcghbapnaaGreatDoorEn5
import Derived.Test.YtngbcdcghbapnaaGreatDoorEn6
import Derived.Test.YtngbcdcghbapnaaGreatDoorEn7
import Derived.Test.YtngbcdcghbapnaaGreatDoorEn8
set_option linter.unusedVariables false
set_option linter.unusedSimpArgs false

set_option maxRecDepth 100000
set_option maxHeartbeats 4000000
namespace Go.Ev
open Go.Proofs
def meetS (a b:Sp):Sp:=(maxI a.1 b.1,minI a.2 b.2)
abbrev rSB (s:Sp) (b:Bool):Out:={ rs:=[.v .own true (spL s),.v .own false [.bool b]],outs:=[] }
theorem ev_l1Meet (m m':M) (a b:Sp):ev E 253 [.v m true (spL a),.v m' true (spL b)] =
  some (if ltI (meetS a b).1 (meetS a b).2=true then rSB (meetS a b) true else rSB (0,0) false):=by
 have h1:=fun m m'=>ev_spec_l1Max m m' a.1 b.1
 have h2:=fun m m'=>ev_spec_l1Min m m' a.2 b.2
 rw [ev_fn Tryz.f253 rfl Tryz.func253 rfl rfl rfl (Nat.le_of_ble_eq_true rfl)]
 cases h:ltI (meetS a b).1 (meetS a b).2<;>simp only [meetS] at h<;>simp [h1,h2,meetS,h]
theorem maxJ (a b:Int):(if a<b then b else a)=maxI a b:=by
 simp only [maxI,ltI,decide_eq_true_eq]
 split<;>split<;>omega
theorem minJ (a b:Int):(if b<a then b else a)=minI a b:=by
 simp only [minI,ltI,decide_eq_true_eq]
 split<;>split<;>omega
def meetO (a b:Sp):Bool:=spOk a&&spOk b&&spOk (meetS a b)
theorem ev_SpanMeet (m m':M) (a b:Sp):ev E 170 [.v m true (spL a),.v m' true (spL b)] =
  some (if meetO a b=true then rSB (meetS a b) true else rSB (0,0) false):=by
 have h1:=fun m=>ev_impl_SpanOk m a
 have h2:=fun m=>ev_impl_SpanOk m b
 have h3:=fun m=>ev_impl_SpanOk m (meetS a b)
 simp only [meetS] at h3
 rw [ev_fn Tryz.f170 rfl Tryz.func170 rfl rfl rfl (Nat.le_of_ble_eq_true rfl)]
 cases e1:spOk a<;>cases e2:spOk b<;>cases e3:spOk (meetS a b)<;>simp only [meetS] at e3<;>simp [h1,h2,h3,e1,e2,e3,meetS,meetO,maxJ,minJ]
abbrev owL (t:List UInt8) (h d:List Sp):List L:=[.str t,.sl (h.map spL),.sl (d.map spL)]
theorem ev_OwnSame (m m':M) (hm:m.isOwn=false) (hm':m'.isOwn=false) (t t':List UInt8) (h d h' d':List Sp) (hb:h'.length≤1099511627776) (db:d'.length≤1099511627776) :
  ev E 57 [.v m true (owL t h d),.v m' true (owL t' h' d')]=some (rB (eqS t t'&&decide (h=h')&&decide (d=d'))):=by
 have h1:=fun m m'=>ev_Equal m m' h h' hb
 have h2:=fun m m'=>ev_Equal m m' d d' db
 rw [ev_fn Tryz.f57 rfl Tryz.func57 rfl rfl rfl (Nat.le_of_ble_eq_true rfl)]
 cases e1:eqS t t'
 ·simp [e1,hm,hm']
 ·by_cases e2:h=h'
  ·subst e2
   simp [e1,hm,hm',h1,h2]
  ·simp [e1,hm,hm',h1,h2,e2]
abbrev rOw (t:List UInt8) (h d:List Sp):RV:=.v .own true (owL t h d)
theorem ev_l6Copy (m:M) (hm:m.isOwn=false) (t:List UInt8) (h d:List Sp) (hb:h.length≤1099511627776) (db:d.length≤1099511627776) :
  ev E 158 [.v m true (owL t h d)]=some { rs:=[rOw t h d],outs:=[] }:=by
 rw [ev_fn Tryz.f158 rfl Tryz.func158 rfl rfl rfl (Nat.le_of_ble_eq_true rfl)]
 have a1:h.length*16≤17592186044416:=by omega
 have a2:h.length≤17592186044416:=by omega
 have a3:d.length*16≤17592186044416:=by omega
 have a4:d.length≤17592186044416:=by omega
 simp [hm,a1,a2,a3,a4]
set_option maxRecDepth 100000
set_option maxHeartbeats 4000000
abbrev bxm (r:Root) (m:M) (ls:List L):Root × HC:=(r,{ box:=true,wr:=true,m,ls,e0:=0,e1:=0 })
def allTo (p:Nat→Bool):Nat→Nat→Bool
 | 0,_=>true
 | n+1,i=>p i&&allTo p n (i+1)
theorem allTo_iff (p:Nat→Bool):∀ (n i:Nat),allTo p n i=true↔∀ j,i≤j→j<i+n→p j=true
 | 0,i=>by simp [allTo];omega
 | n+1,i=>by
  simp only [allTo,Bool.and_eq_true,allTo_iff p n (i+1)]
  constructor
  ·intro ⟨h1,h2⟩ j hj hk
   by_cases e:j=i
   ·subst e;exact h1
   ·exact h2 j (by omega) (by omega)
  ·intro h
   exact ⟨h i (by omega) (by omega),fun j hj hk=>h j (by omega) (by omega)⟩
def okAt (t:List UInt8) (hf df:Nat→Bool) (i:Nat):Bool:=hf i || (eqI (t.getD i 0).toNat 46&&!df i)
theorem lp_iOwnOk (m:M) (hm:m.isOwn=false) (t:List UInt8) (h d:List Sp) (ht:t.length=48) (hf df:Nat→Bool) (a:Code) (ha:a=lp Tryz.f83 0):∀ (n i:Nat),i+n=48 →
  loopC E (ev E) 83 a { V:=[(1,adc 1),(3,adc 3),(4,adc 4),(34,vi i)],H:=[bxm (.c 1) m (owL t h d),bx (.c 3) (pl hf),bx (.c 4) (pl df)],ps:=[] } =
   if allTo (okAt t hf df) n i then some (.exit 0,{ V:=[(1,adc 1),(3,adc 3),(4,adc 4),(34,vi 48),(35,vb false)],H:=[bxm (.c 1) m (owL t h d),bx (.c 3) (pl hf),bx (.c 4) (pl df)],ps:=[] })
   else some (.ret,{ V:=[(2,vb false)],H:=[],ps:=[] })
 | 0,i,h0=>by
  rw [loopC_of _ _ _ _ ha]
  obtain rfl:i=48:=by omega
  simp [lp,loopsOf,Tryz.f83,allTo,hm]
 | n+1,i,h0=>by
  have hlt:i<48:=by omega
  have hI:(i:Int)<48:=by omega
  have h1:1≤48 - i:=by omega
  have hw:=wrapN i (by omega)
  have hlt2:i<t.length:=by omega
  have hp:=pl_take hf hlt
  have hq:=pl_take df hlt
  have ih:=lp_iOwnOk m hm t h d ht hf df a ha n (i+1) (by omega)
  push_cast at ih
  rw [loopC_of _ _ _ _ ha,allTo]
  have hg:t.getD i 0=t[i]:=by simp [hlt2]
  simp only [okAt,hg]
  clear ha hg
  generalize allTo (okAt t hf df) n (i+1)=r at ih ⊢
  cases e1:hf i<;>rw [e1] at hp
  ·cases e2:eqI t[i].toNat 46
   ·simp [lp,loopsOf,Tryz.f83,hI,hlt2,hw,hp,h1,show i≤48 by omega,hm,e2]
   ·cases e3:df i<;>rw [e3] at hq<;>simp [lp,loopsOf,Tryz.f83,hI,hlt2,hw,hp,hq,h1,show i≤48 by omega,hm,e2,ih]
  ·simp [lp,loopsOf,Tryz.f83,hI,hlt2,hw,hp,h1,show i≤48 by omega,hm,ih]
def inF (xs:List Sp):Nat→Bool:=fun j=>xs.any (inSp j)
def ownOk (t:List UInt8) (h d:List Sp):Bool:=t.all okB&&eqI t.length 48&&spsOk h&&spsOk d&&allTo (okAt t (inF h) (inF d)) 48 0
theorem spOk_iff {s:Sp}:spOk s=true↔0≤s.1∧s.1<s.2∧s.2≤48:=by
 simp [spOk,ltI,and_assoc]
theorem stepsOk_sp {xs:List Sp}:∀ (n i:Nat),stepsOk xs n i=true→∀ j,i≤j→j<i+n→j<xs.length→spOk (xs.getD j (0,0))=true
 | 0,i,_,j,h1,h2,_=>by omega
 | n+1,i,h,j,h1,h2,h3=>by
  simp only [stepsOk,Bool.and_eq_true] at h
  by_cases e:j=i
  ·subst e
   simp only [stepOk,Bool.and_eq_true] at h
   exact h.1.1
  ·exact stepsOk_sp n (i+1) h.2 j (by omega) (by omega) h3
theorem spsOk_sp {xs:List Sp} (h:spsOk xs=true):∀ s∈xs,0≤s.1∧s.1<s.2∧s.2≤48:=by
 intro s hs
 simp only [spsOk,Bool.and_eq_true] at h
 obtain ⟨j,hj,rfl⟩:=List.mem_iff_getElem.1 hs
 have:=stepsOk_sp _ _ h.1 j (by omega) (by omega) hj
 simp only [List.getD_eq_getElem?_getD,List.getElem?_eq_getElem hj,Option.getD_some] at this
 exact spOk_iff.1 this
theorem spsOk_len {xs:List Sp} (h:spsOk xs=true):xs.length≤12:=by
 simp only [spsOk,Bool.and_eq_true,Bool.not_eq_true',ltI_not] at h
 omega
theorem ev_impl_OwnOk (m:M) (hm:m.isOwn=false) (t:List UInt8) (h d:List Sp) (tb:t.length≤1099511627776) (hb:h.length≤1099511627776) (db:d.length≤1099511627776) :
  ev E 83 [.v m true (owL t h d)]=some (rB (ownOk t h d)):=by
 have c1:=fun m=>ev_impl_TextOk m t tb
 have c2:=fun m=>ev_impl_SpansOk m h hb
 have c3:=fun m=>ev_impl_SpansOk m d db
 rw [ev_fn Tryz.f83 rfl Tryz.func83 rfl rfl rfl (Nat.le_of_ble_eq_true rfl)]
 cases e1:t.all okB
 ·simp [c1,e1,hm,ownOk,-List.all_eq_true,-List.all_eq_false]
 ·cases e2:eqI t.length 48
  ·cases e3:ltI 48 t.length<;>simp [c1,e1,e2,e3,hm,ownOk,-List.all_eq_true,-List.all_eq_false]
  ·have hl:t.length=48:=by simp only [eqI_iff] at e2;omega
   have e3:ltI 48 t.length=false:=by simp only [ltI_not];omega
   cases e4:spsOk h
   ·simp [c1,c2,e1,e2,e3,e4,hm,ownOk,-List.all_eq_true,-List.all_eq_false]
   ·cases e5:spsOk d
    ·simp [c1,c2,c3,e1,e2,e3,e4,e5,hm,ownOk,-List.all_eq_true,-List.all_eq_false]
    ·have c4:∀ m,ev E 64 [.v m false [.sl (h.map spL)]]=some { rs:=[.v .own true (pl (inF h))],outs:=[] }:=fun m=>ev_impl_of m h hb fun s hs=>by have:=spsOk_sp e4 s hs;omega
     have c5:∀ m,ev E 64 [.v m false [.sl (d.map spL)]]=some { rs:=[.v .own true (pl (inF d))],outs:=[] }:=fun m=>ev_impl_of m d db fun s hs=>by have:=spsOk_sp e5 s hs;omega
     have hl2:=lp_iOwnOk m hm t h d hl (inF h) (inF d) _ rfl 48 0 (by omega)
     push_cast at hl2
     simp [c1,c2,c3,c4,c5,e1,e2,e3,e4,e5,hm,ownOk,-List.all_eq_true,-List.all_eq_false,pl_ff]
     rw [loopC_at ?_ hl2]
     ·cases e6:allTo (okAt t (inF h) (inF d)) 48 0<;>simp
     ·rfl
theorem lp_sOwnOk (m:M) (hm:m.isOwn=false) (t:List UInt8) (h d:List Sp) (ht:t.length=48) (hb:h.length≤1099511627776) (db:d.length≤1099511627776) (a:Code) (ha:a=lp Tryz.f162 0):∀ (n i:Nat),i+n=48 →
  loopC E (ev E) 162 a { V:=[(1,adc 1),(3,vi i)],H:=[bxm (.c 1) m (owL t h d)],ps:=[] } =
   if allTo (okAt t (inF h) (inF d)) n i then some (.exit 0,{ V:=[(1,adc 1),(3,vi 48),(30,vb false)],H:=[bxm (.c 1) m (owL t h d)],ps:=[] })
   else some (.ret,{ V:=[(2,vb false)],H:=[],ps:=[] })
 | 0,i,h0=>by
  rw [loopC_of _ _ _ _ ha]
  obtain rfl:i=48:=by omega
  simp [lp,loopsOf,Tryz.f162,allTo,hm,ht]
 | n+1,i,h0=>by
  have hI:(i:Int)<48:=by omega
  have hw:=wrapN i (by omega)
  have hlt2:i<t.length:=by omega
  have hltc:i<48:=by omega
  have ih:=lp_sOwnOk m hm t h d ht hb db a ha n (i+1) (by omega)
  push_cast at ih
  rw [loopC_of _ _ _ _ ha,allTo]
  have hg:t.getD i 0=t[i]:=by simp [hlt2]
  simp only [okAt,hg]
  clear ha hg
  have c1:∀ m m',ev E 167 [.v m false [.sl (h.map spL)],.v m' false [.int .i64 i]]=some (rB (inF h i)):=fun m m'=>ev_spec_l1In m m' h i hb
  have c2:∀ m m',ev E 167 [.v m false [.sl (d.map spL)],.v m' false [.int .i64 i]]=some (rB (inF d i)):=fun m m'=>ev_spec_l1In m m' d i db
  generalize allTo (okAt t (inF h) (inF d)) n (i+1)=r at ih ⊢
  cases e1:inF h i
  ·cases e2:eqI t[i].toNat 46
   ·simp [lp,loopsOf,Tryz.f162,hI,hltc,hlt2,ht,hw,hm,e1,e2,c1,c2]
   ·cases e3:inF d i<;>simp [lp,loopsOf,Tryz.f162,hI,hltc,hlt2,ht,hw,hm,e1,e2,e3,c1,c2,ih]
  ·simp [lp,loopsOf,Tryz.f162,hI,hltc,hlt2,ht,hw,hm,ih,e1,c1,c2]
theorem ev_spec_OwnOk (m:M) (hm:m.isOwn=false) (t:List UInt8) (h d:List Sp) (tb:t.length≤1099511627776) (hb:h.length≤1099511627776) (db:d.length≤1099511627776) :
  ev E 162 [.v m true (owL t h d)]=some (rB (ownOk t h d)):=by
 have c1:=fun m=>ev_spec_TextOk m t tb
 have c2:=fun m=>ev_spec_SpansOk m h hb
 have c3:=fun m=>ev_spec_SpansOk m d db
 rw [ev_fn Tryz.f162 rfl Tryz.func162 rfl rfl rfl (Nat.le_of_ble_eq_true rfl)]
 cases e1:t.all okB
 ·simp [c1,e1,hm,ownOk,-List.all_eq_true,-List.all_eq_false]
 ·cases e2:eqI t.length 48
  ·cases e3:ltI 48 t.length<;>simp [c1,e1,e2,e3,hm,ownOk,-List.all_eq_true,-List.all_eq_false]
  ·have hl:t.length=48:=by simp only [eqI_iff] at e2;omega
   have e3:ltI 48 t.length=false:=by simp only [ltI_not];omega
   cases e4:spsOk h
   ·simp [c1,c2,e1,e2,e3,e4,hm,ownOk,-List.all_eq_true,-List.all_eq_false]
   ·cases e5:spsOk d
    ·simp [c1,c2,c3,e1,e2,e3,e4,e5,hm,ownOk,-List.all_eq_true,-List.all_eq_false]
    ·have hl2:=lp_sOwnOk m hm t h d hl hb db _ rfl 48 0 (by omega)
     push_cast at hl2
     simp [c1,c2,c3,e1,e2,e3,e4,e5,hm,ownOk,-List.all_eq_true,-List.all_eq_false]
     rw [loopC_at ?_ hl2]
     ·cases e6:allTo (okAt t (inF h) (inF d)) 48 0<;>simp
     ·rfl
theorem ev_l6Put (m m':M) (hm:m.isOwn=false) (hm':m'.isOwn=false) (t:List UInt8) (h d:List Sp) (t':List UInt8) (h' d':List Sp) (hb:h.length≤1099511627776) (db:d.length≤1099511627776) (tb':t'.length≤1099511627776) (hb':h'.length≤1099511627776) (db':d'.length≤1099511627776) :
  ev E 235 [.v m true (owL t h d),.v m' true (owL t' h' d')]=some (if ownOk t' h' d'=true then { rs:=[rOw t' h' d',.v .own false [.bool true]],outs:=[] } else { rs:=[rOw t h d,.v .own false [.bool false]],outs:=[] }):=by
 have c1:=fun m hm=>ev_spec_OwnOk m hm t' h' d' tb' hb' db'
 have c2:=fun m hm=>ev_l6Copy m hm t h d hb db
 have c3:=fun m hm=>ev_l6Copy m hm t' h' d' hb' db'
 rw [ev_fn Tryz.f235 rfl Tryz.func235 rfl rfl rfl (Nat.le_of_ble_eq_true rfl)]
 cases e:ownOk t' h' d'<;>simp [c1,c2,c3,hm,hm',e]
set_option maxRecDepth 100000
set_option maxHeartbeats 4000000
abbrev rOB (t:List UInt8) (h d:List Sp) (b:Bool):Out:={ rs:=[rOw t h d,.v .own false [.bool b]],outs:=[] }
def cutS (xs:List Sp) (s:Sp):List Sp:=ofL (fun j=>if inSp j s=true then false else xs.any (inSp j)) 48 0 []
def addS (xs:List Sp) (s:Sp):List Sp:=ofL (fun j=>if inSp j s=true then true else xs.any (inSp j)) 48 0 []
theorem ofL_len (f:Nat→Bool):∀ (n i:Nat) (out:List Sp),(ofL f n i out).length≤out.length+n
 | 0,i,out=>by simp [ofL]
 | n+1,i,out=>by
  have:=ofL_len f n (i+1) (ofStep out i (f i))
  have:=ofStep_len out i (f i)
  simp only [ofL]
  omega
theorem cutS_len (xs:List Sp) (s:Sp):(cutS xs s).length≤48:=by
 exact ofL_len (fun j=>if inSp j s=true then false else xs.any (inSp j)) 48 0 []
theorem addS_len (xs:List Sp) (s:Sp):(addS xs s).length≤48:=by
 exact ofL_len (fun j=>if inSp j s=true then true else xs.any (inSp j)) 48 0 []
structure OwB (t:List UInt8) (h d:List Sp):Prop where
 t:t.length≤4000000
 h:h.length≤4000000
 d:d.length≤4000000
def cleanS (t:List UInt8) (h d:List Sp) (p:Sp):Out :=
 if ownOk t h d=true then
  if spOk p=true then (if ownOk t h (cutS d p)=true then rOB t h (cutS d p) true else rOB t h d false)
  else rOB t h d false
 else rOB [] [] [] false
theorem ev_spec_OwnClean (m m':M) (hm:m.isOwn=false) (t:List UInt8) (h d:List Sp) (p:Sp) (b:OwB t h d) :
  ev E 189 [.v m true (owL t h d),.v m' true (spL p)]=some (cleanS t h d p):=by
 have bt:=b.t
 have bh:=b.h
 have bd:=b.d
 have c1:=fun m hm=>ev_spec_OwnOk m hm t h d (by omega) (by omega) (by omega)
 have c2:=fun m=>ev_spec_SpanOk m p
 have c3:=fun m hm=>ev_l6Copy m hm t h d (by omega) (by omega)
 rw [ev_fn Tryz.f189 rfl Tryz.func189 rfl rfl rfl (Nat.le_of_ble_eq_true rfl)]
 cases e1:ownOk t h d
 ·simp [c1,e1,hm,cleanS]
 ·cases e2:spOk p
  ·simp [c1,c2,c3,e1,e2,hm,cleanS]
  ·have hp:=spOk_iff.1 e2
   have c4:∀ m m',ev E 236 [.v m false [.sl (d.map spL)],.v m' true (spL p)]=some { rs:=[.v .own false [.sl ((cutS d p).map spL)]],outs:=[] }:=fun m m'=>ev_spec_l1Cut m m' d p (by omega) (by omega) (by omega) (by omega)
   have hl:=cutS_len d p
   have c5:=fun m m' hm hm'=>ev_l6Put m m' hm hm' t h d t h (cutS d p) (by omega) (by omega) (by omega) (by omega) (by omega)
   cases e3:ownOk t h (cutS d p)<;>simp [c1,c2,c3,c4,c5,e1,e2,e3,hm,cleanS]
theorem lp_l2Long (m:M) (N:Nat) (hN:N≤4000000) (a:Code) (ha:a=lp Tryz.f130 0):∀ (n:Nat) (m0:M) (s:List UInt8),N≤s.length+n→s.length≤4000000 →
  ∃ m',loopC E (ev E) 130 a { V:=[(0,.v m0 false [.str s]),(1,.v m false [.int .i64 N])],H:=[],ps:=[] } =
   some (.exit 0,{ V:=[(0,.v m' false [.str (s++List.replicate (N - s.length) 46)]),(1,.v m false [.int .i64 N]),(8,vb false)],H:=[],ps:=[] })
 | 0,m0,s,h,hs=>by
  refine ⟨m0,?_⟩
  rw [loopC_of _ _ _ _ ha]
  have h1:N≤s.length:=by omega
  have h2:N - s.length=0:=by omega
  simp [lp,loopsOf,Tryz.f130,h1,h2]
 | n+1,m0,s,h,hs=>by
  by_cases hlt:s.length<N
  ·obtain ⟨m',ih⟩:=lp_l2Long m N hN a ha n .ro (s++[46]) (by simp;omega) (by simp;omega)
   refine ⟨m',?_⟩
   rw [loopC_of _ _ _ _ ha]
   clear ha
   have h2:N - s.length=(N - (s.length+1))+1:=by omega
   have h3:s.length+1≤4611686018427387904:=by omega
   rw [h2,List.replicate_succ]
   simp at ih
   simp [lp,loopsOf,Tryz.f130,hlt,h3]
   exact ih
  ·refine ⟨m0,?_⟩
   rw [loopC_of _ _ _ _ ha]
   have h1:N≤s.length:=by omega
   have h2:N - s.length=0:=by omega
   simp [lp,loopsOf,Tryz.f130,h1,h2]
theorem ev_l2Long (m m':M) (s:List UInt8) (N:Nat) (hN:N≤4000000) (hs:s.length≤4000000) :
  ev E 130 [.v m' false [.str s],.v m false [.int .i64 N]]=some { rs:=[.v .own false [.str (s++List.replicate (N - s.length) 46)]],outs:=[] }:=by
 obtain ⟨m0,hl⟩:=lp_l2Long m N hN _ rfl N m' s (by omega) hs
 rw [ev_fn Tryz.f130 rfl Tryz.func130 rfl rfl rfl (Nat.le_of_ble_eq_true rfl)]
 simp
 rw [loopC_at ?_ hl]
 ·simp
 ·rfl
theorem ev_l6Blank (m:M) (N:Nat) (hN:N≤4000000):ev E 175 [.v m false [.int .i64 N]]=some { rs:=[.v .own false [.str (List.replicate N 46)]],outs:=[] }:=by
 have c:=fun m m'=>ev_l2Long m m' [] N hN (by simp)
 rw [ev_fn Tryz.f175 rfl Tryz.func175 rfl rfl rfl (Nat.le_of_ble_eq_true rfl)]
 simp [c]
theorem ev_l6None:ev E 97 []=some { rs:=[rOw (List.replicate 48 46) [] []],outs:=[] }:=by
 have c:=fun m=>ev_l6Blank m 48 (by omega)
 push_cast at c
 rw [ev_fn Tryz.f97 rfl Tryz.func97 rfl rfl rfl (Nat.le_of_ble_eq_true rfl)]
 simp [c,-List.reduceReplicate]
 rfl
def overS (s:List UInt8) (p:Sp) (x:List UInt8):List UInt8:=s.take p.1.toNat++x++s.drop p.2.toNat
theorem ev_l6Over (m m' m'':M) (s x:List UInt8) (p:Sp) (h1:0≤p.1) (h2:p.1≤s.length) (h3:0≤p.2) (h4:p.2≤s.length) (hs:s.length≤4000000) (hx:x.length≤4000000) :
  ev E 171 [.v m false [.str s],.v m' true (spL p),.v m'' false [.str x]]=some { rs:=[.v .own false [.str (overS s p x)]],outs:=[] }:=by
 have a1:min p.1.toNat s.length+x.length≤4611686018427387904:=by omega
 have a2:min p.1.toNat s.length+x.length+(s.length - p.2.toNat)≤4611686018427387904:=by omega
 have a3:min p.1.toNat s.length+(x.length+(s.length - p.2.toNat))≤4611686018427387904:=by omega
 rw [ev_fn Tryz.f171 rfl Tryz.func171 rfl rfl rfl (Nat.le_of_ble_eq_true rfl)]
 have a4:p.1.toNat+x.length≤4611686018427387904:=by omega
 have a5:p.1.toNat+x.length+(s.length - p.2.toNat)≤4611686018427387904:=by omega
 have a6:p.1.toNat+(x.length+(s.length - p.2.toNat))≤4611686018427387904:=by omega
 simp [h1,h2,h3,h4,a1,a2,a3,a4,a5,a6,overS]
end Go.Ev

