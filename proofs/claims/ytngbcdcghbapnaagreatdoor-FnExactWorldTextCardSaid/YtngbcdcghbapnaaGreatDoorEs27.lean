/- My texts joined: EvT52, EvT53. No condition. -/
import Derived.Test.YtngbcdcghbapnaaGreatDoorEn18
set_option linter.unusedVariables false
set_option linter.unusedSimpArgs false

set_option maxRecDepth 100000
set_option maxHeartbeats 4000000
namespace Go.Ev
open Go.Proofs
def SameBy (E:Env) (f:FuncId) {α:Type} (enc:α→List L) (ok:α→Prop):Prop:=∀ m m' x,m.isOwn=false→m'.isOwn=false→ok x→ev E f [.v m true (enc x),.v m' true (enc x)]=some (rB true)
theorem lp_laws_eqIntS (m m':M) (xs:List (Int)) (hb:xs.length≤4000000) (a:Code) (ha:a=lp Tryz.f117 0):∀ (n i:Nat),i+n=xs.length →
  loopC E (ev E) 117 a { V:=[(0,.v m false [.sl (xs.map (fun n:Int=>[L.int .i64 n]))]),(1,.v m' false [.sl (xs.map (fun n:Int=>[L.int .i64 n]))]),(5,vi i)],H:=[],ps:=[] } =
   some (.exit 0,{ V:=[(0,.v m false [.sl (xs.map (fun n:Int=>[L.int .i64 n]))]),(1,.v m' false [.sl (xs.map (fun n:Int=>[L.int .i64 n]))]),(5,vi xs.length),(14,vb false)],H:=[],ps:=[] })
 | 0,i,h0=>by
  rw [loopC_of _ _ _ _ ha]
  obtain rfl:i=xs.length:=by omega
  simp [lp,loopsOf,Tryz.f117]
 | n+1,i,h0=>by
  have hlt:i<xs.length:=by omega
  have hw:=wrapN i (by omega)
  have ih:=lp_laws_eqIntS m m' xs hb a ha n (i+1) (by omega)
  push_cast at ih
  rw [loopC_of _ _ _ _ ha]
  clear ha
  simp [lp,loopsOf,Tryz.f117,hlt,hw]
  simpa using ih
theorem ev_laws_eqIntS (m m':M) (xs:List (Int)) (hb:xs.length≤4000000):ev E 117 [.v m false [.sl (xs.map (fun n:Int=>[L.int .i64 n]))],.v m' false [.sl (xs.map (fun n:Int=>[L.int .i64 n]))]]=some (rB true):=by
 have hl:=lp_laws_eqIntS m m' xs hb _ rfl xs.length 0 (by omega)
 push_cast at hl
 rw [ev_fn Tryz.f117 rfl Tryz.func117 rfl rfl rfl (Nat.le_of_ble_eq_true rfl)]
 simp
 rw [loopC_at ?_ (by simpa using hl)]
 ·simp
 ·rfl
theorem lp_laws_eqBoolS (m m':M) (xs:List (Bool)) (hb:xs.length≤4000000) (a:Code) (ha:a=lp Tryz.f118 0):∀ (n i:Nat),i+n=xs.length →
  loopC E (ev E) 118 a { V:=[(0,.v m false [.sl (xs.map (fun b:Bool=>[L.bool b]))]),(1,.v m' false [.sl (xs.map (fun b:Bool=>[L.bool b]))]),(5,vi i)],H:=[],ps:=[] } =
   some (.exit 0,{ V:=[(0,.v m false [.sl (xs.map (fun b:Bool=>[L.bool b]))]),(1,.v m' false [.sl (xs.map (fun b:Bool=>[L.bool b]))]),(5,vi xs.length),(14,vb false)],H:=[],ps:=[] })
 | 0,i,h0=>by
  rw [loopC_of _ _ _ _ ha]
  obtain rfl:i=xs.length:=by omega
  simp [lp,loopsOf,Tryz.f118]
 | n+1,i,h0=>by
  have hlt:i<xs.length:=by omega
  have hw:=wrapN i (by omega)
  have ih:=lp_laws_eqBoolS m m' xs hb a ha n (i+1) (by omega)
  push_cast at ih
  rw [loopC_of _ _ _ _ ha]
  clear ha
  simp [lp,loopsOf,Tryz.f118,hlt,hw]
  simpa using ih
theorem ev_laws_eqBoolS (m m':M) (xs:List (Bool)) (hb:xs.length≤4000000):ev E 118 [.v m false [.sl (xs.map (fun b:Bool=>[L.bool b]))],.v m' false [.sl (xs.map (fun b:Bool=>[L.bool b]))]]=some (rB true):=by
 have hl:=lp_laws_eqBoolS m m' xs hb _ rfl xs.length 0 (by omega)
 push_cast at hl
 rw [ev_fn Tryz.f118 rfl Tryz.func118 rfl rfl rfl (Nat.le_of_ble_eq_true rfl)]
 simp
 rw [loopC_at ?_ (by simpa using hl)]
 ·simp
 ·rfl
theorem lp_laws_eqStringS (m m':M) (xs:List (List UInt8)) (hb:xs.length≤4000000) (a:Code) (ha:a=lp Tryz.f184 0):∀ (n i:Nat),i+n=xs.length →
  loopC E (ev E) 184 a { V:=[(0,.v m false [.sl (xs.map (fun s:List UInt8=>[L.str s]))]),(1,.v m' false [.sl (xs.map (fun s:List UInt8=>[L.str s]))]),(5,vi i)],H:=[],ps:=[] } =
   some (.exit 0,{ V:=[(0,.v m false [.sl (xs.map (fun s:List UInt8=>[L.str s]))]),(1,.v m' false [.sl (xs.map (fun s:List UInt8=>[L.str s]))]),(5,vi xs.length),(14,vb false)],H:=[],ps:=[] })
 | 0,i,h0=>by
  rw [loopC_of _ _ _ _ ha]
  obtain rfl:i=xs.length:=by omega
  simp [lp,loopsOf,Tryz.f184]
 | n+1,i,h0=>by
  have hlt:i<xs.length:=by omega
  have hw:=wrapN i (by omega)
  have ih:=lp_laws_eqStringS m m' xs hb a ha n (i+1) (by omega)
  push_cast at ih
  rw [loopC_of _ _ _ _ ha]
  clear ha
  simp [lp,loopsOf,Tryz.f184,hlt,hw]
  simpa using ih
theorem ev_laws_eqStringS (m m':M) (xs:List (List UInt8)) (hb:xs.length≤4000000):ev E 184 [.v m false [.sl (xs.map (fun s:List UInt8=>[L.str s]))],.v m' false [.sl (xs.map (fun s:List UInt8=>[L.str s]))]]=some (rB true):=by
 have hl:=lp_laws_eqStringS m m' xs hb _ rfl xs.length 0 (by omega)
 push_cast at hl
 rw [ev_fn Tryz.f184 rfl Tryz.func184 rfl rfl rfl (Nat.le_of_ble_eq_true rfl)]
 simp
 rw [loopC_at ?_ (by simpa using hl)]
 ·simp
 ·rfl
theorem lp_laws_eqSpanS (ok:Sp→Prop) (hc:SameBy E 262 spL ok) (m m':M) (hm:m.isOwn=false) (hm':m'.isOwn=false) (xs:List (Sp)) (hb:xs.length≤4000000) (hk:∀ x∈xs,ok x) (a:Code) (ha:a=lp Tryz.f233 0):∀ (n i:Nat),i+n=xs.length →
  loopC E (ev E) 233 a { V:=[(0,.v m false [.sl (xs.map spL)]),(1,.v m' false [.sl (xs.map spL)]),(5,vi i)],H:=[],ps:=[] } =
   some (.exit 0,{ V:=[(0,.v m false [.sl (xs.map spL)]),(1,.v m' false [.sl (xs.map spL)]),(5,vi xs.length),(14,vb false)],H:=[],ps:=[] })
 | 0,i,h0=>by
  rw [loopC_of _ _ _ _ ha]
  obtain rfl:i=xs.length:=by omega
  simp [lp,loopsOf,Tryz.f233]
 | n+1,i,h0=>by
  have hlt:i<xs.length:=by omega
  have hw:=wrapN i (by omega)
  have c:=fun m m' hm hm'=>hc m m' xs[i] hm hm' (hk _ (List.getElem_mem hlt))
  have ih:=lp_laws_eqSpanS ok hc m m' hm hm' xs hb hk a ha n (i+1) (by omega)
  push_cast at ih
  rw [loopC_of _ _ _ _ ha]
  clear ha
  simp [lp,loopsOf,Tryz.f233,hlt,hw,c,hm,hm']
  simpa using ih
theorem ev_laws_eqSpanS (ok:Sp→Prop) (hc:SameBy E 262 spL ok) (m m':M) (hm:m.isOwn=false) (hm':m'.isOwn=false) (xs:List (Sp)) (hb:xs.length≤4000000) (hk:∀ x∈xs,ok x):ev E 233 [.v m false [.sl (xs.map spL)],.v m' false [.sl (xs.map spL)]]=some (rB true):=by
 have hl:=lp_laws_eqSpanS ok hc m m' hm hm' xs hb hk _ rfl xs.length 0 (by omega)
 push_cast at hl
 rw [ev_fn Tryz.f233 rfl Tryz.func233 rfl rfl rfl (Nat.le_of_ble_eq_true rfl)]
 simp
 rw [loopC_at ?_ (by simpa using hl)]
 ·simp
 ·rfl
theorem lp_laws_eqReqS (ok:ReqT→Prop) (hc:SameBy E 187 reqL ok) (m m':M) (hm:m.isOwn=false) (hm':m'.isOwn=false) (xs:List (ReqT)) (hb:xs.length≤4000000) (hk:∀ x∈xs,ok x) (a:Code) (ha:a=lp Tryz.f119 0):∀ (n i:Nat),i+n=xs.length →
  loopC E (ev E) 119 a { V:=[(0,.v m false [.sl (xs.map reqL)]),(1,.v m' false [.sl (xs.map reqL)]),(5,vi i)],H:=[],ps:=[] } =
   some (.exit 0,{ V:=[(0,.v m false [.sl (xs.map reqL)]),(1,.v m' false [.sl (xs.map reqL)]),(5,vi xs.length),(14,vb false)],H:=[],ps:=[] })
 | 0,i,h0=>by
  rw [loopC_of _ _ _ _ ha]
  obtain rfl:i=xs.length:=by omega
  simp [lp,loopsOf,Tryz.f119]
 | n+1,i,h0=>by
  have hlt:i<xs.length:=by omega
  have hw:=wrapN i (by omega)
  have c:=fun m m' hm hm'=>hc m m' xs[i] hm hm' (hk _ (List.getElem_mem hlt))
  have ih:=lp_laws_eqReqS ok hc m m' hm hm' xs hb hk a ha n (i+1) (by omega)
  push_cast at ih
  rw [loopC_of _ _ _ _ ha]
  clear ha
  simp [lp,loopsOf,Tryz.f119,hlt,hw,c,hm,hm']
  simpa using ih
theorem ev_laws_eqReqS (ok:ReqT→Prop) (hc:SameBy E 187 reqL ok) (m m':M) (hm:m.isOwn=false) (hm':m'.isOwn=false) (xs:List (ReqT)) (hb:xs.length≤4000000) (hk:∀ x∈xs,ok x):ev E 119 [.v m false [.sl (xs.map reqL)],.v m' false [.sl (xs.map reqL)]]=some (rB true):=by
 have hl:=lp_laws_eqReqS ok hc m m' hm hm' xs hb hk _ rfl xs.length 0 (by omega)
 push_cast at hl
 rw [ev_fn Tryz.f119 rfl Tryz.func119 rfl rfl rfl (Nat.le_of_ble_eq_true rfl)]
 simp
 rw [loopC_at ?_ (by simpa using hl)]
 ·simp
 ·rfl
theorem lp_laws_eqHoldS (ok:HoldT→Prop) (hc:SameBy E 185 holdL ok) (m m':M) (hm:m.isOwn=false) (hm':m'.isOwn=false) (xs:List (HoldT)) (hb:xs.length≤4000000) (hk:∀ x∈xs,ok x) (a:Code) (ha:a=lp Tryz.f115 0):∀ (n i:Nat),i+n=xs.length →
  loopC E (ev E) 115 a { V:=[(0,.v m false [.sl (xs.map holdL)]),(1,.v m' false [.sl (xs.map holdL)]),(5,vi i)],H:=[],ps:=[] } =
   some (.exit 0,{ V:=[(0,.v m false [.sl (xs.map holdL)]),(1,.v m' false [.sl (xs.map holdL)]),(5,vi xs.length),(14,vb false)],H:=[],ps:=[] })
 | 0,i,h0=>by
  rw [loopC_of _ _ _ _ ha]
  obtain rfl:i=xs.length:=by omega
  simp [lp,loopsOf,Tryz.f115]
 | n+1,i,h0=>by
  have hlt:i<xs.length:=by omega
  have hw:=wrapN i (by omega)
  have c:=fun m m' hm hm'=>hc m m' xs[i] hm hm' (hk _ (List.getElem_mem hlt))
  have ih:=lp_laws_eqHoldS ok hc m m' hm hm' xs hb hk a ha n (i+1) (by omega)
  push_cast at ih
  rw [loopC_of _ _ _ _ ha]
  clear ha
  simp [lp,loopsOf,Tryz.f115,hlt,hw,c,hm,hm']
  simpa using ih
theorem ev_laws_eqHoldS (ok:HoldT→Prop) (hc:SameBy E 185 holdL ok) (m m':M) (hm:m.isOwn=false) (hm':m'.isOwn=false) (xs:List (HoldT)) (hb:xs.length≤4000000) (hk:∀ x∈xs,ok x):ev E 115 [.v m false [.sl (xs.map holdL)],.v m' false [.sl (xs.map holdL)]]=some (rB true):=by
 have hl:=lp_laws_eqHoldS ok hc m m' hm hm' xs hb hk _ rfl xs.length 0 (by omega)
 push_cast at hl
 rw [ev_fn Tryz.f115 rfl Tryz.func115 rfl rfl rfl (Nat.le_of_ble_eq_true rfl)]
 simp
 rw [loopC_at ?_ (by simpa using hl)]
 ·simp
 ·rfl
theorem lp_laws_eqOwnS (ok:OwnT→Prop) (hc:SameBy E 186 ownL ok) (m m':M) (hm:m.isOwn=false) (hm':m'.isOwn=false) (xs:List (OwnT)) (hb:xs.length≤4000000) (hk:∀ x∈xs,ok x) (a:Code) (ha:a=lp Tryz.f116 0):∀ (n i:Nat),i+n=xs.length →
  loopC E (ev E) 116 a { V:=[(0,.v m false [.sl (xs.map ownL)]),(1,.v m' false [.sl (xs.map ownL)]),(5,vi i)],H:=[],ps:=[] } =
   some (.exit 0,{ V:=[(0,.v m false [.sl (xs.map ownL)]),(1,.v m' false [.sl (xs.map ownL)]),(5,vi xs.length),(14,vb false)],H:=[],ps:=[] })
 | 0,i,h0=>by
  rw [loopC_of _ _ _ _ ha]
  obtain rfl:i=xs.length:=by omega
  simp [lp,loopsOf,Tryz.f116]
 | n+1,i,h0=>by
  have hlt:i<xs.length:=by omega
  have hw:=wrapN i (by omega)
  have c:=fun m m' hm hm'=>hc m m' xs[i] hm hm' (hk _ (List.getElem_mem hlt))
  have ih:=lp_laws_eqOwnS ok hc m m' hm hm' xs hb hk a ha n (i+1) (by omega)
  push_cast at ih
  rw [loopC_of _ _ _ _ ha]
  clear ha
  simp [lp,loopsOf,Tryz.f116,hlt,hw,c,hm,hm']
  simpa using ih
theorem ev_laws_eqOwnS (ok:OwnT→Prop) (hc:SameBy E 186 ownL ok) (m m':M) (hm:m.isOwn=false) (hm':m'.isOwn=false) (xs:List (OwnT)) (hb:xs.length≤4000000) (hk:∀ x∈xs,ok x):ev E 116 [.v m false [.sl (xs.map ownL)],.v m' false [.sl (xs.map ownL)]]=some (rB true):=by
 have hl:=lp_laws_eqOwnS ok hc m m' hm hm' xs hb hk _ rfl xs.length 0 (by omega)
 push_cast at hl
 rw [ev_fn Tryz.f116 rfl Tryz.func116 rfl rfl rfl (Nat.le_of_ble_eq_true rfl)]
 simp
 rw [loopC_at ?_ (by simpa using hl)]
 ·simp
 ·rfl
theorem sm_Span:SameBy E 262 spL (fun _=>True):=fun m m' q hm hm' _=>by
 rw [ev_fn Tryz.f262 rfl Tryz.func262 rfl rfl rfl (Nat.le_of_ble_eq_true rfl)]
 simp
theorem sm_Req:SameBy E 187 reqL (fun _=>True):=fun m m' q hm hm' _=>by
 rw [ev_fn Tryz.f187 rfl Tryz.func187 rfl rfl rfl (Nat.le_of_ble_eq_true rfl)]
 simp
theorem ev_eqSpans (m m':M) (hm:m.isOwn=false) (hm':m'.isOwn=false) (xs:List Sp) (hb:xs.length≤4000000):ev E 233 [.v m false [.sl (xs.map spL)],.v m' false [.sl (xs.map spL)]]=some (rB true):=ev_laws_eqSpanS _ sm_Span m m' hm hm' xs hb fun _ _=>trivial
theorem ev_eqReqs (m m':M) (hm:m.isOwn=false) (hm':m'.isOwn=false) (xs:List ReqT) (hb:xs.length≤4000000):ev E 119 [.v m false [.sl (xs.map reqL)],.v m' false [.sl (xs.map reqL)]]=some (rB true):=ev_laws_eqReqS _ sm_Req m m' hm hm' xs hb fun _ _=>trivial
theorem sm_Hold:SameBy E 185 holdL holdB:=fun m m' h hm hm' hb=>by
 have c1:=fun m m' hm hm'=>ev_eqSpans m m' hm hm' h.r hb.1
 have c2:=fun m m' hm hm'=>ev_eqSpans m m' hm hm' h.w hb.2
 rw [ev_fn Tryz.f185 rfl Tryz.func185 rfl rfl rfl (Nat.le_of_ble_eq_true rfl)]
 simp [c1,c2,hm,hm']
theorem sm_Own:SameBy E 186 ownL ownB:=fun m m' o hm hm' hb=>by
 have c1:=fun m m' hm hm'=>ev_eqSpans m m' hm hm' o.h hb.1
 have c2:=fun m m' hm hm'=>ev_eqSpans m m' hm hm' o.d hb.2
 rw [ev_fn Tryz.f186 rfl Tryz.func186 rfl rfl rfl (Nat.le_of_ble_eq_true rfl)]
 simp [c1,c2,hm,hm']
def less (n:Int) (k:Nat):Int:=if ltI (n - k) 0=true then -1 else n - k
theorem less_pos {n:Int} {k:Nat} (h:ltI (n - k) 0=false):less n k=n - k:=by simp [less,h]
theorem less_neg {n:Int} {k:Nat} (h:ltI (n - k) 0=true):less n k=-1:=by simp [less,h]
theorem less_add {n:Int} (k j:Nat):less n (k+j)=if ltI (n - k) 0=true then -1 else less (n - k) j:=by
 unfold less
 simp only [ltI_iff]
 split<;>split<;>(try split)<;>omega
theorem ev_laws_szIntS (m m':M) (xs:List (Int)) (n:Int) (h1:0≤n∧n≤1048576) (hx:xs.length≤9223372036854775807):ev E 103 [.v m false [.sl (xs.map (fun n:Int=>[L.int .i64 n]))],.v m' false [.int .i64 n]]=some (rI (less n xs.length)):=by
 have hw:IntKind.i64.wrap (n - xs.length)=n - xs.length:=wrap64 (by omega)
 rw [ev_fn Tryz.f103 rfl Tryz.func103 rfl rfl rfl (Nat.le_of_ble_eq_true rfl)]
 cases e:ltI (n - xs.length) 0<;>simp [e,hw,less]
theorem ev_laws_szBoolS (m m':M) (xs:List (Bool)) (n:Int) (h1:0≤n∧n≤1048576) (hx:xs.length≤9223372036854775807):ev E 104 [.v m false [.sl (xs.map (fun b:Bool=>[L.bool b]))],.v m' false [.int .i64 n]]=some (rI (less n xs.length)):=by
 have hw:IntKind.i64.wrap (n - xs.length)=n - xs.length:=wrap64 (by omega)
 rw [ev_fn Tryz.f104 rfl Tryz.func104 rfl rfl rfl (Nat.le_of_ble_eq_true rfl)]
 cases e:ltI (n - xs.length) 0<;>simp [e,hw,less]
theorem ev_laws_szSpanS (m m':M) (xs:List (Sp)) (n:Int) (h1:0≤n∧n≤1048576) (hx:xs.length≤9223372036854775807):ev E 231 [.v m false [.sl (xs.map spL)],.v m' false [.int .i64 n]]=some (rI (less n xs.length)):=by
 have hw:IntKind.i64.wrap (n - xs.length)=n - xs.length:=wrap64 (by omega)
 rw [ev_fn Tryz.f231 rfl Tryz.func231 rfl rfl rfl (Nat.le_of_ble_eq_true rfl)]
 cases e:ltI (n - xs.length) 0<;>simp [e,hw,less]
set_option maxRecDepth 100000
set_option maxHeartbeats 4000000
def SizedBy (E:Env) (f:FuncId) {α:Type} (enc:α→List L) (size:α→Nat) (ok:α→Prop):Prop:=∀ m m' x n,m.isOwn=false→0≤n∧n≤1048576→ok x→ev E f [.v m true (enc x),.v m' false [.int .i64 n]]=some (rI (less n (size x)))
def sumOf {α:Type} (size:α→Nat) (xs:List α):Nat:=(xs.map size).sum
theorem sumOf_cons {α:Type} (size:α→Nat) (x:α) (xs:List α):sumOf size (x::xs)=size x+sumOf size xs:=rfl
theorem lp_laws_szReqS (size:ReqT→Nat) (ok:ReqT→Prop) (hc:SizedBy E 179 reqL size ok) (m:M) (hm:m.isOwn=false) (xs:List (ReqT)) (hb:xs.length≤4000000) (hk:∀ x∈xs,ok x) (a:Code) (ha:a=lp Tryz.f105 0):∀ (n i:Nat) (m1:M) (k:Int),i+n=xs.length→0≤k→k≤1048576 →
  ∃ me,loopC E (ev E) 105 a { V:=[(0,.v m false [.sl (xs.map reqL)]),(1,vim m1 k),(5,vi i)],H:=[],ps:=[] } =
   if ltI (k - sumOf size (xs.drop i)) 0=true then some (.ret,{ V:=[(4,vi (-1))],H:=[],ps:=[] })
   else some (.exit 0,{ V:=[(0,.v m false [.sl (xs.map reqL)]),(1,vim me (k - sumOf size (xs.drop i))),(5,vi xs.length),(15,vb false)],H:=[],ps:=[] })
 | 0,i,m1,k,h0,hk0,hk1=>by
  refine ⟨m1,?_⟩
  rw [loopC_of _ _ _ _ ha]
  obtain rfl:i=xs.length:=by omega
  have e:ltI k 0=false:=ltI_not.2 hk0
  simp [lp,loopsOf,Tryz.f105,sumOf,e]
 | n+1,i,m1,k,h0,hk0,hk1=>by
  have hlt:i<xs.length:=by omega
  have hw:=wrapN i (by omega)
  have c:=fun m m' hm=>hc m m' xs[i] k hm ⟨hk0,hk1⟩ (hk _ (List.getElem_mem hlt))
  rw [List.drop_eq_getElem_cons hlt,sumOf_cons]
  cases e:ltI (k - size xs[i]) 0
  ·have e':=ltI_not.1 e
   rw [less_pos e] at c
   obtain ⟨me,ih⟩:=lp_laws_szReqS size ok hc m hm xs hb hk a ha n (i+1) .own (k - size xs[i]) (by omega) (by omega) (by omega)
   refine ⟨me,?_⟩
   have heq:k - ((size xs[i]+sumOf size (xs.drop (i+1)):Nat):Int)=k - size xs[i] - sumOf size (xs.drop (i+1)):=by omega
   rw [heq]
   push_cast at ih
   rw [loopC_of _ _ _ _ ha]
   clear ha
   simp [lp,loopsOf,Tryz.f105,hlt,hw,c,hm,e]
   simpa using ih
  ·have e':=ltI_iff.1 e
   rw [less_neg e] at c
   refine ⟨m1,?_⟩
   rw [if_pos (ltI_iff.2 (by omega))]
   rw [loopC_of _ _ _ _ ha]
   clear ha
   simp [lp,loopsOf,Tryz.f105,hlt,hw,c,hm,e]
theorem ev_laws_szReqS (size:ReqT→Nat) (ok:ReqT→Prop) (hc:SizedBy E 179 reqL size ok) (m m':M) (hm:m.isOwn=false) (xs:List (ReqT)) (n:Int) (h1:0≤n∧n≤1048576) (hb:xs.length≤9223372036854775807) (hk:∀ x∈xs,ok x):ev E 105 [.v m false [.sl (xs.map reqL)],.v m' false [.int .i64 n]]=some (rI (less n (xs.length+sumOf size xs))):=by
 have hw:IntKind.i64.wrap (n - xs.length)=n - xs.length:=wrap64 (by omega)
 rw [less_add]
 cases e:ltI (n - xs.length) 0
 ·have e':=ltI_not.1 e
  obtain ⟨me,hl⟩:=lp_laws_szReqS size ok hc m hm xs (by omega) hk _ rfl xs.length 0 .ro (n - xs.length) (by omega) e' (by omega)
  push_cast at hl
  rw [List.drop_zero] at hl
  rw [ev_fn Tryz.f105 rfl Tryz.func105 rfl rfl rfl (Nat.le_of_ble_eq_true rfl)]
  simp [e,hw]
  rw [loopC_at ?_ (by simpa using hl)]
  ·cases e2:ltI (n - xs.length - sumOf size xs) 0<;>simp [less,e2]
  ·rfl
 ·rw [ev_fn Tryz.f105 rfl Tryz.func105 rfl rfl rfl (Nat.le_of_ble_eq_true rfl)]
  simp [e,hw]
theorem lp_laws_szHoldS (size:HoldT→Nat) (ok:HoldT→Prop) (hc:SizedBy E 177 holdL size ok) (m:M) (hm:m.isOwn=false) (xs:List (HoldT)) (hb:xs.length≤4000000) (hk:∀ x∈xs,ok x) (a:Code) (ha:a=lp Tryz.f101 0):∀ (n i:Nat) (m1:M) (k:Int),i+n=xs.length→0≤k→k≤1048576 →
  ∃ me,loopC E (ev E) 101 a { V:=[(0,.v m false [.sl (xs.map holdL)]),(1,vim m1 k),(5,vi i)],H:=[],ps:=[] } =
   if ltI (k - sumOf size (xs.drop i)) 0=true then some (.ret,{ V:=[(4,vi (-1))],H:=[],ps:=[] })
   else some (.exit 0,{ V:=[(0,.v m false [.sl (xs.map holdL)]),(1,vim me (k - sumOf size (xs.drop i))),(5,vi xs.length),(15,vb false)],H:=[],ps:=[] })
 | 0,i,m1,k,h0,hk0,hk1=>by
  refine ⟨m1,?_⟩
  rw [loopC_of _ _ _ _ ha]
  obtain rfl:i=xs.length:=by omega
  have e:ltI k 0=false:=ltI_not.2 hk0
  simp [lp,loopsOf,Tryz.f101,sumOf,e]
 | n+1,i,m1,k,h0,hk0,hk1=>by
  have hlt:i<xs.length:=by omega
  have hw:=wrapN i (by omega)
  have c:=fun m m' hm=>hc m m' xs[i] k hm ⟨hk0,hk1⟩ (hk _ (List.getElem_mem hlt))
  rw [List.drop_eq_getElem_cons hlt,sumOf_cons]
  cases e:ltI (k - size xs[i]) 0
  ·have e':=ltI_not.1 e
   rw [less_pos e] at c
   obtain ⟨me,ih⟩:=lp_laws_szHoldS size ok hc m hm xs hb hk a ha n (i+1) .own (k - size xs[i]) (by omega) (by omega) (by omega)
   refine ⟨me,?_⟩
   have heq:k - ((size xs[i]+sumOf size (xs.drop (i+1)):Nat):Int)=k - size xs[i] - sumOf size (xs.drop (i+1)):=by omega
   rw [heq]
   push_cast at ih
   rw [loopC_of _ _ _ _ ha]
   clear ha
   simp [lp,loopsOf,Tryz.f101,hlt,hw,c,hm,e]
   simpa using ih
  ·have e':=ltI_iff.1 e
   rw [less_neg e] at c
   refine ⟨m1,?_⟩
   rw [if_pos (ltI_iff.2 (by omega))]
   rw [loopC_of _ _ _ _ ha]
   clear ha
   simp [lp,loopsOf,Tryz.f101,hlt,hw,c,hm,e]
theorem ev_laws_szHoldS (size:HoldT→Nat) (ok:HoldT→Prop) (hc:SizedBy E 177 holdL size ok) (m m':M) (hm:m.isOwn=false) (xs:List (HoldT)) (n:Int) (h1:0≤n∧n≤1048576) (hb:xs.length≤9223372036854775807) (hk:∀ x∈xs,ok x):ev E 101 [.v m false [.sl (xs.map holdL)],.v m' false [.int .i64 n]]=some (rI (less n (xs.length+sumOf size xs))):=by
 have hw:IntKind.i64.wrap (n - xs.length)=n - xs.length:=wrap64 (by omega)
 rw [less_add]
 cases e:ltI (n - xs.length) 0
 ·have e':=ltI_not.1 e
  obtain ⟨me,hl⟩:=lp_laws_szHoldS size ok hc m hm xs (by omega) hk _ rfl xs.length 0 .ro (n - xs.length) (by omega) e' (by omega)
  push_cast at hl
  rw [List.drop_zero] at hl
  rw [ev_fn Tryz.f101 rfl Tryz.func101 rfl rfl rfl (Nat.le_of_ble_eq_true rfl)]
  simp [e,hw]
  rw [loopC_at ?_ (by simpa using hl)]
  ·cases e2:ltI (n - xs.length - sumOf size xs) 0<;>simp [less,e2]
  ·rfl
 ·rw [ev_fn Tryz.f101 rfl Tryz.func101 rfl rfl rfl (Nat.le_of_ble_eq_true rfl)]
  simp [e,hw]
theorem lp_laws_szOwnS (size:OwnT→Nat) (ok:OwnT→Prop) (hc:SizedBy E 178 ownL size ok) (m:M) (hm:m.isOwn=false) (xs:List (OwnT)) (hb:xs.length≤4000000) (hk:∀ x∈xs,ok x) (a:Code) (ha:a=lp Tryz.f102 0):∀ (n i:Nat) (m1:M) (k:Int),i+n=xs.length→0≤k→k≤1048576 →
  ∃ me,loopC E (ev E) 102 a { V:=[(0,.v m false [.sl (xs.map ownL)]),(1,vim m1 k),(5,vi i)],H:=[],ps:=[] } =
   if ltI (k - sumOf size (xs.drop i)) 0=true then some (.ret,{ V:=[(4,vi (-1))],H:=[],ps:=[] })
   else some (.exit 0,{ V:=[(0,.v m false [.sl (xs.map ownL)]),(1,vim me (k - sumOf size (xs.drop i))),(5,vi xs.length),(15,vb false)],H:=[],ps:=[] })
 | 0,i,m1,k,h0,hk0,hk1=>by
  refine ⟨m1,?_⟩
  rw [loopC_of _ _ _ _ ha]
  obtain rfl:i=xs.length:=by omega
  have e:ltI k 0=false:=ltI_not.2 hk0
  simp [lp,loopsOf,Tryz.f102,sumOf,e]
 | n+1,i,m1,k,h0,hk0,hk1=>by
  have hlt:i<xs.length:=by omega
  have hw:=wrapN i (by omega)
  have c:=fun m m' hm=>hc m m' xs[i] k hm ⟨hk0,hk1⟩ (hk _ (List.getElem_mem hlt))
  rw [List.drop_eq_getElem_cons hlt,sumOf_cons]
  cases e:ltI (k - size xs[i]) 0
  ·have e':=ltI_not.1 e
   rw [less_pos e] at c
   obtain ⟨me,ih⟩:=lp_laws_szOwnS size ok hc m hm xs hb hk a ha n (i+1) .own (k - size xs[i]) (by omega) (by omega) (by omega)
   refine ⟨me,?_⟩
   have heq:k - ((size xs[i]+sumOf size (xs.drop (i+1)):Nat):Int)=k - size xs[i] - sumOf size (xs.drop (i+1)):=by omega
   rw [heq]
   push_cast at ih
   rw [loopC_of _ _ _ _ ha]
   clear ha
   simp [lp,loopsOf,Tryz.f102,hlt,hw,c,hm,e]
   simpa using ih
  ·have e':=ltI_iff.1 e
   rw [less_neg e] at c
   refine ⟨m1,?_⟩
   rw [if_pos (ltI_iff.2 (by omega))]
   rw [loopC_of _ _ _ _ ha]
   clear ha
   simp [lp,loopsOf,Tryz.f102,hlt,hw,c,hm,e]
theorem ev_laws_szOwnS (size:OwnT→Nat) (ok:OwnT→Prop) (hc:SizedBy E 178 ownL size ok) (m m':M) (hm:m.isOwn=false) (xs:List (OwnT)) (n:Int) (h1:0≤n∧n≤1048576) (hb:xs.length≤9223372036854775807) (hk:∀ x∈xs,ok x):ev E 102 [.v m false [.sl (xs.map ownL)],.v m' false [.int .i64 n]]=some (rI (less n (xs.length+sumOf size xs))):=by
 have hw:IntKind.i64.wrap (n - xs.length)=n - xs.length:=wrap64 (by omega)
 rw [less_add]
 cases e:ltI (n - xs.length) 0
 ·have e':=ltI_not.1 e
  obtain ⟨me,hl⟩:=lp_laws_szOwnS size ok hc m hm xs (by omega) hk _ rfl xs.length 0 .ro (n - xs.length) (by omega) e' (by omega)
  push_cast at hl
  rw [List.drop_zero] at hl
  rw [ev_fn Tryz.f102 rfl Tryz.func102 rfl rfl rfl (Nat.le_of_ble_eq_true rfl)]
  simp [e,hw]
  rw [loopC_at ?_ (by simpa using hl)]
  ·cases e2:ltI (n - xs.length - sumOf size xs) 0<;>simp [less,e2]
  ·rfl
 ·rw [ev_fn Tryz.f102 rfl Tryz.func102 rfl rfl rfl (Nat.le_of_ble_eq_true rfl)]
  simp [e,hw]
end Go.Ev

