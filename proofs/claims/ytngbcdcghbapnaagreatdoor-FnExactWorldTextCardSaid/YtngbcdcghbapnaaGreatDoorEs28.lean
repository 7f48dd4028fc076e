/- My texts joined: EvT54, EvT55, EvT58, EvT79. No condition. -/
import Derived.Test.YtngbcdcghbapnaaGreatDoorEn30
import Derived.Test.YtngbcdcghbapnaaGreatDoorEs26
import Derived.Test.YtngbcdcghbapnaaGreatDoorEs27
set_option linter.unusedVariables false
set_option linter.unusedSimpArgs false

set_option maxRecDepth 100000
set_option maxHeartbeats 4000000
namespace Go.Ev
open Go.Proofs
theorem lp_szStrs (m:M) (xs:List (List UInt8)) (hb:xs.length≤4000000) (hk:∀ x∈xs,x.length≤9223372036854775807) (a:Code) (ha:a=lp Tryz.f176 0):∀ (n i:Nat) (m1:M) (k:Int),i+n=xs.length→0≤k→k≤1048576 →
  ∃ me,loopC E (ev E) 176 a { V:=[(0,.v m false [.sl (strsL xs)]),(1,vim m1 k),(5,vi i)],H:=[],ps:=[] } =
   if ltI (k - sumOf List.length (xs.drop i)) 0=true then some (.ret,{ V:=[(4,vi (-1))],H:=[],ps:=[] })
   else some (.exit 0,{ V:=[(0,.v m false [.sl (strsL xs)]),(1,vim me (k - sumOf List.length (xs.drop i))),(5,vi xs.length),(15,vb false)],H:=[],ps:=[] })
 | 0,i,m1,k,h0,hk0,hk1=>by
  refine ⟨m1,?_⟩
  rw [loopC_of _ _ _ _ ha]
  obtain rfl:i=xs.length:=by omega
  have e:ltI k 0=false:=ltI_not.2 hk0
  simp [lp,loopsOf,Tryz.f176,sumOf,e]
 | n+1,i,m1,k,h0,hk0,hk1=>by
  have hlt:i<xs.length:=by omega
  have hw:=wrapN i (by omega)
  have hx:=hk _ (List.getElem_mem hlt)
  have hw2:IntKind.i64.wrap (k - xs[i].length)=k - xs[i].length:=wrap64 (by omega)
  rw [List.drop_eq_getElem_cons hlt,sumOf_cons]
  cases e:ltI (k - xs[i].length) 0
  ·have e':=ltI_not.1 e
   obtain ⟨me,ih⟩:=lp_szStrs m xs hb hk a ha n (i+1) .ro (k - xs[i].length) (by omega) (by omega) (by omega)
   refine ⟨me,?_⟩
   have heq:k - ((xs[i].length+sumOf List.length (xs.drop (i+1)):Nat):Int)=k - xs[i].length - sumOf List.length (xs.drop (i+1)):=by omega
   rw [heq]
   push_cast at ih
   rw [loopC_of _ _ _ _ ha]
   clear ha
   simp [lp,loopsOf,Tryz.f176,hlt,hw,hw2,e]
   simpa using ih
  ·have e':=ltI_iff.1 e
   refine ⟨m1,?_⟩
   rw [if_pos (ltI_iff.2 (by omega))]
   rw [loopC_of _ _ _ _ ha]
   clear ha
   simp [lp,loopsOf,Tryz.f176,hlt,hw,hw2,e]
def strsSz (xs:List (List UInt8)):Nat:=xs.length+sumOf List.length xs
theorem ev_szStrs (m m':M) (xs:List (List UInt8)) (n:Int) (h1:0≤n∧n≤1048576) (hb:xs.length≤9223372036854775807) (hk:∀ x∈xs,x.length≤9223372036854775807):ev E 176 [.v m false [.sl (strsL xs)],.v m' false [.int .i64 n]]=some (rI (less n (strsSz xs))):=by
 have hw:IntKind.i64.wrap (n - xs.length)=n - xs.length:=wrap64 (by omega)
 unfold strsSz
 rw [less_add]
 cases e:ltI (n - xs.length) 0
 ·have e':=ltI_not.1 e
  obtain ⟨me,hl⟩:=lp_szStrs m xs (by omega) hk _ rfl xs.length 0 .ro (n - xs.length) (by omega) e' (by omega)
  push_cast at hl
  rw [List.drop_zero] at hl
  rw [ev_fn Tryz.f176 rfl Tryz.func176 rfl rfl rfl (Nat.le_of_ble_eq_true rfl)]
  simp [e,hw]
  rw [loopC_at ?_ (by simpa using hl)]
  ·cases e2:ltI (n - xs.length - sumOf List.length xs) 0<;>simp [less,e2]
  ·rfl
 ·rw [ev_fn Tryz.f176 rfl Tryz.func176 rfl rfl rfl (Nat.le_of_ble_eq_true rfl)]
  simp [e,hw]
def M63 (n:Nat):Prop:=n≤9223372036854775807
theorem sz_Req:SizedBy E 179 reqL (fun q=>q.data.length) (fun q=>M63 q.data.length):=fun m m' q n hm h1 hx=>by
 have hx:q.data.length≤9223372036854775807:=hx
 have hw:IntKind.i64.wrap (n - q.data.length)=n - q.data.length:=wrap64 (by omega)
 rw [ev_fn Tryz.f179 rfl Tryz.func179 rfl rfl rfl (Nat.le_of_ble_eq_true rfl)]
 cases e:ltI (n - q.data.length) 0<;>simp [e,hw,less]
def holdM (h:HoldT):Prop:=M63 h.r.length∧M63 h.w.length
def ownM (o:OwnT):Prop:=M63 o.t.length∧M63 o.h.length∧M63 o.d.length
def holdSz (h:HoldT):Nat:=h.r.length+h.w.length
def ownSz (o:OwnT):Nat:=o.t.length+(o.h.length+o.d.length)
def reqsSz (xs:List ReqT):Nat:=xs.length+sumOf (fun q=>q.data.length) xs
def holdsSz (xs:List HoldT):Nat:=xs.length+sumOf holdSz xs
def ownsSz (xs:List OwnT):Nat:=xs.length+sumOf ownSz xs
def storeSz (s:StoreT):Nat:=strsSz s.now+(strsSz s.sure+(s.last.length+(s.slast.length+s.floors.length)))
def worldSz (w:WorldT):Nat:=storeSz w.st+(holdsSz w.locks+(ownsSz w.owns+(w.epochs.length+(w.alive.length+(reqsSz w.kept+reqsSz w.late)))))
def strsM (xs:List (List UInt8)):Prop:=M63 xs.length∧∀ x∈xs,x.length≤9223372036854775807
def storeM (s:StoreT):Prop:=strsM s.now∧strsM s.sure∧M63 s.last.length∧M63 s.slast.length∧M63 s.floors.length
def worldM (w:WorldT):Prop:=storeM w.st∧(M63 w.locks.length∧∀ h∈w.locks,holdM h)∧(M63 w.owns.length∧∀ o∈w.owns,ownM o)∧M63 w.epochs.length∧M63 w.alive.length∧(M63 w.kept.length∧∀ q∈w.kept,M63 q.data.length)∧(M63 w.late.length∧∀ q∈w.late,M63 q.data.length)
theorem sz_Hold:SizedBy E 177 holdL holdSz holdM:=fun m m' h n hm h1 hx=>by
 unfold holdSz
 have d0:=fun m m'=>ev_laws_szSpanS m m' h.r n (by omega) hx.1
 rw [less_add]
 cases e0:ltI (n - (h.r.length:Nat)) 0
 case true =>
  rw [less_neg e0] at d0
  rw [ev_fn Tryz.f177 rfl Tryz.func177 rfl rfl rfl (Nat.le_of_ble_eq_true rfl)]
  simp [d0,e0,hm]
 rw [less_pos e0] at d0
 have g0:=ltI_not.1 e0
 have d1:=fun m m'=>ev_laws_szSpanS m m' h.w (n - h.r.length) (by omega) hx.2
 cases e1:ltI (n - (h.r.length:Nat) - (h.w.length:Nat)) 0
 ·rw [less_pos e1] at d1 ⊢
  rw [ev_fn Tryz.f177 rfl Tryz.func177 rfl rfl rfl (Nat.le_of_ble_eq_true rfl)]
  simp [d0,d1,e0,e1,hm]
 ·rw [less_neg e1] at d1 ⊢
  rw [ev_fn Tryz.f177 rfl Tryz.func177 rfl rfl rfl (Nat.le_of_ble_eq_true rfl)]
  simp [d0,d1,e0,e1,hm]
theorem sz_Own:SizedBy E 178 ownL ownSz ownM:=fun m m' o n hm h1 hx=>by
 unfold ownSz
 have hx1:o.t.length≤9223372036854775807:=hx.1
 have hw:IntKind.i64.wrap (n - o.t.length)=n - o.t.length:=wrap64 (by omega)
 rw [less_add]
 cases e0:ltI (n - (o.t.length:Nat)) 0
 case true =>
  rw [ev_fn Tryz.f178 rfl Tryz.func178 rfl rfl rfl (Nat.le_of_ble_eq_true rfl)]
  simp [e0,hw]
 have g0:=ltI_not.1 e0
 have d1:=fun m m'=>ev_laws_szSpanS m m' o.h (n - o.t.length) (by omega) hx.2.1
 rw [less_add]
 cases e1:ltI (n - o.t.length - (o.h.length:Nat)) 0
 case true =>
  rw [less_neg e1] at d1
  rw [ev_fn Tryz.f178 rfl Tryz.func178 rfl rfl rfl (Nat.le_of_ble_eq_true rfl)]
  simp [e0,e1,hw,d1,hm]
 rw [less_pos e1] at d1
 have g1:=ltI_not.1 e1
 have d2:=fun m m'=>ev_laws_szSpanS m m' o.d (n - o.t.length - o.h.length) (by omega) hx.2.2
 cases e2:ltI (n - o.t.length - o.h.length - (o.d.length:Nat)) 0
 ·rw [less_pos e2] at d2 ⊢
  rw [ev_fn Tryz.f178 rfl Tryz.func178 rfl rfl rfl (Nat.le_of_ble_eq_true rfl)]
  simp [e0,e1,e2,hw,d1,d2,hm]
 ·rw [less_neg e2] at d2 ⊢
  rw [ev_fn Tryz.f178 rfl Tryz.func178 rfl rfl rfl (Nat.le_of_ble_eq_true rfl)]
  simp [e0,e1,e2,hw,d1,d2,hm]
theorem ev_szReqs (m m':M) (hm:m.isOwn=false) (xs:List ReqT) (n:Int) (h1:0≤n∧n≤1048576) (hb:M63 xs.length) (hk:∀ x∈xs,M63 x.data.length):ev E 105 [.v m false [.sl (xs.map reqL)],.v m' false [.int .i64 n]]=some (rI (less n (reqsSz xs))):=ev_laws_szReqS _ _ sz_Req m m' hm xs n h1 hb hk
theorem ev_szHolds (m m':M) (hm:m.isOwn=false) (xs:List HoldT) (n:Int) (h1:0≤n∧n≤1048576) (hb:M63 xs.length) (hk:∀ x∈xs,holdM x):ev E 101 [.v m false [.sl (xs.map holdL)],.v m' false [.int .i64 n]]=some (rI (less n (holdsSz xs))):=ev_laws_szHoldS _ _ sz_Hold m m' hm xs n h1 hb hk
theorem ev_szOwns (m m':M) (hm:m.isOwn=false) (xs:List OwnT) (n:Int) (h1:0≤n∧n≤1048576) (hb:M63 xs.length) (hk:∀ x∈xs,ownM x):ev E 102 [.v m false [.sl (xs.map ownL)],.v m' false [.int .i64 n]]=some (rI (less n (ownsSz xs))):=ev_laws_szOwnS _ _ sz_Own m m' hm xs n h1 hb hk
theorem ev_szStore (m m':M) (hm:m.isOwn=false) (s:StoreT) (n:Int) (h1:0≤n∧n≤1048576) (hx:storeM s):ev E 100 [.v m true (storeL s),.v m' false [.int .i64 n]]=some (rI (less n (storeSz s))):=by
 unfold storeSz
 have d0:=fun m m'=>ev_szStrs m m' s.now n (by omega) hx.1.1 hx.1.2
 rw [less_add]
 cases e0:ltI (n - (strsSz s.now:Nat)) 0
 case true =>
  rw [less_neg e0] at d0
  rw [ev_fn Tryz.f100 rfl Tryz.func100 rfl rfl rfl (Nat.le_of_ble_eq_true rfl)]
  simp [d0,e0,hm]
 rw [less_pos e0] at d0
 have g0:=ltI_not.1 e0
 have d1:=fun m m'=>ev_szStrs m m' s.sure (n - strsSz s.now) (by omega) hx.2.1.1 hx.2.1.2
 rw [less_add]
 cases e1:ltI (n - (strsSz s.now:Nat) - (strsSz s.sure:Nat)) 0
 case true =>
  rw [less_neg e1] at d1
  rw [ev_fn Tryz.f100 rfl Tryz.func100 rfl rfl rfl (Nat.le_of_ble_eq_true rfl)]
  simp [d0,d1,e0,e1,hm]
 rw [less_pos e1] at d1
 have g1:=ltI_not.1 e1
 have d2:=fun m m'=>ev_laws_szIntS m m' s.last (n - strsSz s.now - strsSz s.sure) (by omega) hx.2.2.1
 rw [less_add]
 cases e2:ltI (n - (strsSz s.now:Nat) - (strsSz s.sure:Nat) - (s.last.length:Nat)) 0
 case true =>
  rw [less_neg e2] at d2
  rw [ev_fn Tryz.f100 rfl Tryz.func100 rfl rfl rfl (Nat.le_of_ble_eq_true rfl)]
  simp [d0,d1,d2,e0,e1,e2,hm]
 rw [less_pos e2] at d2
 have g2:=ltI_not.1 e2
 have d3:=fun m m'=>ev_laws_szIntS m m' s.slast (n - strsSz s.now - strsSz s.sure - s.last.length) (by omega) hx.2.2.2.1
 rw [less_add]
 cases e3:ltI (n - (strsSz s.now:Nat) - (strsSz s.sure:Nat) - (s.last.length:Nat) - (s.slast.length:Nat)) 0
 case true =>
  rw [less_neg e3] at d3
  rw [ev_fn Tryz.f100 rfl Tryz.func100 rfl rfl rfl (Nat.le_of_ble_eq_true rfl)]
  simp [d0,d1,d2,d3,e0,e1,e2,e3,hm]
 rw [less_pos e3] at d3
 have g3:=ltI_not.1 e3
 have d4:=fun m m'=>ev_laws_szIntS m m' s.floors (n - strsSz s.now - strsSz s.sure - s.last.length - s.slast.length) (by omega) hx.2.2.2.2
 cases e4:ltI (n - (strsSz s.now:Nat) - (strsSz s.sure:Nat) - (s.last.length:Nat) - (s.slast.length:Nat) - (s.floors.length:Nat)) 0
 ·rw [less_pos e4] at d4 ⊢
  rw [ev_fn Tryz.f100 rfl Tryz.func100 rfl rfl rfl (Nat.le_of_ble_eq_true rfl)]
  simp [d0,d1,d2,d3,d4,e0,e1,e2,e3,e4,hm]
 ·rw [less_neg e4] at d4 ⊢
  rw [ev_fn Tryz.f100 rfl Tryz.func100 rfl rfl rfl (Nat.le_of_ble_eq_true rfl)]
  simp [d0,d1,d2,d3,d4,e0,e1,e2,e3,e4,hm]
theorem ev_szWorld (m m':M) (hm:m.isOwn=false) (w:WorldT) (n:Int) (h1:0≤n∧n≤1048576) (hx:worldM w):ev E 40 [.v m true (worldL w),.v m' false [.int .i64 n]]=some (rI (less n (worldSz w))):=by
 unfold worldSz
 have d0:=fun m m' hm=>ev_szStore m m' hm w.st n (by omega) hx.1
 rw [less_add]
 cases e0:ltI (n - (storeSz w.st:Nat)) 0
 case true =>
  rw [less_neg e0] at d0
  rw [ev_fn Tryz.f40 rfl Tryz.func40 rfl rfl rfl (Nat.le_of_ble_eq_true rfl)]
  simp [d0,e0,hm]
 rw [less_pos e0] at d0
 have g0:=ltI_not.1 e0
 have d1:=fun m m' hm=>ev_szHolds m m' hm w.locks (n - storeSz w.st) (by omega) hx.2.1.1 hx.2.1.2
 rw [less_add]
 cases e1:ltI (n - (storeSz w.st:Nat) - (holdsSz w.locks:Nat)) 0
 case true =>
  rw [less_neg e1] at d1
  rw [ev_fn Tryz.f40 rfl Tryz.func40 rfl rfl rfl (Nat.le_of_ble_eq_true rfl)]
  simp [d0,d1,e0,e1,hm]
 rw [less_pos e1] at d1
 have g1:=ltI_not.1 e1
 have d2:=fun m m' hm=>ev_szOwns m m' hm w.owns (n - storeSz w.st - holdsSz w.locks) (by omega) hx.2.2.1.1 hx.2.2.1.2
 rw [less_add]
 cases e2:ltI (n - (storeSz w.st:Nat) - (holdsSz w.locks:Nat) - (ownsSz w.owns:Nat)) 0
 case true =>
  rw [less_neg e2] at d2
  rw [ev_fn Tryz.f40 rfl Tryz.func40 rfl rfl rfl (Nat.le_of_ble_eq_true rfl)]
  simp [d0,d1,d2,e0,e1,e2,hm]
 rw [less_pos e2] at d2
 have g2:=ltI_not.1 e2
 have d3:=fun m m'=>ev_laws_szIntS m m' w.epochs (n - storeSz w.st - holdsSz w.locks - ownsSz w.owns) (by omega) hx.2.2.2.1
 rw [less_add]
 cases e3:ltI (n - (storeSz w.st:Nat) - (holdsSz w.locks:Nat) - (ownsSz w.owns:Nat) - (w.epochs.length:Nat)) 0
 case true =>
  rw [less_neg e3] at d3
  rw [ev_fn Tryz.f40 rfl Tryz.func40 rfl rfl rfl (Nat.le_of_ble_eq_true rfl)]
  simp [d0,d1,d2,d3,e0,e1,e2,e3,hm]
 rw [less_pos e3] at d3
 have g3:=ltI_not.1 e3
 have d4:=fun m m'=>ev_laws_szBoolS m m' w.alive (n - storeSz w.st - holdsSz w.locks - ownsSz w.owns - w.epochs.length) (by omega) hx.2.2.2.2.1
 rw [less_add]
 cases e4:ltI (n - (storeSz w.st:Nat) - (holdsSz w.locks:Nat) - (ownsSz w.owns:Nat) - (w.epochs.length:Nat) - (w.alive.length:Nat)) 0
 case true =>
  rw [less_neg e4] at d4
  rw [ev_fn Tryz.f40 rfl Tryz.func40 rfl rfl rfl (Nat.le_of_ble_eq_true rfl)]
  simp [d0,d1,d2,d3,d4,e0,e1,e2,e3,e4,hm]
 rw [less_pos e4] at d4
 have g4:=ltI_not.1 e4
 have d5:=fun m m' hm=>ev_szReqs m m' hm w.kept (n - storeSz w.st - holdsSz w.locks - ownsSz w.owns - w.epochs.length - w.alive.length) (by omega) hx.2.2.2.2.2.1.1 hx.2.2.2.2.2.1.2
 rw [less_add]
 cases e5:ltI (n - (storeSz w.st:Nat) - (holdsSz w.locks:Nat) - (ownsSz w.owns:Nat) - (w.epochs.length:Nat) - (w.alive.length:Nat) - (reqsSz w.kept:Nat)) 0
 case true =>
  rw [less_neg e5] at d5
  rw [ev_fn Tryz.f40 rfl Tryz.func40 rfl rfl rfl (Nat.le_of_ble_eq_true rfl)]
  simp [d0,d1,d2,d3,d4,d5,e0,e1,e2,e3,e4,e5,hm]
 rw [less_pos e5] at d5
 have g5:=ltI_not.1 e5
 have d6:=fun m m' hm=>ev_szReqs m m' hm w.late (n - storeSz w.st - holdsSz w.locks - ownsSz w.owns - w.epochs.length - w.alive.length - reqsSz w.kept) (by omega) hx.2.2.2.2.2.2.1 hx.2.2.2.2.2.2.2
 cases e6:ltI (n - (storeSz w.st:Nat) - (holdsSz w.locks:Nat) - (ownsSz w.owns:Nat) - (w.epochs.length:Nat) - (w.alive.length:Nat) - (reqsSz w.kept:Nat) - (reqsSz w.late:Nat)) 0
 ·rw [less_pos e6] at d6 ⊢
  rw [ev_fn Tryz.f40 rfl Tryz.func40 rfl rfl rfl (Nat.le_of_ble_eq_true rfl)]
  simp [d0,d1,d2,d3,d4,d5,d6,e0,e1,e2,e3,e4,e5,e6,hm]
 ·rw [less_neg e6] at d6 ⊢
  rw [ev_fn Tryz.f40 rfl Tryz.func40 rfl rfl rfl (Nat.le_of_ble_eq_true rfl)]
  simp [d0,d1,d2,d3,d4,d5,d6,e0,e1,e2,e3,e4,e5,e6,hm]
set_option maxRecDepth 100000
set_option maxHeartbeats 4000000
theorem ev_toStore (m:M) (hm:m.isOwn=false) (s:StoreT) (b:StoreB s):ev E 107 [.v m true (storeL s)]=some { rs:=[.v .own true (storeL s)],outs:=[] }:=by
 have c1:=fun m=>ev_laws_toStringS m s.now b.now
 have c2:=fun m=>ev_laws_toStringS m s.sure b.sure
 have c3:=fun m=>ev_laws_toIntS m s.last b.last
 have c4:=fun m=>ev_laws_toIntS m s.slast b.slast
 have c5:=fun m=>ev_laws_toIntS m s.floors b.floors
 rw [ev_fn Tryz.f107 rfl Tryz.func107 rfl rfl rfl (Nat.le_of_ble_eq_true rfl)]
 simp [c1,c2,c3,c4,c5,hm]
theorem ev_toHolds (m:M) (hm:m.isOwn=false) (xs:List HoldT) (hb:xs.length≤4000000) (hk:∀ h∈xs,holdB h):ev E 108 [.v m false [.sl (xs.map holdL)]]=some { rs:=[.v .own false [.sl (xs.map holdL)]],outs:=[] }:=ev_laws_toHoldS _ tk_Hold m hm xs hb hk
theorem ev_toOwns (m:M) (hm:m.isOwn=false) (xs:List OwnT) (hb:xs.length≤4000000) (hk:∀ h∈xs,ownB h):ev E 109 [.v m false [.sl (xs.map ownL)]]=some { rs:=[.v .own false [.sl (xs.map ownL)]],outs:=[] }:=ev_laws_toOwnS _ tk_Own m hm xs hb hk
theorem ev_toWorld (m:M) (hm:m.isOwn=false) (w:WorldT) (b:WorldB w):ev E 41 [.v m true (worldL w)]=some { rs:=[.v .own true (worldL w)],outs:=[] }:=by
 have c0:=fun m=>ev_toLay m w.size w.many
 have c1:=fun m hm=>ev_toStore m hm w.st b.st
 have c2:=fun m hm=>ev_toHolds m hm w.locks b.locks b.holds
 have c3:=fun m hm=>ev_toOwns m hm w.owns b.owns b.owned
 have c4:=fun m=>ev_laws_toIntS m w.epochs b.epochs
 have c5:=fun m=>ev_laws_toBoolS m w.alive b.alive
 have c6:=fun m hm=>ev_toReqs m hm w.kept b.kept
 have c7:=fun m hm=>ev_toReqs m hm w.late b.late
 rw [ev_fn Tryz.f41 rfl Tryz.func41 rfl rfl rfl (Nat.le_of_ble_eq_true rfl)]
 simp [c0,c1,c2,c3,c4,c5,c6,c7,hm]
theorem ev_eqLay (m m':M) (a b:Int):ev E 113 [.v m true [.int .i64 a,.int .i64 b],.v m' true [.int .i64 a,.int .i64 b]]=some (rB true):=by
 rw [ev_fn Tryz.f113 rfl Tryz.func113 rfl rfl rfl (Nat.le_of_ble_eq_true rfl)]
 simp
theorem ev_eqStore (m m':M) (hm:m.isOwn=false) (hm':m'.isOwn=false) (s:StoreT) (b:StoreB s):ev E 114 [.v m true (storeL s),.v m' true (storeL s)]=some (rB true):=by
 have c1:=fun m m'=>ev_laws_eqStringS m m' s.now b.now
 have c2:=fun m m'=>ev_laws_eqStringS m m' s.sure b.sure
 have c3:=fun m m'=>ev_laws_eqIntS m m' s.last b.last
 have c4:=fun m m'=>ev_laws_eqIntS m m' s.slast b.slast
 have c5:=fun m m'=>ev_laws_eqIntS m m' s.floors b.floors
 rw [ev_fn Tryz.f114 rfl Tryz.func114 rfl rfl rfl (Nat.le_of_ble_eq_true rfl)]
 simp [c1,c2,c3,c4,c5,hm,hm']
theorem ev_eqHolds (m m':M) (hm:m.isOwn=false) (hm':m'.isOwn=false) (xs:List HoldT) (hb:xs.length≤4000000) (hk:∀ h∈xs,holdB h):ev E 115 [.v m false [.sl (xs.map holdL)],.v m' false [.sl (xs.map holdL)]]=some (rB true):=ev_laws_eqHoldS _ sm_Hold m m' hm hm' xs hb hk
theorem ev_eqOwns (m m':M) (hm:m.isOwn=false) (hm':m'.isOwn=false) (xs:List OwnT) (hb:xs.length≤4000000) (hk:∀ h∈xs,ownB h):ev E 116 [.v m false [.sl (xs.map ownL)],.v m' false [.sl (xs.map ownL)]]=some (rB true):=ev_laws_eqOwnS _ sm_Own m m' hm hm' xs hb hk
theorem ev_eqWorld (m m':M) (hm:m.isOwn=false) (hm':m'.isOwn=false) (w:WorldT) (b:WorldB w):ev E 42 [.v m true (worldL w),.v m' true (worldL w)]=some (rB true):=by
 have c0:=fun m m'=>ev_eqLay m m' w.size w.many
 have c1:=fun m m' hm hm'=>ev_eqStore m m' hm hm' w.st b.st
 have c2:=fun m m' hm hm'=>ev_eqHolds m m' hm hm' w.locks b.locks b.holds
 have c3:=fun m m' hm hm'=>ev_eqOwns m m' hm hm' w.owns b.owns b.owned
 have c4:=fun m m'=>ev_laws_eqIntS m m' w.epochs b.epochs
 have c5:=fun m m'=>ev_laws_eqBoolS m m' w.alive b.alive
 have c6:=fun m m' hm hm'=>ev_eqReqs m m' hm hm' w.kept b.kept
 have c7:=fun m m' hm hm'=>ev_eqReqs m m' hm hm' w.late b.late
 rw [ev_fn Tryz.f42 rfl Tryz.func42 rfl rfl rfl (Nat.le_of_ble_eq_true rfl)]
 simp [c0,c1,c2,c3,c4,c5,c6,c7,hm,hm']
set_option maxRecDepth 100000
set_option maxHeartbeats 8000000
theorem sumOf_mem {α:Type} {size:α→Nat} {x:α}:∀ {xs:List α},x∈xs→size x≤sumOf size xs
 | [],h=>by simp at h
 | y::ys,h=>by
  rw [sumOf_cons]
  rcases List.mem_cons.1 h with rfl | h
  ·omega
  ·have:=sumOf_mem (size:=size) h
   omega
theorem worldB_of {w:WorldT} {n:Nat} (h:worldSz w≤n) (hn:n≤1048576):WorldB w:=by
 simp only [worldSz,storeSz,strsSz,holdsSz,ownsSz,reqsSz] at h
 refine ⟨⟨by omega,by omega,by omega,by omega,by omega⟩,by omega,fun q hq=>?_,by omega,fun q hq=>?_,by omega,by omega,by omega,by omega⟩
 ·have:=sumOf_mem (size:=holdSz) hq
  simp only [holdSz] at this
  exact ⟨by omega,by omega⟩
 ·have:=sumOf_mem (size:=ownSz) hq
  simp only [ownSz] at this
  exact ⟨by omega,by omega⟩
set_option maxRecDepth 100000
set_option maxHeartbeats 4000000
theorem worldC_of {w:WorldT} {n:Nat} (h:worldSz w≤n) (hn:n≤1048576):WorldC w:=by
 have B:=worldB_of h hn
 simp only [worldSz,storeSz,strsSz,holdsSz,ownsSz,reqsSz] at h
 refine ⟨B,⟨B.st,fun x hx=>?_,fun x hx=>?_⟩,fun q hq=>?_,fun q hq=>?_,fun q hq=>?_⟩
 ·have:=sumOf_mem (size:=List.length) hx
  omega
 ·have:=sumOf_mem (size:=List.length) hx
  omega
 ·have:=sumOf_mem (size:=ownSz) hq
  simp only [ownSz] at this
  omega
 ·have:=sumOf_mem (size:=fun q:ReqT=>q.data.length) hq
  omega
 ·have:=sumOf_mem (size:=fun q:ReqT=>q.data.length) hq
  omega
end Go.Ev

