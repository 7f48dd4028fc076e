/- My texts joined: EvT56, EvT57. No condition. -/
import Derived.Test.YtngbcdcghbapnaaGreatDoorEn1
import Derived.Test.YtngbcdcghbapnaaGreatDoorEn2
import Derived.Test.YtngbcdcghbapnaaGreatDoorEn5
import Derived.Test.YtngbcdcghbapnaaGreatDoorEn6
import Derived.Test.YtngbcdcghbapnaaGreatDoorEn7
import Derived.Test.YtngbcdcghbapnaaGreatDoorEn8
import Derived.Test.YtngbcdcghbapnaaGreatDoorEn9
import Derived.Test.YtngbcdcghbapnaaGreatDoorEn11
import Derived.Test.YtngbcdcghbapnaaGreatDoorEn12
import Derived.Test.YtngbcdcghbapnaaGreatDoorEn13
import Derived.Test.YtngbcdcghbapnaaGreatDoorEn14
import Derived.Test.YtngbcdcghbapnaaGreatDoorEn16
import Derived.Test.YtngbcdcghbapnaaGreatDoorEn18
set_option linter.unusedVariables false
set_option linter.unusedSimpArgs false

set_option maxRecDepth 100000
set_option maxHeartbeats 4000000
namespace Go.Ev
open Go.Proofs
def eqL {α:Type} (c:α→α→Bool):List α→List α→Bool
 | [],[]=>true
 | x::xs,y::ys=>c x y&&eqL c xs ys
 | _,_=>false
theorem eqL_dec {α:Type} [DecidableEq α] {c:α→α→Bool} (hc:∀ x y,c x y=true↔x=y):∀ (xs ys:List α),eqL c xs ys=decide (xs=ys)
 | [],[]=>rfl
 | [],y::ys=>rfl
 | x::xs,[]=>rfl
 | x::xs,y::ys=>by
  rw [eqL,eqL_dec hc xs ys,Bool.eq_iff_iff]
  simp only [Bool.and_eq_true,hc,decide_eq_true_eq,List.cons.injEq]
theorem eqL_drop {α:Type} {c:α→α→Bool} {xs ys:List α} {i:Nat} (hx:i<xs.length) (hy:i<ys.length):eqL c (xs.drop i) (ys.drop i)=(c xs[i] ys[i]&&eqL c (xs.drop (i+1)) (ys.drop (i+1))):=by
 rw [List.drop_eq_getElem_cons hx,List.drop_eq_getElem_cons hy,eqL]
theorem eqL_end {α:Type} {c:α→α→Bool} {xs ys:List α} {i:Nat} (hx:xs.length≤i) (hy:ys.length≤i):eqL c (xs.drop i) (ys.drop i)=true:=by
 rw [List.drop_of_length_le hx,List.drop_of_length_le hy,eqL]
theorem eqL_len {α:Type} {c:α→α→Bool}:∀ (xs ys:List α),xs.length≠ys.length→eqL c xs ys=false
 | [],[],h=>by simp at h
 | [],y::ys,_=>rfl
 | x::xs,[],_=>rfl
 | x::xs,y::ys,h=>by
  rw [eqL,eqL_len xs ys (by simpa using h),Bool.and_false]
def sameReq (a b:ReqT):Bool:=eqI a.who b.who&&(eqI a.epoch b.epoch&&(eqI a.num b.num&&(eqI a.obj b.obj&&(eqI a.pos b.pos&&eqS a.data b.data))))
def sameSp (a b:Sp):Bool:=eqI a.1 b.1&&eqI a.2 b.2
def sameB (a b:Bool):Bool:=a==b
@[simp] theorem eqAgg_Req:eqAgg Tryz.prog 59=true:=by kernel_rfl
theorem lp_Eints (m m':M) (xs ys:List (Int)) (hl:xs.length=ys.length) (hb:ys.length≤1099511627776) (a:Code) (ha:a=lp Tryz.f58 0):∀ (n i:Nat),i+n=ys.length →
  loopC E (ev E) 58 a { V:=[(0,.v m false [.sl (xs.map (fun n:Int=>[L.int .i64 n]))]),(1,.v m' false [.sl (ys.map (fun n:Int=>[L.int .i64 n]))]),(12,vi ys.length),(13,vi i)],H:=[],ps:=[] } =
   if eqL eqI (xs.drop i) (ys.drop i)=true then some (.exit 0,{ V:=[(0,.v m false [.sl (xs.map (fun n:Int=>[L.int .i64 n]))]),(1,.v m' false [.sl (ys.map (fun n:Int=>[L.int .i64 n]))]),(12,vi ys.length),(13,vi ys.length),(14,vb false)],H:=[],ps:=[] })
   else some (.ret,{ V:=[(4,vb false)],H:=[],ps:=[] })
 | 0,i,h=>by
  rw [loopC_of _ _ _ _ ha,eqL_end (by omega) (by omega)]
  obtain rfl:i=ys.length:=by omega
  simp [lp,loopsOf,Tryz.f58]
 | n+1,i,h=>by
  have hlt:i<ys.length:=by omega
  have hlx:i<xs.length:=by omega
  have ih:=lp_Eints m m' xs ys hl hb a ha n (i+1) (by omega)
  push_cast at ih
  have hw:=wrapN i (by omega)
  rw [loopC_of _ _ _ _ ha,eqL_drop hlx hlt]
  clear ha
  generalize eqL eqI (xs.drop (i+1)) (ys.drop (i+1))=r at ih ⊢
  cases e:eqI xs[i] ys[i]<;>(try simp only [sameReq,sameB] at e)<;>simp [lp,loopsOf,Tryz.f58,hlt,hlx,hw,e,ih]
theorem ev_Eints (m m':M) (xs ys:List (Int)) (hb:ys.length≤1099511627776):ev E 58 [.v m false [.sl (xs.map (fun n:Int=>[L.int .i64 n]))],.v m' false [.sl (ys.map (fun n:Int=>[L.int .i64 n]))]]=some (rB (eqL eqI xs ys)):=by
 rw [ev_fn Tryz.f58 rfl Tryz.func58 rfl rfl rfl (Nat.le_of_ble_eq_true rfl)]
 by_cases h:xs.length=ys.length
 ·have hl:=fun a ha=>lp_Eints m m' xs ys h hb a ha ys.length 0 (by omega)
  push_cast at hl
  simp only [List.drop_zero] at hl
  simp [h]
  rw [hl _ ?_]
  ·cases eqL eqI xs ys<;>simp
  ·rfl
 ·have e2:eqI xs.length ys.length=false:=by simp [eqI];omega
  rw [eqL_len xs ys h]
  simp [e2]
theorem lp_Estrs (m m':M) (xs ys:List (List UInt8)) (hl:xs.length=ys.length) (hb:ys.length≤1099511627776) (a:Code) (ha:a=lp Tryz.f74 0):∀ (n i:Nat),i+n=ys.length →
  loopC E (ev E) 74 a { V:=[(0,.v m false [.sl (xs.map (fun s:List UInt8=>[L.str s]))]),(1,.v m' false [.sl (ys.map (fun s:List UInt8=>[L.str s]))]),(12,vi ys.length),(13,vi i)],H:=[],ps:=[] } =
   if eqL eqS (xs.drop i) (ys.drop i)=true then some (.exit 0,{ V:=[(0,.v m false [.sl (xs.map (fun s:List UInt8=>[L.str s]))]),(1,.v m' false [.sl (ys.map (fun s:List UInt8=>[L.str s]))]),(12,vi ys.length),(13,vi ys.length),(14,vb false)],H:=[],ps:=[] })
   else some (.ret,{ V:=[(4,vb false)],H:=[],ps:=[] })
 | 0,i,h=>by
  rw [loopC_of _ _ _ _ ha,eqL_end (by omega) (by omega)]
  obtain rfl:i=ys.length:=by omega
  simp [lp,loopsOf,Tryz.f74]
 | n+1,i,h=>by
  have hlt:i<ys.length:=by omega
  have hlx:i<xs.length:=by omega
  have ih:=lp_Estrs m m' xs ys hl hb a ha n (i+1) (by omega)
  push_cast at ih
  have hw:=wrapN i (by omega)
  rw [loopC_of _ _ _ _ ha,eqL_drop hlx hlt]
  clear ha
  generalize eqL eqS (xs.drop (i+1)) (ys.drop (i+1))=r at ih ⊢
  cases e:eqS xs[i] ys[i]<;>(try simp only [sameReq,sameB] at e)<;>simp [lp,loopsOf,Tryz.f74,hlt,hlx,hw,e,ih]
theorem ev_Estrs (m m':M) (xs ys:List (List UInt8)) (hb:ys.length≤1099511627776):ev E 74 [.v m false [.sl (xs.map (fun s:List UInt8=>[L.str s]))],.v m' false [.sl (ys.map (fun s:List UInt8=>[L.str s]))]]=some (rB (eqL eqS xs ys)):=by
 rw [ev_fn Tryz.f74 rfl Tryz.func74 rfl rfl rfl (Nat.le_of_ble_eq_true rfl)]
 by_cases h:xs.length=ys.length
 ·have hl:=fun a ha=>lp_Estrs m m' xs ys h hb a ha ys.length 0 (by omega)
  push_cast at hl
  simp only [List.drop_zero] at hl
  simp [h]
  rw [hl _ ?_]
  ·cases eqL eqS xs ys<;>simp
  ·rfl
 ·have e2:eqI xs.length ys.length=false:=by simp [eqI];omega
  rw [eqL_len xs ys h]
  simp [e2]
theorem lp_Ereqs (m m':M) (xs ys:List (ReqT)) (hl:xs.length=ys.length) (hb:ys.length≤1099511627776) (a:Code) (ha:a=lp Tryz.f60 0):∀ (n i:Nat),i+n=ys.length →
  loopC E (ev E) 60 a { V:=[(0,.v m false [.sl (xs.map reqL)]),(1,.v m' false [.sl (ys.map reqL)]),(12,vi ys.length),(13,vi i)],H:=[],ps:=[] } =
   if eqL sameReq (xs.drop i) (ys.drop i)=true then some (.exit 0,{ V:=[(0,.v m false [.sl (xs.map reqL)]),(1,.v m' false [.sl (ys.map reqL)]),(12,vi ys.length),(13,vi ys.length),(14,vb false)],H:=[],ps:=[] })
   else some (.ret,{ V:=[(4,vb false)],H:=[],ps:=[] })
 | 0,i,h=>by
  rw [loopC_of _ _ _ _ ha,eqL_end (by omega) (by omega)]
  obtain rfl:i=ys.length:=by omega
  simp [lp,loopsOf,Tryz.f60]
 | n+1,i,h=>by
  have hlt:i<ys.length:=by omega
  have hlx:i<xs.length:=by omega
  have ih:=lp_Ereqs m m' xs ys hl hb a ha n (i+1) (by omega)
  push_cast at ih
  have hw:=wrapN i (by omega)
  rw [loopC_of _ _ _ _ ha,eqL_drop hlx hlt]
  clear ha
  generalize eqL sameReq (xs.drop (i+1)) (ys.drop (i+1))=r at ih ⊢
  cases e:sameReq xs[i] ys[i]<;>(try simp only [sameReq,sameB] at e)<;>simp [lp,loopsOf,Tryz.f60,hlt,hlx,hw,e,ih]
theorem ev_Ereqs (m m':M) (xs ys:List (ReqT)) (hb:ys.length≤1099511627776):ev E 60 [.v m false [.sl (xs.map reqL)],.v m' false [.sl (ys.map reqL)]]=some (rB (eqL sameReq xs ys)):=by
 rw [ev_fn Tryz.f60 rfl Tryz.func60 rfl rfl rfl (Nat.le_of_ble_eq_true rfl)]
 by_cases h:xs.length=ys.length
 ·have hl:=fun a ha=>lp_Ereqs m m' xs ys h hb a ha ys.length 0 (by omega)
  push_cast at hl
  simp only [List.drop_zero] at hl
  simp [h]
  rw [hl _ ?_]
  ·cases eqL sameReq xs ys<;>simp
  ·rfl
 ·have e2:eqI xs.length ys.length=false:=by simp [eqI];omega
  rw [eqL_len xs ys h]
  simp [e2]
theorem lp_Ebools (m m':M) (xs ys:List (Bool)) (hl:xs.length=ys.length) (hb:ys.length≤1099511627776) (a:Code) (ha:a=lp Tryz.f59 0):∀ (n i:Nat),i+n=ys.length →
  loopC E (ev E) 59 a { V:=[(0,.v m false [.sl (xs.map (fun b:Bool=>[L.bool b]))]),(1,.v m' false [.sl (ys.map (fun b:Bool=>[L.bool b]))]),(12,vi ys.length),(13,vi i)],H:=[],ps:=[] } =
   if eqL sameB (xs.drop i) (ys.drop i)=true then some (.exit 0,{ V:=[(0,.v m false [.sl (xs.map (fun b:Bool=>[L.bool b]))]),(1,.v m' false [.sl (ys.map (fun b:Bool=>[L.bool b]))]),(12,vi ys.length),(13,vi ys.length),(14,vb false)],H:=[],ps:=[] })
   else some (.ret,{ V:=[(4,vb false)],H:=[],ps:=[] })
 | 0,i,h=>by
  rw [loopC_of _ _ _ _ ha,eqL_end (by omega) (by omega)]
  obtain rfl:i=ys.length:=by omega
  simp [lp,loopsOf,Tryz.f59]
 | n+1,i,h=>by
  have hlt:i<ys.length:=by omega
  have hlx:i<xs.length:=by omega
  have ih:=lp_Ebools m m' xs ys hl hb a ha n (i+1) (by omega)
  push_cast at ih
  have hw:=wrapN i (by omega)
  rw [loopC_of _ _ _ _ ha,eqL_drop hlx hlt]
  clear ha
  generalize eqL sameB (xs.drop (i+1)) (ys.drop (i+1))=r at ih ⊢
  cases e:sameB xs[i] ys[i]<;>(try simp only [sameReq,sameB] at e)<;>simp [lp,loopsOf,Tryz.f59,hlt,hlx,hw,e,ih]
theorem ev_Ebools (m m':M) (xs ys:List (Bool)) (hb:ys.length≤1099511627776):ev E 59 [.v m false [.sl (xs.map (fun b:Bool=>[L.bool b]))],.v m' false [.sl (ys.map (fun b:Bool=>[L.bool b]))]]=some (rB (eqL sameB xs ys)):=by
 rw [ev_fn Tryz.f59 rfl Tryz.func59 rfl rfl rfl (Nat.le_of_ble_eq_true rfl)]
 by_cases h:xs.length=ys.length
 ·have hl:=fun a ha=>lp_Ebools m m' xs ys h hb a ha ys.length 0 (by omega)
  push_cast at hl
  simp only [List.drop_zero] at hl
  simp [h]
  rw [hl _ ?_]
  ·cases eqL sameB xs ys<;>simp
  ·rfl
 ·have e2:eqI xs.length ys.length=false:=by simp [eqI];omega
  rw [eqL_len xs ys h]
  simp [e2]
theorem lp_Sints (m m':M) (xs ys:List (Int)) (hl:xs.length=ys.length) (hb:ys.length≤1099511627776) (a:Code) (ha:a=lp Tryz.f92 0):∀ (n i:Nat),i+n=ys.length →
  loopC E (ev E) 92 a { V:=[(0,.v m false [.sl (xs.map (fun n:Int=>[L.int .i64 n]))]),(1,.v m' false [.sl (ys.map (fun n:Int=>[L.int .i64 n]))]),(5,vi i)],H:=[],ps:=[] } =
   if eqL eqI (xs.drop i) (ys.drop i)=true then some (.exit 0,{ V:=[(0,.v m false [.sl (xs.map (fun n:Int=>[L.int .i64 n]))]),(1,.v m' false [.sl (ys.map (fun n:Int=>[L.int .i64 n]))]),(5,vi ys.length),(14,vb false)],H:=[],ps:=[] })
   else some (.ret,{ V:=[(4,vb false)],H:=[],ps:=[] })
 | 0,i,h=>by
  rw [loopC_of _ _ _ _ ha,eqL_end (by omega) (by omega)]
  obtain rfl:i=ys.length:=by omega
  simp [lp,loopsOf,Tryz.f92,hl]
 | n+1,i,h=>by
  have hlt:i<ys.length:=by omega
  have hlx:i<xs.length:=by omega
  have ih:=lp_Sints m m' xs ys hl hb a ha n (i+1) (by omega)
  push_cast at ih
  have hw:=wrapN i (by omega)
  rw [loopC_of _ _ _ _ ha,eqL_drop hlx hlt]
  clear ha
  generalize eqL eqI (xs.drop (i+1)) (ys.drop (i+1))=r at ih ⊢
  cases e:eqI xs[i] ys[i]<;>(try simp only [sameReq,sameSp] at e)<;>simp [lp,loopsOf,Tryz.f92,hl,hlt,hlx,hw,e,ih]
theorem ev_Sints (m m':M) (xs ys:List (Int)) (hb:ys.length≤1099511627776):ev E 92 [.v m false [.sl (xs.map (fun n:Int=>[L.int .i64 n]))],.v m' false [.sl (ys.map (fun n:Int=>[L.int .i64 n]))]]=some (rB (eqL eqI xs ys)):=by
 rw [ev_fn Tryz.f92 rfl Tryz.func92 rfl rfl rfl (Nat.le_of_ble_eq_true rfl)]
 by_cases h:xs.length=ys.length
 ·have hl:=fun a ha=>lp_Sints m m' xs ys h hb a ha ys.length 0 (by omega)
  push_cast at hl
  simp only [List.drop_zero] at hl
  simp [h]
  rw [hl _ ?_]
  ·cases eqL eqI xs ys<;>simp
  ·rfl
 ·have e2:eqI xs.length ys.length=false:=by simp [eqI];omega
  rw [eqL_len xs ys h]
  simp [e2]
theorem lp_Sstrs (m m':M) (xs ys:List (List UInt8)) (hl:xs.length=ys.length) (hb:ys.length≤1099511627776) (a:Code) (ha:a=lp Tryz.f173 0):∀ (n i:Nat),i+n=ys.length →
  loopC E (ev E) 173 a { V:=[(0,.v m false [.sl (xs.map (fun s:List UInt8=>[L.str s]))]),(1,.v m' false [.sl (ys.map (fun s:List UInt8=>[L.str s]))]),(5,vi i)],H:=[],ps:=[] } =
   if eqL eqS (xs.drop i) (ys.drop i)=true then some (.exit 0,{ V:=[(0,.v m false [.sl (xs.map (fun s:List UInt8=>[L.str s]))]),(1,.v m' false [.sl (ys.map (fun s:List UInt8=>[L.str s]))]),(5,vi ys.length),(14,vb false)],H:=[],ps:=[] })
   else some (.ret,{ V:=[(4,vb false)],H:=[],ps:=[] })
 | 0,i,h=>by
  rw [loopC_of _ _ _ _ ha,eqL_end (by omega) (by omega)]
  obtain rfl:i=ys.length:=by omega
  simp [lp,loopsOf,Tryz.f173,hl]
 | n+1,i,h=>by
  have hlt:i<ys.length:=by omega
  have hlx:i<xs.length:=by omega
  have ih:=lp_Sstrs m m' xs ys hl hb a ha n (i+1) (by omega)
  push_cast at ih
  have hw:=wrapN i (by omega)
  rw [loopC_of _ _ _ _ ha,eqL_drop hlx hlt]
  clear ha
  generalize eqL eqS (xs.drop (i+1)) (ys.drop (i+1))=r at ih ⊢
  cases e:eqS xs[i] ys[i]<;>(try simp only [sameReq,sameSp] at e)<;>simp [lp,loopsOf,Tryz.f173,hl,hlt,hlx,hw,e,ih]
theorem ev_Sstrs (m m':M) (xs ys:List (List UInt8)) (hb:ys.length≤1099511627776):ev E 173 [.v m false [.sl (xs.map (fun s:List UInt8=>[L.str s]))],.v m' false [.sl (ys.map (fun s:List UInt8=>[L.str s]))]]=some (rB (eqL eqS xs ys)):=by
 rw [ev_fn Tryz.f173 rfl Tryz.func173 rfl rfl rfl (Nat.le_of_ble_eq_true rfl)]
 by_cases h:xs.length=ys.length
 ·have hl:=fun a ha=>lp_Sstrs m m' xs ys h hb a ha ys.length 0 (by omega)
  push_cast at hl
  simp only [List.drop_zero] at hl
  simp [h]
  rw [hl _ ?_]
  ·cases eqL eqS xs ys<;>simp
  ·rfl
 ·have e2:eqI xs.length ys.length=false:=by simp [eqI];omega
  rw [eqL_len xs ys h]
  simp [e2]
theorem lp_Sspans (m m':M) (xs ys:List (Sp)) (hl:xs.length=ys.length) (hb:ys.length≤1099511627776) (a:Code) (ha:a=lp Tryz.f174 0):∀ (n i:Nat),i+n=ys.length →
  loopC E (ev E) 174 a { V:=[(0,.v m false [.sl (xs.map spL)]),(1,.v m' false [.sl (ys.map spL)]),(5,vi i)],H:=[],ps:=[] } =
   if eqL sameSp (xs.drop i) (ys.drop i)=true then some (.exit 0,{ V:=[(0,.v m false [.sl (xs.map spL)]),(1,.v m' false [.sl (ys.map spL)]),(5,vi ys.length),(14,vb false)],H:=[],ps:=[] })
   else some (.ret,{ V:=[(4,vb false)],H:=[],ps:=[] })
 | 0,i,h=>by
  rw [loopC_of _ _ _ _ ha,eqL_end (by omega) (by omega)]
  obtain rfl:i=ys.length:=by omega
  simp [lp,loopsOf,Tryz.f174,hl]
 | n+1,i,h=>by
  have hlt:i<ys.length:=by omega
  have hlx:i<xs.length:=by omega
  have ih:=lp_Sspans m m' xs ys hl hb a ha n (i+1) (by omega)
  push_cast at ih
  have hw:=wrapN i (by omega)
  rw [loopC_of _ _ _ _ ha,eqL_drop hlx hlt]
  clear ha
  generalize eqL sameSp (xs.drop (i+1)) (ys.drop (i+1))=r at ih ⊢
  cases e:sameSp xs[i] ys[i]<;>(try simp only [sameReq,sameSp] at e)<;>simp [lp,loopsOf,Tryz.f174,hl,hlt,hlx,hw,e,ih]
theorem ev_Sspans (m m':M) (xs ys:List (Sp)) (hb:ys.length≤1099511627776):ev E 174 [.v m false [.sl (xs.map spL)],.v m' false [.sl (ys.map spL)]]=some (rB (eqL sameSp xs ys)):=by
 rw [ev_fn Tryz.f174 rfl Tryz.func174 rfl rfl rfl (Nat.le_of_ble_eq_true rfl)]
 by_cases h:xs.length=ys.length
 ·have hl:=fun a ha=>lp_Sspans m m' xs ys h hb a ha ys.length 0 (by omega)
  push_cast at hl
  simp only [List.drop_zero] at hl
  simp [h]
  rw [hl _ ?_]
  ·cases eqL sameSp xs ys<;>simp
  ·rfl
 ·have e2:eqI xs.length ys.length=false:=by simp [eqI];omega
  rw [eqL_len xs ys h]
  simp [e2]
set_option maxRecDepth 100000
set_option maxHeartbeats 4000000
def sameOwn (a b:OwnT):Bool:=eqS a.t b.t&&decide (a.h=b.h)&&decide (a.d=b.d)
def sameHold (a b:HoldT):Bool:=decide (a.r=b.r)&&decide (a.w=b.w)
theorem sameSp_iff (x y:Sp):sameSp x y=true↔x=y:=by
 simp only [sameSp,Bool.and_eq_true,eqI_iff]
 exact ⟨fun h=>Prod.ext h.1 h.2,fun h=>by rw [h];exact ⟨rfl,rfl⟩⟩
theorem ev_spec_OwnSame (m m':M) (hm:m.isOwn=false) (hm':m'.isOwn=false) (a b:OwnT) (hb:ownB b):ev E 93 [.v m true (ownL a),.v m' true (ownL b)]=some (rB (sameOwn a b)):=by
 have h1:=fun m m'=>ev_Sspans m m' a.h b.h (by have:=hb.1;omega)
 have h2:=fun m m'=>ev_Sspans m m' a.d b.d (by have:=hb.2;omega)
 simp only [eqL_dec sameSp_iff] at h1 h2
 simp only [sameOwn]
 generalize decide (a.h=b.h)=e2 at *
 generalize decide (a.d=b.d)=e3 at *
 rw [ev_fn Tryz.f93 rfl Tryz.func93 rfl rfl rfl (Nat.le_of_ble_eq_true rfl)]
 cases e1:eqS a.t b.t<;>cases e2<;>cases e3<;>simp [e1,hm,hm',h1,h2]
theorem ev_impl_OwnSame2 (m m':M) (hm:m.isOwn=false) (hm':m'.isOwn=false) (a b:OwnT) (hb:ownB b):ev E 57 [.v m true (ownL a),.v m' true (ownL b)]=some (rB (sameOwn a b)) :=
 ev_OwnSame m m' hm hm' a.t b.t a.h a.d b.h b.d (by have:=hb.1;omega) (by have:=hb.2;omega)
theorem ev_LockSameFn (m m':M) (hm:m.isOwn=false) (hm':m'.isOwn=false) (a b:HoldT) (hb:holdB b):ev E 80 [.v m true (holdL a),.v m' true (holdL b)]=some (rB (sameHold a b)):=by
 have h1:=fun m m'=>ev_Equal m m' a.r b.r (by have:=hb.1;omega)
 have h2:=fun m m'=>ev_Equal m m' a.w b.w (by have:=hb.2;omega)
 simp only [sameHold]
 generalize decide (a.r=b.r)=e1 at *
 generalize decide (a.w=b.w)=e2 at *
 rw [ev_fn Tryz.f80 rfl Tryz.func80 rfl rfl rfl (Nat.le_of_ble_eq_true rfl)]
 cases e1<;>cases e2<;>simp [hm,hm',h1,h2]
theorem lp_Fowns (m m' mf:M) (hm:m.isOwn=false) (hm':m'.isOwn=false) (xs ys:List (OwnT)) (hl:xs.length=ys.length) (hb:ys.length≤4000000) (hk:∀ y∈ys,ownB y) (a:Code) (ha:a=lp Tryz.f56 0):∀ (n i:Nat),i+n=ys.length →
  loopC E (ev E) 56 a { V:=[(1,.v m' false [.sl (ys.map ownL)]),(2,.v mf false [.fn 57 []]),(15,.v m false [.sl (xs.map ownL)]),(16,vi ys.length),(17,vi i)],H:=[],ps:=[] } =
   if eqL sameOwn (xs.drop i) (ys.drop i)=true then some (.exit 0,{ V:=[(1,.v m' false [.sl (ys.map ownL)]),(2,.v mf false [.fn 57 []]),(15,.v m false [.sl (xs.map ownL)]),(16,vi ys.length),(17,vi ys.length),(18,vb false)],H:=[],ps:=[] })
   else some (.ret,{ V:=[(6,vb false)],H:=[],ps:=[] })
 | 0,i,h=>by
  rw [loopC_of _ _ _ _ ha,eqL_end (by omega) (by omega)]
  obtain rfl:i=ys.length:=by omega
  simp [lp,loopsOf,Tryz.f56]
 | n+1,i,h=>by
  have hlt:i<ys.length:=by omega
  have hlx:i<xs.length:=by omega
  have ih:=lp_Fowns m m' mf hm hm' xs ys hl hb hk a ha n (i+1) (by omega)
  push_cast at ih
  have hw:=wrapN i (by omega)
  have c:=fun m m' hm hm'=>ev_impl_OwnSame2 m m' hm hm' xs[i] ys[i] (hk _ (List.getElem_mem hlt))
  rw [loopC_of _ _ _ _ ha,eqL_drop hlx hlt]
  clear ha
  generalize eqL sameOwn (xs.drop (i+1)) (ys.drop (i+1))=r at ih ⊢
  cases e:sameOwn xs[i] ys[i]<;>simp [lp,loopsOf,Tryz.f56,hlt,hlx,hw,e,ih,c,hm,hm']
theorem ev_Fowns (m m' mf:M) (hm:m.isOwn=false) (hm':m'.isOwn=false) (xs ys:List (OwnT)) (hb:ys.length≤4000000) (hk:∀ y∈ys,ownB y):ev E 56 [.v m false [.sl (xs.map ownL)],.v m' false [.sl (ys.map ownL)],.v mf false [.fn 57 []]]=some (rB (eqL sameOwn xs ys)):=by
 rw [ev_fn Tryz.f56 rfl Tryz.func56 rfl rfl rfl (Nat.le_of_ble_eq_true rfl)]
 by_cases h:xs.length=ys.length
 ·have hl:=fun a ha=>lp_Fowns m m' mf hm hm' xs ys h hb hk a ha ys.length 0 (by omega)
  push_cast at hl
  simp only [List.drop_zero] at hl
  simp [h]
  rw [hl _ ?_]
  ·cases eqL sameOwn xs ys<;>simp
  ·rfl
 ·have e2:eqI xs.length ys.length=false:=by simp [eqI];omega
  rw [eqL_len xs ys h]
  simp [e2]
theorem lp_Fholds (m m' mf:M) (hm:m.isOwn=false) (hm':m'.isOwn=false) (xs ys:List (HoldT)) (hl:xs.length=ys.length) (hb:ys.length≤4000000) (hk:∀ y∈ys,holdB y) (a:Code) (ha:a=lp Tryz.f79 0):∀ (n i:Nat),i+n=ys.length →
  loopC E (ev E) 79 a { V:=[(1,.v m' false [.sl (ys.map holdL)]),(2,.v mf false [.fn 80 []]),(15,.v m false [.sl (xs.map holdL)]),(16,vi ys.length),(17,vi i)],H:=[],ps:=[] } =
   if eqL sameHold (xs.drop i) (ys.drop i)=true then some (.exit 0,{ V:=[(1,.v m' false [.sl (ys.map holdL)]),(2,.v mf false [.fn 80 []]),(15,.v m false [.sl (xs.map holdL)]),(16,vi ys.length),(17,vi ys.length),(18,vb false)],H:=[],ps:=[] })
   else some (.ret,{ V:=[(6,vb false)],H:=[],ps:=[] })
 | 0,i,h=>by
  rw [loopC_of _ _ _ _ ha,eqL_end (by omega) (by omega)]
  obtain rfl:i=ys.length:=by omega
  simp [lp,loopsOf,Tryz.f79]
 | n+1,i,h=>by
  have hlt:i<ys.length:=by omega
  have hlx:i<xs.length:=by omega
  have ih:=lp_Fholds m m' mf hm hm' xs ys hl hb hk a ha n (i+1) (by omega)
  push_cast at ih
  have hw:=wrapN i (by omega)
  have c:=fun m m' hm hm'=>ev_LockSameFn m m' hm hm' xs[i] ys[i] (hk _ (List.getElem_mem hlt))
  rw [loopC_of _ _ _ _ ha,eqL_drop hlx hlt]
  clear ha
  generalize eqL sameHold (xs.drop (i+1)) (ys.drop (i+1))=r at ih ⊢
  cases e:sameHold xs[i] ys[i]<;>simp [lp,loopsOf,Tryz.f79,hlt,hlx,hw,e,ih,c,hm,hm']
theorem ev_Fholds (m m' mf:M) (hm:m.isOwn=false) (hm':m'.isOwn=false) (xs ys:List (HoldT)) (hb:ys.length≤4000000) (hk:∀ y∈ys,holdB y):ev E 79 [.v m false [.sl (xs.map holdL)],.v m' false [.sl (ys.map holdL)],.v mf false [.fn 80 []]]=some (rB (eqL sameHold xs ys)):=by
 rw [ev_fn Tryz.f79 rfl Tryz.func79 rfl rfl rfl (Nat.le_of_ble_eq_true rfl)]
 by_cases h:xs.length=ys.length
 ·have hl:=fun a ha=>lp_Fholds m m' mf hm hm' xs ys h hb hk a ha ys.length 0 (by omega)
  push_cast at hl
  simp only [List.drop_zero] at hl
  simp [h]
  rw [hl _ ?_]
  ·cases eqL sameHold xs ys<;>simp
  ·rfl
 ·have e2:eqI xs.length ys.length=false:=by simp [eqI];omega
  rw [eqL_len xs ys h]
  simp [e2]
theorem ev_impl_LockSame (m m':M) (hm:m.isOwn=false) (hm':m'.isOwn=false) (xs ys:List HoldT) (hb:ys.length≤4000000) (hk:∀ y∈ys,holdB y):ev E 31 [.v m false [.sl (xs.map holdL)],.v m' false [.sl (ys.map holdL)]]=some (rB (eqL sameHold xs ys)):=by
 have c:=fun m m' mf hm hm'=>ev_Fholds m m' mf hm hm' xs ys hb hk
 rw [ev_fn Tryz.f31 rfl Tryz.func31 rfl rfl rfl (Nat.le_of_ble_eq_true rfl)]
 simp [c,hm,hm']
def sameStore (a b:StoreT):Bool:=eqL eqS a.now b.now&&(eqL eqS a.sure b.sure&&(eqL eqI a.last b.last&&(eqL eqI a.slast b.slast&&eqL eqI a.floors b.floors)))
theorem ev_impl_StoreSame (m m':M) (hm:m.isOwn=false) (hm':m'.isOwn=false) (a b:StoreT) (hb:StoreB b):ev E 28 [.v m true (storeL a),.v m' true (storeL b)]=some (rB (sameStore a b)):=by
 have c1:=fun m m'=>ev_Estrs m m' a.now b.now (by have:=hb.now;omega)
 have c2:=fun m m'=>ev_Estrs m m' a.sure b.sure (by have:=hb.sure;omega)
 have c3:=fun m m'=>ev_Eints m m' a.last b.last (by have:=hb.last;omega)
 have c4:=fun m m'=>ev_Eints m m' a.slast b.slast (by have:=hb.slast;omega)
 have c5:=fun m m'=>ev_Eints m m' a.floors b.floors (by have:=hb.floors;omega)
 simp only [sameStore]
 generalize eqL eqS a.now b.now=e1 at *
 generalize eqL eqS a.sure b.sure=e2 at *
 generalize eqL eqI a.last b.last=e3 at *
 generalize eqL eqI a.slast b.slast=e4 at *
 generalize eqL eqI a.floors b.floors=e5 at *
 rw [ev_fn Tryz.f28 rfl Tryz.func28 rfl rfl rfl (Nat.le_of_ble_eq_true rfl)]
 cases e1<;>cases e2<;>cases e3<;>cases e4<;>simp [c1,c2,c3,c4,c5,hm,hm']
theorem ev_spec_StoreSame (m m':M) (hm:m.isOwn=false) (hm':m'.isOwn=false) (a b:StoreT) (hb:StoreB b):ev E 90 [.v m true (storeL a),.v m' true (storeL b)]=some (rB (sameStore a b)):=by
 have c1:=fun m m'=>ev_Sstrs m m' a.now b.now (by have:=hb.now;omega)
 have c2:=fun m m'=>ev_Sstrs m m' a.sure b.sure (by have:=hb.sure;omega)
 have c3:=fun m m'=>ev_Sints m m' a.last b.last (by have:=hb.last;omega)
 have c4:=fun m m'=>ev_Sints m m' a.slast b.slast (by have:=hb.slast;omega)
 have c5:=fun m m'=>ev_Sints m m' a.floors b.floors (by have:=hb.floors;omega)
 simp only [sameStore]
 generalize eqL eqS a.now b.now=e1 at *
 generalize eqL eqS a.sure b.sure=e2 at *
 generalize eqL eqI a.last b.last=e3 at *
 generalize eqL eqI a.slast b.slast=e4 at *
 generalize eqL eqI a.floors b.floors=e5 at *
 rw [ev_fn Tryz.f90 rfl Tryz.func90 rfl rfl rfl (Nat.le_of_ble_eq_true rfl)]
 cases e1<;>cases e2<;>cases e3<;>cases e4<;>simp [c1,c2,c3,c4,c5,hm,hm']
end Go.Ev

