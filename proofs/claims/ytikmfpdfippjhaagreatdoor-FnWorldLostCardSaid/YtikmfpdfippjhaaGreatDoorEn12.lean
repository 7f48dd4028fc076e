/- My texts joined: EvT55, EvT56, EvT57, EvW10, EvT60, EvT61, EvT62. No condition. -/
import Derived.Test.YtikmfpdfippjhaaGreatDoorEn11
set_option linter.unusedVariables false
set_option linter.unusedSimpArgs false

set_option maxRecDepth 100000
set_option maxHeartbeats 4000000
namespace Go.Ev
open Go.Proofs
structure StoreB (s:StoreT):Prop where
  now:s.now.length≤4000000
  sure:s.sure.length≤4000000
  last:s.last.length≤4000000
  slast:s.slast.length≤4000000
  floors:s.floors.length≤4000000
structure WorldB (w:WorldT):Prop where
  st:StoreB w.st
  locks:w.locks.length≤4000000
  holds:∀ h∈w.locks,holdB h
  owns:w.owns.length≤4000000
  owned:∀ o∈w.owns,ownB o
  epochs:w.epochs.length≤4000000
  alive:w.alive.length≤4000000
  kept:w.kept.length≤4000000
  late:w.late.length≤4000000
end Go.Ev


set_option maxRecDepth 100000
set_option maxHeartbeats 4000000
namespace Go.Ev
open Go.Proofs
def eqL {α:Type} (c:α→α→Bool):List α→List α→Bool
  | [],[]=>true
  | x::xs,y::ys=>c x y&&eqL c xs ys
  | _,_=>false
theorem eqL_dec {α:Type} [DecidableEq α] {c:α→α→Bool} (hc:∀ x y,c x y=true↔x=y):∀ (xs ys:List α),eqL c xs ys=decide (xs=ys)
  | [],[]=>rfl
  | [],y::ys=>rfl
  | x::xs,[]=>rfl
  | x::xs,y::ys=>by
    rw [eqL,eqL_dec hc xs ys,Bool.eq_iff_iff]
    simp only [Bool.and_eq_true,hc,decide_eq_true_eq,List.cons.injEq]
theorem eqL_drop {α:Type} {c:α→α→Bool} {xs ys:List α} {i:Nat} (hx:i<xs.length) (hy:i<ys.length):eqL c (xs.drop i) (ys.drop i)=(c xs[i] ys[i]&&eqL c (xs.drop (i+1)) (ys.drop (i+1))):=by
  rw [List.drop_eq_getElem_cons hx,List.drop_eq_getElem_cons hy,eqL]
theorem eqL_end {α:Type} {c:α→α→Bool} {xs ys:List α} {i:Nat} (hx:xs.length≤i) (hy:ys.length≤i):eqL c (xs.drop i) (ys.drop i)=true:=by
  rw [List.drop_of_length_le hx,List.drop_of_length_le hy,eqL]
theorem eqL_len {α:Type} {c:α→α→Bool}:∀ (xs ys:List α),xs.length≠ys.length→eqL c xs ys=false
  | [],[],h=>by simp at h
  | [],y::ys,_=>rfl
  | x::xs,[],_=>rfl
  | x::xs,y::ys,h=>by
    rw [eqL,eqL_len xs ys (by simpa using h),Bool.and_false]
def sameReq (a b:ReqT):Bool:=eqI a.who b.who&&(eqI a.epoch b.epoch&&(eqI a.num b.num&&(eqI a.obj b.obj&&(eqI a.pos b.pos&&eqS a.data b.data))))
def sameSp (a b:Sp):Bool:=eqI a.1 b.1&&eqI a.2 b.2
def sameB (a b:Bool):Bool:=a==b
@[simp] theorem eqAgg_Req:eqAgg Tryz.prog 94=true:=by kernel_rfl
theorem lp_Eints (m m':M) (xs ys:List (Int)) (hl:xs.length=ys.length) (hb:ys.length≤1099511627776) (a:Code) (ha:a=lp Tryz.f55 0):∀ (n i:Nat),i+n=ys.length →
    loopC E (ev E) 55 a { V:=[(0,.v m false [.sl (xs.map (fun n:Int=>[L.int .i64 n]))]),(1,.v m' false [.sl (ys.map (fun n:Int=>[L.int .i64 n]))]),(12,vi ys.length),(13,vi i)],H:=[],ps:=[] } =
      if eqL eqI (xs.drop i) (ys.drop i)=true then some (.exit 0,{ V:=[(0,.v m false [.sl (xs.map (fun n:Int=>[L.int .i64 n]))]),(1,.v m' false [.sl (ys.map (fun n:Int=>[L.int .i64 n]))]),(12,vi ys.length),(13,vi ys.length),(14,vb false)],H:=[],ps:=[] })
      else some (.ret,{ V:=[(4,vb false)],H:=[],ps:=[] })
  | 0,i,h=>by
    rw [loopC_of _ _ _ _ ha,eqL_end (by omega) (by omega)]
    obtain rfl:i=ys.length:=by omega
    simp [lp,loopsOf,Tryz.f55]
  | n+1,i,h=>by
    have hlt:i<ys.length:=by omega
    have hlx:i<xs.length:=by omega
    have ih:=lp_Eints m m' xs ys hl hb a ha n (i+1) (by omega)
    push_cast at ih
    have hw:=wrapN i (by omega)
    rw [loopC_of _ _ _ _ ha,eqL_drop hlx hlt]
    clear ha
    generalize eqL eqI (xs.drop (i+1)) (ys.drop (i+1))=r at ih ⊢
    cases e:eqI xs[i] ys[i]<;>(try simp only [sameReq,sameB] at e)<;>simp [lp,loopsOf,Tryz.f55,hlt,hlx,hw,e,ih]
theorem ev_Eints (m m':M) (xs ys:List (Int)) (hb:ys.length≤1099511627776):ev E 55 [.v m false [.sl (xs.map (fun n:Int=>[L.int .i64 n]))],.v m' false [.sl (ys.map (fun n:Int=>[L.int .i64 n]))]]=some (rB (eqL eqI xs ys)):=by
  rw [ev_fn Tryz.f55 rfl Tryz.func55 rfl rfl rfl (Nat.le_of_ble_eq_true rfl)]
  by_cases h:xs.length=ys.length
  · have hl:=fun a ha=>lp_Eints m m' xs ys h hb a ha ys.length 0 (by omega)
    push_cast at hl
    simp only [List.drop_zero] at hl
    simp [h]
    rw [hl _ ?_]
    · cases eqL eqI xs ys<;>simp
    · rfl
  · have e2:eqI xs.length ys.length=false:=by simp [eqI];omega
    rw [eqL_len xs ys h]
    simp [e2]
theorem lp_Estrs (m m':M) (xs ys:List (List UInt8)) (hl:xs.length=ys.length) (hb:ys.length≤1099511627776) (a:Code) (ha:a=lp Tryz.f110 0):∀ (n i:Nat),i+n=ys.length →
    loopC E (ev E) 110 a { V:=[(0,.v m false [.sl (xs.map (fun s:List UInt8=>[L.str s]))]),(1,.v m' false [.sl (ys.map (fun s:List UInt8=>[L.str s]))]),(12,vi ys.length),(13,vi i)],H:=[],ps:=[] } =
      if eqL eqS (xs.drop i) (ys.drop i)=true then some (.exit 0,{ V:=[(0,.v m false [.sl (xs.map (fun s:List UInt8=>[L.str s]))]),(1,.v m' false [.sl (ys.map (fun s:List UInt8=>[L.str s]))]),(12,vi ys.length),(13,vi ys.length),(14,vb false)],H:=[],ps:=[] })
      else some (.ret,{ V:=[(4,vb false)],H:=[],ps:=[] })
  | 0,i,h=>by
    rw [loopC_of _ _ _ _ ha,eqL_end (by omega) (by omega)]
    obtain rfl:i=ys.length:=by omega
    simp [lp,loopsOf,Tryz.f110]
  | n+1,i,h=>by
    have hlt:i<ys.length:=by omega
    have hlx:i<xs.length:=by omega
    have ih:=lp_Estrs m m' xs ys hl hb a ha n (i+1) (by omega)
    push_cast at ih
    have hw:=wrapN i (by omega)
    rw [loopC_of _ _ _ _ ha,eqL_drop hlx hlt]
    clear ha
    generalize eqL eqS (xs.drop (i+1)) (ys.drop (i+1))=r at ih ⊢
    cases e:eqS xs[i] ys[i]<;>(try simp only [sameReq,sameB] at e)<;>simp [lp,loopsOf,Tryz.f110,hlt,hlx,hw,e,ih]
theorem ev_Estrs (m m':M) (xs ys:List (List UInt8)) (hb:ys.length≤1099511627776):ev E 110 [.v m false [.sl (xs.map (fun s:List UInt8=>[L.str s]))],.v m' false [.sl (ys.map (fun s:List UInt8=>[L.str s]))]]=some (rB (eqL eqS xs ys)):=by
  rw [ev_fn Tryz.f110 rfl Tryz.func110 rfl rfl rfl (Nat.le_of_ble_eq_true rfl)]
  by_cases h:xs.length=ys.length
  · have hl:=fun a ha=>lp_Estrs m m' xs ys h hb a ha ys.length 0 (by omega)
    push_cast at hl
    simp only [List.drop_zero] at hl
    simp [h]
    rw [hl _ ?_]
    · cases eqL eqS xs ys<;>simp
    · rfl
  · have e2:eqI xs.length ys.length=false:=by simp [eqI];omega
    rw [eqL_len xs ys h]
    simp [e2]
theorem lp_Sints (m m':M) (xs ys:List (Int)) (hl:xs.length=ys.length) (hb:ys.length≤1099511627776) (a:Code) (ha:a=lp Tryz.f187 0):∀ (n i:Nat),i+n=ys.length →
    loopC E (ev E) 187 a { V:=[(0,.v m false [.sl (xs.map (fun n:Int=>[L.int .i64 n]))]),(1,.v m' false [.sl (ys.map (fun n:Int=>[L.int .i64 n]))]),(5,vi i)],H:=[],ps:=[] } =
      if eqL eqI (xs.drop i) (ys.drop i)=true then some (.exit 0,{ V:=[(0,.v m false [.sl (xs.map (fun n:Int=>[L.int .i64 n]))]),(1,.v m' false [.sl (ys.map (fun n:Int=>[L.int .i64 n]))]),(5,vi ys.length),(14,vb false)],H:=[],ps:=[] })
      else some (.ret,{ V:=[(4,vb false)],H:=[],ps:=[] })
  | 0,i,h=>by
    rw [loopC_of _ _ _ _ ha,eqL_end (by omega) (by omega)]
    obtain rfl:i=ys.length:=by omega
    simp [lp,loopsOf,Tryz.f187,hl]
  | n+1,i,h=>by
    have hlt:i<ys.length:=by omega
    have hlx:i<xs.length:=by omega
    have ih:=lp_Sints m m' xs ys hl hb a ha n (i+1) (by omega)
    push_cast at ih
    have hw:=wrapN i (by omega)
    rw [loopC_of _ _ _ _ ha,eqL_drop hlx hlt]
    clear ha
    generalize eqL eqI (xs.drop (i+1)) (ys.drop (i+1))=r at ih ⊢
    cases e:eqI xs[i] ys[i]<;>(try simp only [sameReq,sameSp] at e)<;>simp [lp,loopsOf,Tryz.f187,hl,hlt,hlx,hw,e,ih]
theorem ev_Sints (m m':M) (xs ys:List (Int)) (hb:ys.length≤1099511627776):ev E 187 [.v m false [.sl (xs.map (fun n:Int=>[L.int .i64 n]))],.v m' false [.sl (ys.map (fun n:Int=>[L.int .i64 n]))]]=some (rB (eqL eqI xs ys)):=by
  rw [ev_fn Tryz.f187 rfl Tryz.func187 rfl rfl rfl (Nat.le_of_ble_eq_true rfl)]
  by_cases h:xs.length=ys.length
  · have hl:=fun a ha=>lp_Sints m m' xs ys h hb a ha ys.length 0 (by omega)
    push_cast at hl
    simp only [List.drop_zero] at hl
    simp [h]
    rw [hl _ ?_]
    · cases eqL eqI xs ys<;>simp
    · rfl
  · have e2:eqI xs.length ys.length=false:=by simp [eqI];omega
    rw [eqL_len xs ys h]
    simp [e2]
theorem lp_Sstrs (m m':M) (xs ys:List (List UInt8)) (hl:xs.length=ys.length) (hb:ys.length≤1099511627776) (a:Code) (ha:a=lp Tryz.f186 0):∀ (n i:Nat),i+n=ys.length →
    loopC E (ev E) 186 a { V:=[(0,.v m false [.sl (xs.map (fun s:List UInt8=>[L.str s]))]),(1,.v m' false [.sl (ys.map (fun s:List UInt8=>[L.str s]))]),(5,vi i)],H:=[],ps:=[] } =
      if eqL eqS (xs.drop i) (ys.drop i)=true then some (.exit 0,{ V:=[(0,.v m false [.sl (xs.map (fun s:List UInt8=>[L.str s]))]),(1,.v m' false [.sl (ys.map (fun s:List UInt8=>[L.str s]))]),(5,vi ys.length),(14,vb false)],H:=[],ps:=[] })
      else some (.ret,{ V:=[(4,vb false)],H:=[],ps:=[] })
  | 0,i,h=>by
    rw [loopC_of _ _ _ _ ha,eqL_end (by omega) (by omega)]
    obtain rfl:i=ys.length:=by omega
    simp [lp,loopsOf,Tryz.f186,hl]
  | n+1,i,h=>by
    have hlt:i<ys.length:=by omega
    have hlx:i<xs.length:=by omega
    have ih:=lp_Sstrs m m' xs ys hl hb a ha n (i+1) (by omega)
    push_cast at ih
    have hw:=wrapN i (by omega)
    rw [loopC_of _ _ _ _ ha,eqL_drop hlx hlt]
    clear ha
    generalize eqL eqS (xs.drop (i+1)) (ys.drop (i+1))=r at ih ⊢
    cases e:eqS xs[i] ys[i]<;>(try simp only [sameReq,sameSp] at e)<;>simp [lp,loopsOf,Tryz.f186,hl,hlt,hlx,hw,e,ih]
theorem ev_Sstrs (m m':M) (xs ys:List (List UInt8)) (hb:ys.length≤1099511627776):ev E 186 [.v m false [.sl (xs.map (fun s:List UInt8=>[L.str s]))],.v m' false [.sl (ys.map (fun s:List UInt8=>[L.str s]))]]=some (rB (eqL eqS xs ys)):=by
  rw [ev_fn Tryz.f186 rfl Tryz.func186 rfl rfl rfl (Nat.le_of_ble_eq_true rfl)]
  by_cases h:xs.length=ys.length
  · have hl:=fun a ha=>lp_Sstrs m m' xs ys h hb a ha ys.length 0 (by omega)
    push_cast at hl
    simp only [List.drop_zero] at hl
    simp [h]
    rw [hl _ ?_]
    · cases eqL eqS xs ys<;>simp
    · rfl
  · have e2:eqI xs.length ys.length=false:=by simp [eqI];omega
    rw [eqL_len xs ys h]
    simp [e2]
theorem lp_Sspans (m m':M) (xs ys:List (Sp)) (hl:xs.length=ys.length) (hb:ys.length≤1099511627776) (a:Code) (ha:a=lp Tryz.f184 0):∀ (n i:Nat),i+n=ys.length →
    loopC E (ev E) 184 a { V:=[(0,.v m false [.sl (xs.map spL)]),(1,.v m' false [.sl (ys.map spL)]),(5,vi i)],H:=[],ps:=[] } =
      if eqL sameSp (xs.drop i) (ys.drop i)=true then some (.exit 0,{ V:=[(0,.v m false [.sl (xs.map spL)]),(1,.v m' false [.sl (ys.map spL)]),(5,vi ys.length),(14,vb false)],H:=[],ps:=[] })
      else some (.ret,{ V:=[(4,vb false)],H:=[],ps:=[] })
  | 0,i,h=>by
    rw [loopC_of _ _ _ _ ha,eqL_end (by omega) (by omega)]
    obtain rfl:i=ys.length:=by omega
    simp [lp,loopsOf,Tryz.f184,hl]
  | n+1,i,h=>by
    have hlt:i<ys.length:=by omega
    have hlx:i<xs.length:=by omega
    have ih:=lp_Sspans m m' xs ys hl hb a ha n (i+1) (by omega)
    push_cast at ih
    have hw:=wrapN i (by omega)
    rw [loopC_of _ _ _ _ ha,eqL_drop hlx hlt]
    clear ha
    generalize eqL sameSp (xs.drop (i+1)) (ys.drop (i+1))=r at ih ⊢
    cases e:sameSp xs[i] ys[i]<;>(try simp only [sameReq,sameSp] at e)<;>simp [lp,loopsOf,Tryz.f184,hl,hlt,hlx,hw,e,ih]
theorem ev_Sspans (m m':M) (xs ys:List (Sp)) (hb:ys.length≤1099511627776):ev E 184 [.v m false [.sl (xs.map spL)],.v m' false [.sl (ys.map spL)]]=some (rB (eqL sameSp xs ys)):=by
  rw [ev_fn Tryz.f184 rfl Tryz.func184 rfl rfl rfl (Nat.le_of_ble_eq_true rfl)]
  by_cases h:xs.length=ys.length
  · have hl:=fun a ha=>lp_Sspans m m' xs ys h hb a ha ys.length 0 (by omega)
    push_cast at hl
    simp only [List.drop_zero] at hl
    simp [h]
    rw [hl _ ?_]
    · cases eqL sameSp xs ys<;>simp
    · rfl
  · have e2:eqI xs.length ys.length=false:=by simp [eqI];omega
    rw [eqL_len xs ys h]
    simp [e2]
end Go.Ev


set_option maxRecDepth 100000
set_option maxHeartbeats 4000000
namespace Go.Ev
open Go.Proofs
def sameOwn (a b:OwnT):Bool:=eqS a.t b.t&&decide (a.h=b.h)&&decide (a.d=b.d)
def sameHold (a b:HoldT):Bool:=decide (a.r=b.r)&&decide (a.w=b.w)
theorem sameSp_iff (x y:Sp):sameSp x y=true↔x=y:=by
  simp only [sameSp,Bool.and_eq_true,eqI_iff]
  exact ⟨fun h=>Prod.ext h.1 h.2,fun h=>by rw [h];exact ⟨rfl,rfl⟩⟩
theorem ev_spec_OwnSame (m m':M) (hm:m.isOwn=false) (hm':m'.isOwn=false) (a b:OwnT) (hb:ownB b):ev E 139 [.v m true (ownL a),.v m' true (ownL b)]=some (rB (sameOwn a b)):=by
  have h1:=fun m m'=>ev_Sspans m m' a.h b.h (by have:=hb.1;omega)
  have h2:=fun m m'=>ev_Sspans m m' a.d b.d (by have:=hb.2;omega)
  simp only [eqL_dec sameSp_iff] at h1 h2
  simp only [sameOwn]
  generalize decide (a.h=b.h)=e2 at *
  generalize decide (a.d=b.d)=e3 at *
  rw [ev_fn Tryz.f139 rfl Tryz.func139 rfl rfl rfl (Nat.le_of_ble_eq_true rfl)]
  cases e1:eqS a.t b.t<;>cases e2<;>cases e3<;>simp [e1,hm,hm',h1,h2]
theorem ev_impl_OwnSame2 (m m':M) (hm:m.isOwn=false) (hm':m'.isOwn=false) (a b:OwnT) (hb:ownB b):ev E 48 [.v m true (ownL a),.v m' true (ownL b)]=some (rB (sameOwn a b)) :=
  ev_OwnSame m m' hm hm' a.t b.t a.h a.d b.h b.d (by have:=hb.1;omega) (by have:=hb.2;omega)
theorem ev_LockSameFn (m m':M) (hm:m.isOwn=false) (hm':m'.isOwn=false) (a b:HoldT) (hb:holdB b):ev E 37 [.v m true (holdL a),.v m' true (holdL b)]=some (rB (sameHold a b)):=by
  have h1:=fun m m'=>ev_Equal m m' a.r b.r (by have:=hb.1;omega)
  have h2:=fun m m'=>ev_Equal m m' a.w b.w (by have:=hb.2;omega)
  simp only [sameHold]
  generalize decide (a.r=b.r)=e1 at *
  generalize decide (a.w=b.w)=e2 at *
  rw [ev_fn Tryz.f37 rfl Tryz.func37 rfl rfl rfl (Nat.le_of_ble_eq_true rfl)]
  cases e1<;>cases e2<;>simp [hm,hm',h1,h2]
theorem lp_Fholds (m m' mf:M) (hm:m.isOwn=false) (hm':m'.isOwn=false) (xs ys:List (HoldT)) (hl:xs.length=ys.length) (hb:ys.length≤4000000) (hk:∀ y∈ys,holdB y) (a:Code) (ha:a=lp Tryz.f36 0):∀ (n i:Nat),i+n=ys.length →
    loopC E (ev E) 36 a { V:=[(1,.v m' false [.sl (ys.map holdL)]),(2,.v mf false [.fn 37 []]),(15,.v m false [.sl (xs.map holdL)]),(16,vi ys.length),(17,vi i)],H:=[],ps:=[] } =
      if eqL sameHold (xs.drop i) (ys.drop i)=true then some (.exit 0,{ V:=[(1,.v m' false [.sl (ys.map holdL)]),(2,.v mf false [.fn 37 []]),(15,.v m false [.sl (xs.map holdL)]),(16,vi ys.length),(17,vi ys.length),(18,vb false)],H:=[],ps:=[] })
      else some (.ret,{ V:=[(6,vb false)],H:=[],ps:=[] })
  | 0,i,h=>by
    rw [loopC_of _ _ _ _ ha,eqL_end (by omega) (by omega)]
    obtain rfl:i=ys.length:=by omega
    simp [lp,loopsOf,Tryz.f36]
  | n+1,i,h=>by
    have hlt:i<ys.length:=by omega
    have hlx:i<xs.length:=by omega
    have ih:=lp_Fholds m m' mf hm hm' xs ys hl hb hk a ha n (i+1) (by omega)
    push_cast at ih
    have hw:=wrapN i (by omega)
    have c:=fun m m' hm hm'=>ev_LockSameFn m m' hm hm' xs[i] ys[i] (hk _ (List.getElem_mem hlt))
    rw [loopC_of _ _ _ _ ha,eqL_drop hlx hlt]
    clear ha
    generalize eqL sameHold (xs.drop (i+1)) (ys.drop (i+1))=r at ih ⊢
    cases e:sameHold xs[i] ys[i]<;>simp [lp,loopsOf,Tryz.f36,hlt,hlx,hw,e,ih,c,hm,hm']
theorem ev_Fholds (m m' mf:M) (hm:m.isOwn=false) (hm':m'.isOwn=false) (xs ys:List (HoldT)) (hb:ys.length≤4000000) (hk:∀ y∈ys,holdB y):ev E 36 [.v m false [.sl (xs.map holdL)],.v m' false [.sl (ys.map holdL)],.v mf false [.fn 37 []]]=some (rB (eqL sameHold xs ys)):=by
  rw [ev_fn Tryz.f36 rfl Tryz.func36 rfl rfl rfl (Nat.le_of_ble_eq_true rfl)]
  by_cases h:xs.length=ys.length
  · have hl:=fun a ha=>lp_Fholds m m' mf hm hm' xs ys h hb hk a ha ys.length 0 (by omega)
    push_cast at hl
    simp only [List.drop_zero] at hl
    simp [h]
    rw [hl _ ?_]
    · cases eqL sameHold xs ys<;>simp
    · rfl
  · have e2:eqI xs.length ys.length=false:=by simp [eqI];omega
    rw [eqL_len xs ys h]
    simp [e2]
theorem ev_impl_LockSame (m m':M) (hm:m.isOwn=false) (hm':m'.isOwn=false) (xs ys:List HoldT) (hb:ys.length≤4000000) (hk:∀ y∈ys,holdB y):ev E 17 [.v m false [.sl (xs.map holdL)],.v m' false [.sl (ys.map holdL)]]=some (rB (eqL sameHold xs ys)):=by
  have c:=fun m m' mf hm hm'=>ev_Fholds m m' mf hm hm' xs ys hb hk
  rw [ev_fn Tryz.f17 rfl Tryz.func17 rfl rfl rfl (Nat.le_of_ble_eq_true rfl)]
  simp [c,hm,hm']
def sameStore (a b:StoreT):Bool:=eqL eqS a.now b.now&&(eqL eqS a.sure b.sure&&(eqL eqI a.last b.last&&(eqL eqI a.slast b.slast&&eqL eqI a.floors b.floors)))
theorem ev_impl_StoreSame (m m':M) (hm:m.isOwn=false) (hm':m'.isOwn=false) (a b:StoreT) (hb:StoreB b):ev E 52 [.v m true (storeL a),.v m' true (storeL b)]=some (rB (sameStore a b)):=by
  have c1:=fun m m'=>ev_Estrs m m' a.now b.now (by have:=hb.now;omega)
  have c2:=fun m m'=>ev_Estrs m m' a.sure b.sure (by have:=hb.sure;omega)
  have c3:=fun m m'=>ev_Eints m m' a.last b.last (by have:=hb.last;omega)
  have c4:=fun m m'=>ev_Eints m m' a.slast b.slast (by have:=hb.slast;omega)
  have c5:=fun m m'=>ev_Eints m m' a.floors b.floors (by have:=hb.floors;omega)
  simp only [sameStore]
  generalize eqL eqS a.now b.now=e1 at *
  generalize eqL eqS a.sure b.sure=e2 at *
  generalize eqL eqI a.last b.last=e3 at *
  generalize eqL eqI a.slast b.slast=e4 at *
  generalize eqL eqI a.floors b.floors=e5 at *
  rw [ev_fn Tryz.f52 rfl Tryz.func52 rfl rfl rfl (Nat.le_of_ble_eq_true rfl)]
  cases e1<;>cases e2<;>cases e3<;>cases e4<;>simp [c1,c2,c3,c4,c5,hm,hm']
theorem ev_spec_StoreSame (m m':M) (hm:m.isOwn=false) (hm':m'.isOwn=false) (a b:StoreT) (hb:StoreB b):ev E 143 [.v m true (storeL a),.v m' true (storeL b)]=some (rB (sameStore a b)):=by
  have c1:=fun m m'=>ev_Sstrs m m' a.now b.now (by have:=hb.now;omega)
  have c2:=fun m m'=>ev_Sstrs m m' a.sure b.sure (by have:=hb.sure;omega)
  have c3:=fun m m'=>ev_Sints m m' a.last b.last (by have:=hb.last;omega)
  have c4:=fun m m'=>ev_Sints m m' a.slast b.slast (by have:=hb.slast;omega)
  have c5:=fun m m'=>ev_Sints m m' a.floors b.floors (by have:=hb.floors;omega)
  simp only [sameStore]
  generalize eqL eqS a.now b.now=e1 at *
  generalize eqL eqS a.sure b.sure=e2 at *
  generalize eqL eqI a.last b.last=e3 at *
  generalize eqL eqI a.slast b.slast=e4 at *
  generalize eqL eqI a.floors b.floors=e5 at *
  rw [ev_fn Tryz.f143 rfl Tryz.func143 rfl rfl rfl (Nat.le_of_ble_eq_true rfl)]
  cases e1<;>cases e2<;>cases e3<;>cases e4<;>simp [c1,c2,c3,c4,c5,hm,hm']
end Go.Ev


namespace Go.Ev
theorem whole_ok:spOk whole=true:=by decide
theorem inSp_whole {j:Nat} (h:j<48):inSp j whole=true:=inSp_iff.2 (by simp only [whole];omega)
theorem cut_whole {d:List Sp} (hd:spsOk d=true):cutS d whole=[]:=by
  refine can_eq (of_can _).1 (spsOk_can (by decide)) fun j hj=>?_
  rw [cutS_get d whole j hj,inSp_whole hj]
  rfl
end Go.Ev


set_option maxRecDepth 100000
set_option maxHeartbeats 4000000
namespace Go.Ev
open Go.Proofs
structure StoreC (s:StoreT):Prop extends StoreB s where
  nowT:∀ x∈s.now,x.length≤4000000
  sureT:∀ x∈s.sure,x.length≤4000000
theorem StoreP.bd {s:StoreT} (h:StoreP s):StoreC s :=
  ⟨⟨by have:=h.now;omega,by have:=h.sure;omega,by have:=h.last;omega,by have:=h.slast;omega,by have:=h.floors;omega⟩,fun x hx=>by have:=txtOk_len (h.nowT x hx);omega,fun x hx=>by have:=txtOk_len (h.sureT x hx);omega⟩
def txtsAt (s:StoreT) (i:Nat):Bool:=txtOk (s.now.getD i [])&&txtOk (s.sure.getD i [])
theorem all3 {α:Type} (p:α→Bool) (d:α) {xs:List α} (h:xs.length=3):xs.all p=allTo (fun i=>p (xs.getD i d)) 3 0:=by
  rw [list3 d h]
  simp [allTo]
theorem storeOk_I (s:StoreT):storeOk s=(eqI s.now.length 3&&(eqI s.sure.length 3&&(eqI s.last.length 3&&(eqI s.slast.length 3&&(eqI s.floors.length 3&&(allTo (txtsAt s) 3 0&&allTo (numsOk s) 3 0)))))):=by
  by_cases h1:s.now.length=3
  · by_cases h2:s.sure.length=3
    · have e:allTo (txtsAt s) 3 0=(s.now.all txtOk&&s.sure.all txtOk):=by
        rw [all3 txtOk [] h1,all3 txtOk [] h2]
        rw [Bool.eq_iff_iff]
        simp only [Bool.and_eq_true,allTo_iff,txtsAt]
        exact ⟨fun h=>⟨fun j a b=>(h j a b).1,fun j a b=>(h j a b).2⟩,fun h j a b=>⟨h.1 j a b,h.2 j a b⟩⟩
      have e1:eqI s.now.length 3=true:=eqI3.2 h1
      have e2:eqI s.sure.length 3=true:=eqI3.2 h2
      rw [e,storeOk,textsOk,textsOk,e1,e2]
      generalize s.now.all txtOk=a1
      generalize s.sure.all txtOk=a2
      generalize allTo (numsOk s) 3 0=a3
      generalize eqI s.last.length 3=a4
      generalize eqI s.slast.length 3=a5
      generalize eqI s.floors.length 3=a6
      revert a1 a2 a3 a4 a5 a6
      decide
    · have e2:eqI s.sure.length 3=false:=by rw [← Bool.not_eq_true,eqI3];exact h2
      simp [storeOk,textsOk,e2]
  · have e2:eqI s.now.length 3=false:=by rw [← Bool.not_eq_true,eqI3];exact h1
    simp [storeOk,textsOk,e2]
theorem getD_lt {α:Type} {xs:List α} {i:Nat} (d:α) (h:i<xs.length):xs.getD i d=xs[i]:=by
  rw [List.getD_eq_getElem?_getD,List.getElem?_eq_getElem h];rfl
theorem lp_iStoreOk0 (m:M) (hm:m.isOwn=false) (s:StoreT) (b:StoreC s) (h1:s.now.length=3) (h2:s.sure.length=3) (a:Code) (ha:a=lp Tryz.f46 0):∀ (n i:Nat),i+n=3 →
    loopC E (ev E) 46 a { V:=[(1,adc 1),(33,vi i)],H:=[bxm (.c 1) m (storeL s)],ps:=[] } =
      if allTo (txtsAt s) n i=true then some (.exit 0,{ V:=[(1,adc 1),(33,vi 3),(34,vb false)],H:=[bxm (.c 1) m (storeL s)],ps:=[] })
      else some (.ret,{ V:=[(2,vb false)],H:=[],ps:=[] })
  | 0,i,h=>by
    rw [loopC_of _ _ _ _ ha]
    obtain rfl:i=3:=by omega
    simp [lp,loopsOf,Tryz.f46,allTo,hm]
  | n+1,i,h=>by
    have hI:(i:Int)<3:=by omega
    have hn:i<s.now.length:=by omega
    have hs:i<s.sure.length:=by omega
    have ih:=lp_iStoreOk0 m hm s b h1 h2 a ha n (i+1) (by omega)
    push_cast at ih
    have hw:=wrapN i (by omega)
    have c1:∀ m,ev E 34 [.v m false [.str s.now[i]]]=some (rB (txtOk s.now[i])):=fun m=>ev_impl_TextOk m _ (by have:=b.nowT _ (List.getElem_mem hn);omega)
    have c2:∀ m,ev E 34 [.v m false [.str s.sure[i]]]=some (rB (txtOk s.sure[i])):=fun m=>ev_impl_TextOk m _ (by have:=b.sureT _ (List.getElem_mem hs);omega)
    rw [loopC_of _ _ _ _ ha,allTo]
    have hg:txtsAt s i=(txtOk s.now[i]&&txtOk s.sure[i]):=by rw [txtsAt,getD_lt _ hn,getD_lt _ hs]
    rw [hg]
    clear ha hg
    generalize allTo (txtsAt s) n (i+1)=r at ih ⊢
    cases e1:txtOk s.now[i]
    · simp [lp,loopsOf,Tryz.f46,hI,hn,hs,hw,hm,c1,c2,e1]
    · cases e2:txtOk s.sure[i]<;>simp [lp,loopsOf,Tryz.f46,hI,hn,hs,hw,hm,c1,c2,e1,e2,ih]
theorem lp_iStoreOk1 (m:M) (hm:m.isOwn=false) (s:StoreT) (h1:s.last.length=3) (h2:s.slast.length=3) (h3:s.floors.length=3) (a:Code) (ha:a=lp Tryz.f46 1):∀ (n i:Nat),i+n=3 →
    loopC E (ev E) 46 a { V:=[(1,adc 1),(53,vi i)],H:=[bxm (.c 1) m (storeL s)],ps:=[] } =
      if allTo (numsOk s) n i=true then some (.exit 2,{ V:=[(1,adc 1),(53,vi 3),(54,vb false)],H:=[bxm (.c 1) m (storeL s)],ps:=[] })
      else some (.ret,{ V:=[(2,vb false)],H:=[],ps:=[] })
  | 0,i,h=>by
    rw [loopC_of _ _ _ _ ha]
    obtain rfl:i=3:=by omega
    simp [lp,loopsOf,Tryz.f46,allTo,hm]
  | n+1,i,h=>by
    have hI:(i:Int)<3:=by omega
    have hl:i<s.last.length:=by omega
    have hs:i<s.slast.length:=by omega
    have hf:i<s.floors.length:=by omega
    have ih:=lp_iStoreOk1 m hm s h1 h2 h3 a ha n (i+1) (by omega)
    push_cast at ih
    have hw:=wrapN i (by omega)
    rw [loopC_of _ _ _ _ ha,allTo]
    rw [numsOk,getD_lt _ hl,getD_lt _ hs,getD_lt _ hf]
    clear ha
    generalize allTo (numsOk s) n (i+1)=r at ih ⊢
    cases e1:ltI s.slast[i] 0
    · cases e2:ltI s.last[i] s.slast[i]
      · cases e3:ltI 1000 s.last[i]
        · cases e4:ltI s.floors[i] 0
          · cases e5:ltI 100 s.floors[i]<;>simp [lp,loopsOf,Tryz.f46,hI,hl,hs,hf,hw,hm,e1,e2,e3,e4,e5,ih]
          · simp [lp,loopsOf,Tryz.f46,hI,hl,hs,hf,hw,hm,e1,e2,e3,e4]
        · simp [lp,loopsOf,Tryz.f46,hI,hl,hs,hf,hw,hm,e1,e2,e3]
      · simp [lp,loopsOf,Tryz.f46,hI,hl,hs,hf,hw,hm,e1,e2]
    · simp [lp,loopsOf,Tryz.f46,hI,hl,hs,hf,hw,hm,e1]
theorem ev_impl_StoreOk (m:M) (hm:m.isOwn=false) (s:StoreT) (b:StoreC s):ev E 46 [.v m true (storeL s)]=some (rB (storeOk s)):=by
  rw [storeOk_I]
  rw [ev_fn Tryz.f46 rfl Tryz.func46 rfl rfl rfl (Nat.le_of_ble_eq_true rfl)]
  cases e1:eqI s.now.length 3
  · simp [e1,hm]
  · cases e2:eqI s.sure.length 3
    · simp [e1,e2,hm]
    · cases e3:eqI s.last.length 3
      · simp [e1,e2,e3,hm]
      · cases e4:eqI s.slast.length 3
        · simp [e1,e2,e3,e4,hm]
        · cases e5:eqI s.floors.length 3
          · simp [e1,e2,e3,e4,e5,hm]
          · have l0:=lp_iStoreOk0 m hm s b (eqI3.1 e1) (eqI3.1 e2) _ rfl 3 0 (by omega)
            have l1:=lp_iStoreOk1 m hm s (eqI3.1 e3) (eqI3.1 e4) (eqI3.1 e5) _ rfl 3 0 (by omega)
            push_cast at l0 l1
            simp [e1,e2,e3,e4,e5,hm]
            rw [loopC_at ?_ l0]
            · cases e6:allTo (txtsAt s) 3 0
              · simp
              · simp
                rw [loopC_at ?_ l1]
                · cases e7:allTo (numsOk s) 3 0<;>simp
                · rfl
            · rfl
theorem ev_CloneI (m:M) (xs:List (Int)) (hb:xs.length≤4000000):ev E 80 [.v m false [.sl (xs.map (fun n:Int=>[L.int .i64 n]))]]=some { rs:=[.v .own false [.sl (xs.map (fun n:Int=>[L.int .i64 n]))]],outs:=[] }:=by
  have h1:xs.length*8≤17592186044416:=by omega
  have h2:xs.length≤17592186044416:=by omega
  rw [ev_eq]
  simp [cloneK,h1,h2]
theorem ev_CloneB (m:M) (xs:List (Bool)) (hb:xs.length≤4000000):ev E 81 [.v m false [.sl (xs.map (fun b:Bool=>[L.bool b]))]]=some { rs:=[.v .own false [.sl (xs.map (fun b:Bool=>[L.bool b]))]],outs:=[] }:=by
  have h1:xs.length*1≤17592186044416:=by omega
  have h2:xs.length≤17592186044416:=by omega
  rw [ev_eq]
  simp [cloneK,h1,h2]
theorem ev_CloneS (m:M) (xs:List (Bs)) (hb:xs.length≤4000000):ev E 109 [.v m false [.sl (xs.map (fun s:Bs=>[L.str s]))]]=some { rs:=[.v .own false [.sl (xs.map (fun s:Bs=>[L.str s]))]],outs:=[] }:=by
  have h1:xs.length*16≤17592186044416:=by omega
  have h2:xs.length≤17592186044416:=by omega
  rw [ev_eq]
  simp [cloneK,h1,h2]
theorem ev_CloneR (m:M) (xs:List (ReqT)) (hb:xs.length≤4000000):ev E 82 [.v m false [.sl (xs.map (reqL))]]=some { rs:=[.v .own false [.sl (xs.map (reqL))]],outs:=[] }:=by
  have h1:xs.length*56≤17592186044416:=by omega
  have h2:xs.length≤17592186044416:=by omega
  rw [ev_eq]
  simp [cloneK,h1,h2]
theorem ev_again (m:M) (hm:m.isOwn=false) (s:StoreT) (b:StoreB s):ev E 78 [.v m true (storeL s)]=some { rs:=[.v .own true (storeL s)],outs:=[] }:=by
  obtain ⟨b1,b2,b3,b4,b5⟩:=b
  have c1:=fun m=>ev_CloneS m s.now b1
  have c2:=fun m=>ev_CloneS m s.sure b2
  have c3:=fun m=>ev_CloneI m s.last b3
  have c4:=fun m=>ev_CloneI m s.slast b4
  have c5:=fun m=>ev_CloneI m s.floors b5
  rw [ev_fn Tryz.f78 rfl Tryz.func78 rfl rfl rfl (Nat.le_of_ble_eq_true rfl)]
  simp [hm,c1,c2,c3,c4,c5]
theorem ev_l5Copy (m:M) (hm:m.isOwn=false) (s:StoreT) (b:StoreB s):ev E 102 [.v m true (storeL s)]=some { rs:=[.v .own true (storeL s)],outs:=[] }:=by
  obtain ⟨b1,b2,b3,b4,b5⟩:=b
  have h1:s.now.length*16≤17592186044416:=by omega
  have h2:s.now.length≤17592186044416:=by omega
  have h3:s.sure.length*16≤17592186044416:=by omega
  have h4:s.sure.length≤17592186044416:=by omega
  have h5:s.last.length*8≤17592186044416:=by omega
  have h6:s.last.length≤17592186044416:=by omega
  have h7:s.slast.length*8≤17592186044416:=by omega
  have h8:s.slast.length≤17592186044416:=by omega
  have h9:s.floors.length*8≤17592186044416:=by omega
  have h10:s.floors.length≤17592186044416:=by omega
  rw [ev_fn Tryz.f102 rfl Tryz.func102 rfl rfl rfl (Nat.le_of_ble_eq_true rfl)]
  simp [hm,h1,h2,h3,h4,h5,h6,h7,h8,h9,h10]
theorem lp_l5Texts (m:M) (hm:m.isOwn=false) (xs:List Bs) (hb:xs.length≤4000000) (hx:∀ x∈xs,x.length≤4000000) (a:Code) (ha:a=lp Tryz.f162 0):∀ (n i:Nat),i+n=xs.length →
    loopC E (ev E) 162 a { V:=[(0,.v m false [.sl (strsL xs)]),(3,vi i)],H:=[],ps:=[] } =
      if (xs.drop i).all txtOk=true then some (.exit 0,{ V:=[(0,.v m false [.sl (strsL xs)]),(3,vi xs.length),(7,vb false)],H:=[],ps:=[] })
      else some (.ret,{ V:=[(2,vb false)],H:=[],ps:=[] })
  | 0,i,h=>by
    rw [loopC_of _ _ _ _ ha]
    obtain rfl:i=xs.length:=by omega
    simp [lp,loopsOf,Tryz.f162]
  | n+1,i,h=>by
    have hlt:i<xs.length:=by omega
    have ih:=lp_l5Texts m hm xs hb hx a ha n (i+1) (by omega)
    push_cast at ih
    have hw:=wrapN i (by omega)
    have c1:∀ m,ev E 169 [.v m false [.str xs[i]]]=some (rB (txtOk xs[i])):=fun m=>ev_spec_TextOk m _ (by have:=hx _ (List.getElem_mem hlt);omega)
    rw [loopC_of _ _ _ _ ha,List.drop_eq_getElem_cons hlt,List.all_cons]
    clear ha
    generalize (xs.drop (i+1)).all txtOk=r at ih ⊢
    cases e1:txtOk xs[i]<;>simp [lp,loopsOf,Tryz.f162,hlt,hw,hm,c1,e1,ih]
theorem ev_l5Texts (m:M) (hm:m.isOwn=false) (xs:List Bs) (hb:xs.length≤4000000) (hx:∀ x∈xs,x.length≤4000000):ev E 162 [.v m false [.sl (strsL xs)]]=some (rB (textsOk xs)):=by
  have l0:=fun a ha=>lp_l5Texts m hm xs hb hx a ha xs.length 0 (by omega)
  push_cast at l0
  simp only [List.drop_zero] at l0
  rw [ev_fn Tryz.f162 rfl Tryz.func162 rfl rfl rfl (Nat.le_of_ble_eq_true rfl)]
  rw [textsOk]
  generalize xs.all txtOk=r at l0 ⊢
  simp
  rw [l0 _ ?_]
  · cases r<;>simp
  · rfl
theorem lp_sStoreOk (m:M) (hm:m.isOwn=false) (s:StoreT) (h1:s.last.length=3) (h2:s.slast.length=3) (h3:s.floors.length=3) (a:Code) (ha:a=lp Tryz.f111 0):∀ (n i:Nat),i+n=3 →
    loopC E (ev E) 111 a { V:=[(1,adc 1),(3,vi i)],H:=[bxm (.c 1) m (storeL s)],ps:=[] } =
      if allTo (numsOk s) n i=true then some (.exit 0,{ V:=[(1,adc 1),(3,vi 3),(33,vb false)],H:=[bxm (.c 1) m (storeL s)],ps:=[] })
      else some (.ret,{ V:=[(2,vb false)],H:=[],ps:=[] })
  | 0,i,h=>by
    rw [loopC_of _ _ _ _ ha]
    obtain rfl:i=3:=by omega
    simp [lp,loopsOf,Tryz.f111,allTo,hm]
  | n+1,i,h=>by
    have hI:(i:Int)<3:=by omega
    have hl:i<s.last.length:=by omega
    have hs:i<s.slast.length:=by omega
    have hf:i<s.floors.length:=by omega
    have ih:=lp_sStoreOk m hm s h1 h2 h3 a ha n (i+1) (by omega)
    push_cast at ih
    have hw:=wrapN i (by omega)
    rw [loopC_of _ _ _ _ ha,allTo]
    rw [numsOk,getD_lt _ hl,getD_lt _ hs,getD_lt _ hf]
    clear ha
    generalize allTo (numsOk s) n (i+1)=r at ih ⊢
    cases e1:ltI s.slast[i] 0
    · cases e2:ltI s.last[i] s.slast[i]
      · cases e3:ltI 1000 s.last[i]
        · cases e4:ltI s.floors[i] 0
          · cases e5:ltI 100 s.floors[i]<;>simp [lp,loopsOf,Tryz.f111,hI,hl,hs,hf,hw,hm,e1,e2,e3,e4,e5,ih]
          · simp [lp,loopsOf,Tryz.f111,hI,hl,hs,hf,hw,hm,e1,e2,e3,e4]
        · simp [lp,loopsOf,Tryz.f111,hI,hl,hs,hf,hw,hm,e1,e2,e3]
      · simp [lp,loopsOf,Tryz.f111,hI,hl,hs,hf,hw,hm,e1,e2]
    · simp [lp,loopsOf,Tryz.f111,hI,hl,hs,hf,hw,hm,e1]
theorem ev_spec_StoreOk (m:M) (hm:m.isOwn=false) (s:StoreT) (b:StoreC s):ev E 111 [.v m true (storeL s)]=some (rB (storeOk s)):=by
  have c1:=fun m hm=>ev_l5Texts m hm s.now b.now b.nowT
  have c2:=fun m hm=>ev_l5Texts m hm s.sure b.sure b.sureT
  rw [storeOk]
  rw [ev_fn Tryz.f111 rfl Tryz.func111 rfl rfl rfl (Nat.le_of_ble_eq_true rfl)]
  cases e1:textsOk s.now
  · simp [c1,c2,e1,hm]
  · cases e2:textsOk s.sure
    · simp [c1,c2,e1,e2,hm]
    · cases e3:eqI s.last.length 3
      · simp [c1,c2,e1,e2,e3,hm]
      · cases e4:eqI s.slast.length 3
        · simp [c1,c2,e1,e2,e3,e4,hm]
        · cases e5:eqI s.floors.length 3
          · simp [c1,c2,e1,e2,e3,e4,e5,hm]
          · have l1:=lp_sStoreOk m hm s (eqI3.1 e3) (eqI3.1 e4) (eqI3.1 e5) _ rfl 3 0 (by omega)
            push_cast at l1
            simp [c1,c2,e1,e2,e3,e4,e5,hm]
            rw [loopC_at ?_ l1]
            · cases e7:allTo (numsOk s) 3 0<;>simp
            · rfl
end Go.Ev


set_option maxRecDepth 100000
set_option maxHeartbeats 4000000
namespace Go.Ev
open Go.Proofs
def noS:StoreT:=⟨[],[],[],[],[]⟩
theorem ev_impl_client (m:M) (k:Int):ev E 40 [.v m false [.int .i64 k]]=some (rB (whoOk k)):=by
  rw [ev_fn Tryz.f40 rfl Tryz.func40 rfl rfl rfl (Nat.le_of_ble_eq_true rfl)]
  cases e1:ltI k 0<;>cases e2:ltI k 3<;>simp [whoOk,e1,e2]
theorem ev_spec_l4Who (m:M) (k:Int):ev E 98 [.v m false [.int .i64 k]]=some (rB (whoOk k)):=by
  rw [ev_fn Tryz.f98 rfl Tryz.func98 rfl rfl rfl (Nat.le_of_ble_eq_true rfl)]
  cases e1:ltI k 0<;>cases e2:ltI k 3<;>simp [whoOk,e1,e2]
theorem ev_formed (m:M) (q:ReqT) (hq:q.data.length≤4000000):ev E 53 [.v m true (reqL q)]=some (rB (reqOk q)):=by
  have c1:=fun m m' m''=>ev_impl_TextWrite m m' m'' [] q.data q.pos (by simp) hq
  have c2:=fun m=>ev_impl_client m q.who
  have h2:(twS [] q.pos q.data).2=wrOk q.pos q.data:=by
    have:txtOk []=true:=by decide
    unfold twS
    rw [if_pos this]
    cases wrOk q.pos q.data<;>rfl
  rw [h2] at c1
  rw [reqOk]
  generalize (twS [] q.pos q.data).1=z at c1
  generalize wrOk q.pos q.data=e8 at *
  rw [ev_fn Tryz.f53 rfl Tryz.func53 rfl rfl rfl (Nat.le_of_ble_eq_true rfl)]
  cases e1:whoOk q.who
  · simp [c1,c2,e1]
  · cases e2:ltI q.epoch 0
    · cases e3:ltI 100 q.epoch
      · cases e4:ltI q.num 1
        · cases e5:ltI 1000 q.num
          · cases e6:ltI q.obj 0
            · cases e7:ltI q.obj 3<;>simp [c1,c2,e1,e2,e3,e4,e5,e6,e7]
            · simp [c1,c2,e1,e2,e3,e4,e5,e6]
          · simp [c1,c2,e1,e2,e3,e4,e5]
        · simp [c1,c2,e1,e2,e3,e4]
      · simp [c1,c2,e1,e2,e3]
    · simp [c1,c2,e1,e2]
theorem ev_l5Req (m:M) (q:ReqT) (hq:q.data.length≤4000000):ev E 142 [.v m true (reqL q)]=some (rB (reqOk q)):=by
  have c1:∀ m,ev E 169 [.v m false [.str q.data]]=some (rB (txtOk q.data)):=fun m=>ev_spec_TextOk m q.data (by omega)
  have c2:=fun m=>ev_spec_l4Who m q.who
  have hwr:wrOk q.pos q.data=(!ltI q.pos 0&&!ltI 48 q.pos&&txtOk q.data&&!eqS q.data []&&!ltI 48 (q.pos+q.data.length)):=rfl
  have hw:ltI q.pos 0=false→ltI 48 q.pos=false→IntKind.i64.wrap (q.pos+q.data.length)=q.pos+q.data.length:=fun a b=>by
    rw [ltI_not] at a b
    rw [wrap64];omega
  rw [reqOk,hwr]
  rw [ev_fn Tryz.f142 rfl Tryz.func142 rfl rfl rfl (Nat.le_of_ble_eq_true rfl)]
  cases e1:whoOk q.who
  · simp [c1,c2,hw,e1]
  · cases e2:ltI q.epoch 0
    · cases e3:ltI 100 q.epoch
      · cases e4:ltI q.num 1
        · cases e5:ltI 1000 q.num
          · cases e6:ltI q.obj 0
            · cases e7:ltI q.obj 3
              · simp [c1,c2,hw,e1,e2,e3,e4,e5,e6,e7]
              · cases e8:ltI q.pos 0
                · cases e9:ltI 48 q.pos
                  · cases e10:txtOk q.data
                    · simp [c1,c2,hw,e1,e2,e3,e4,e5,e6,e7,e8,e9,e10]
                    · cases e11:eqS q.data []
                      · cases e12:ltI 48 (q.pos+q.data.length)<;>simp [c1,c2,hw,e1,e2,e3,e4,e5,e6,e7,e8,e9,e10,e11,e12]
                      · simp [c1,c2,hw,e1,e2,e3,e4,e5,e6,e7,e8,e9,e10,e11]
                  · simp [c1,c2,hw,e1,e2,e3,e4,e5,e6,e7,e8,e9]
                · simp [c1,c2,hw,e1,e2,e3,e4,e5,e6,e7,e8]
            · simp [c1,c2,hw,e1,e2,e3,e4,e5,e6]
          · simp [c1,c2,hw,e1,e2,e3,e4,e5]
        · simp [c1,c2,hw,e1,e2,e3,e4]
      · simp [c1,c2,hw,e1,e2,e3]
    · simp [c1,c2,hw,e1,e2]
theorem ev_l2Write (m m' m'':M) (s x:List UInt8) (k:Nat) (hk:k≤4000000) (hs:s.length≤4000000) (hx:x.length≤4000000):ev E 203 [.v m false [.str s],.v m' false [.int .i64 k],.v m'' false [.str x]]=some { rs:=[.v .own false [.str (wrS s k x)]],outs:=[] }:=by
  have c1:=fun m m'=>ev_l2Long m m' s k hk hs
  have hw:wrS s k x=(s++List.replicate (k - s.length) 46).take k++x++(s++List.replicate (k - s.length) 46).drop (min (s++List.replicate (k - s.length) 46).length (k+x.length)):=by
    unfold wrS
    congr 1
    simp only [List.drop_append,List.length_append,List.length_replicate]
    by_cases h:k≤s.length
    · simp [Nat.sub_eq_zero_of_le h]
      omega
    · rw [List.drop_of_length_le (by omega),List.drop_of_length_le (by omega)]
      simp
      omega
  rw [hw]
  have hl:(s++List.replicate (k - s.length) 46).length≤8000000∧k≤(s++List.replicate (k - s.length) 46).length:=by simp;omega
  generalize s++List.replicate (k - s.length) 46=z at *
  have hmi:minI (z.length:Int) ((k:Int)+x.length)=((min z.length (k+x.length):Nat):Int):=by simp only [minI,ltI,decide_eq_true_eq];split<;>omega
  have hwk:IntKind.i64.wrap ((k:Int)+x.length)=((k:Int)+x.length):=by rw [wrap64];omega
  have c2:=fun m m'=>ev_spec_l1Min m m' (z.length:Int) ((k:Int)+x.length)
  rw [hmi] at c2
  have h1:k+x.length≤4611686018427387904:=by omega
  have h2:k+(x.length+(z.length - min z.length (k+x.length)))≤4611686018427387904:=by omega
  have h3:k+x.length+(z.length - min z.length (k+x.length))≤4611686018427387904:=by omega
  have h4:min z.length (k+x.length)≤z.length:=by omega
  rw [ev_fn Tryz.f203 rfl Tryz.func203 rfl rfl rfl (Nat.le_of_ble_eq_true rfl)]
  simp [c1,c2,hl.2,hwk,h1,h2,h3,h4]
end Go.Ev


set_option maxRecDepth 100000
set_option maxHeartbeats 4000000
namespace Go.Ev
open Go.Proofs
theorem noS_L:storeL noS=[.sl [],.sl [],.sl [],.sl [],.sl []]:=rfl
def rSt (s:StoreT) (c:Int):Out:={ rs:=[.v .own true (storeL s),.v .own false [.int .i64 c]],outs:=[] }
def rS1 (s:StoreT):Out:={ rs:=[.v .own true (storeL s)],outs:=[] }
theorem ev_impl_StoreDo (m m':M) (hm:m.isOwn=false) (s:StoreT) (q:ReqT) (b:StoreC s) (hq:q.data.length≤4000000) :
    ev E 84 [.v m true (storeL s),.v m' true (reqL q)]=some (if storeOk s=true then rSt (storeDo s q).1 (storeDo s q).2 else rSt noS 1):=by
  have c1:=fun m hm=>ev_impl_StoreOk m hm s b
  have c2:=fun m hm=>ev_again m hm s b.toStoreB
  have c3:=fun m=>ev_formed m q hq
  rw [ev_fn Tryz.f84 rfl Tryz.func84 rfl rfl rfl (Nat.le_of_ble_eq_true rfl)]
  cases e0:storeOk s
  · simp [c1,e0,hm,rSt,noS]
  · have P:=storeOk_iff.1 e0
    cases e1:reqOk q
    · simp [c1,c2,c3,e0,e1,hm,rSt,storeDo]
    · obtain ⟨hw1,hw2,hw3,hw4,hw5⟩:=reqOk_iff.1 e1
      obtain ⟨who,epoch,num,obj,pos,data⟩:=q
      dsimp only at *
      obtain ⟨i,rfl⟩:∃ i:Nat,who=i:=⟨who.toNat,by omega⟩
      obtain ⟨k,rfl⟩:∃ k:Nat,obj=k:=⟨obj.toNat,by omega⟩
      have hi:i<3:=by omega
      have hf:i<s.floors.length:=by have:=P.floors;omega
      have hl:i<s.last.length:=by have:=P.last;omega
      have hk:k<s.now.length:=by have:=P.now;omega
      have hn:=P.nums i hi
      have hwl:IntKind.i64.wrap (s.last[i]+1)=s.last[i]+1:=by rw [getD_lt _ hl] at hn;rw [wrap64];omega
      have ht:=P.nowT _ (List.getElem_mem hk)
      have c4:=fun m m' m''=>ev_impl_TextWrite m m' m'' s.now[k] data pos (by have:=txtOk_len ht;omega) hq
      rw [twS_of ht hw5] at c4
      rw [storeDo,if_pos e1]
      dsimp only
      rw [Int.toNat_natCast,Int.toNat_natCast,getD_lt _ hf,getD_lt _ hl,getD_lt _ hk]
      cases e2:ltI epoch s.floors[i]
      · cases e3:ltI s.last[i] num
        · simp [c1,c2,c3,e0,e1,e2,e3,hm,rSt,hf,hl,hk]
        · cases e4:ltI (s.last[i]+1) num
          · simp [c1,c2,c3,c4,e0,e1,e2,e3,e4,hm,rSt,hf,hl,hk,hwl,List.map_set]
          · simp [c1,c2,c3,c4,e0,e1,e2,e3,e4,hm,rSt,hf,hl,hk,hwl]
      · simp [c1,c2,c3,e0,e1,e2,hm,rSt,hf,hl,hk]
theorem ev_l5Do (m':M) (s:StoreT) (q:ReqT) (P:StoreP s) (hq:q.data.length≤4000000) :
    ev E 185 [.own true (storeL s),.v m' true (reqL q)]=some (rSt (storeDo s q).1 (storeDo s q).2):=by
  have c3:=fun m=>ev_l5Req m q hq
  rw [ev_fn Tryz.f185 rfl Tryz.func185 rfl rfl rfl (Nat.le_of_ble_eq_true rfl)]
  cases e1:reqOk q
  · simp [c3,e1,rSt,storeDo]
  · obtain ⟨hw1,hw2,hw3,hw4,hw5⟩:=reqOk_iff.1 e1
    obtain ⟨who,epoch,num,obj,pos,data⟩:=q
    dsimp only at *
    obtain ⟨i,rfl⟩:∃ i:Nat,who=i:=⟨who.toNat,by omega⟩
    obtain ⟨k,rfl⟩:∃ k:Nat,obj=k:=⟨obj.toNat,by omega⟩
    obtain ⟨p,rfl⟩:∃ p:Nat,pos=p:=⟨pos.toNat,by have:=wrOk_len hw5;omega⟩
    have hi:i<3:=by omega
    have hf:i<s.floors.length:=by have:=P.floors;omega
    have hl:i<s.last.length:=by have:=P.last;omega
    have hk:k<s.now.length:=by have:=P.now;omega
    have hn:=P.nums i hi
    have hwl:IntKind.i64.wrap (s.last[i]+1)=s.last[i]+1:=by rw [getD_lt _ hl] at hn;rw [wrap64];omega
    have ht:=P.nowT _ (List.getElem_mem hk)
    have c4:=fun m m' m''=>ev_l2Write m m' m'' s.now[k] data p (by have:=wrOk_len hw5;omega) (by have:=txtOk_len ht;omega) hq
    rw [storeDo,if_pos e1]
    dsimp only
    rw [Int.toNat_natCast,Int.toNat_natCast,Int.toNat_natCast,getD_lt _ hf,getD_lt _ hl,getD_lt _ hk]
    cases e2:ltI epoch s.floors[i]
    · cases e3:ltI s.last[i] num
      · simp [c3,e1,e2,e3,rSt,hf,hl,hk]
      · cases e4:ltI (s.last[i]+1) num
        · simp [c3,c4,e1,e2,e3,e4,rSt,hf,hl,hk,hwl,List.map_set]
        · simp [c3,c4,e1,e2,e3,e4,rSt,hf,hl,hk,hwl]
    · simp [c3,e1,e2,rSt,hf,hl,hk]
theorem ev_spec_StoreDo (m m':M) (hm:m.isOwn=false) (s:StoreT) (q:ReqT) (b:StoreC s) (hq:q.data.length≤4000000) :
    ev E 147 [.v m true (storeL s),.v m' true (reqL q)]=some (if storeOk s=true then rSt (storeDo s q).1 (storeDo s q).2 else rSt noS 1):=by
  have c1:=fun m hm=>ev_spec_StoreOk m hm s b
  have c2:=fun m hm=>ev_l5Copy m hm s b.toStoreB
  rw [ev_fn Tryz.f147 rfl Tryz.func147 rfl rfl rfl (Nat.le_of_ble_eq_true rfl)]
  cases e0:storeOk s
  · simp [c1,e0,hm,rSt,noS]
  · have c3:=fun m'=>ev_l5Do m' s q (storeOk_iff.1 e0) hq
    simp [c1,c2,c3,e0,hm,rSt]
theorem lp_iStoreAll (m:M) (hm:m.isOwn=false) (qs:List ReqT) (hb:qs.length≤4000000) (hq:∀ q∈qs,q.data.length≤4000000) (a:Code) (ha:a=lp Tryz.f50 0):∀ (n i:Nat) (s:StoreT) (cs:List Int),i+n=qs.length→cs.length=i→StoreP s →
    loopC E (ev E) 50 a { V:=[(2,adc 2),(4,adc 4),(6,at1 6),(18,.v m false [.sl (qs.map reqL)]),(19,vi qs.length),(20,vi i)],H:=[bx (.c 2) (storeL s),bx (.c 4) (storeL noS),ow (.c 6) [.sl (intsL cs)]],ps:=[] } =
      some (.exit 0,{ V:=[(2,adc 2),(4,adc 4),(6,at1 6),(18,.v m false [.sl (qs.map reqL)]),(19,vi qs.length),(20,vi qs.length),(21,vb false)],H:=[bx (.c 2) (storeL (storeAll s (qs.drop i)).1),bx (.c 4) (storeL noS),ow (.c 6) [.sl (intsL (cs++(storeAll s (qs.drop i)).2))]],ps:=[] })
  | 0,i,s,cs,h,hc,P=>by
    rw [loopC_of _ _ _ _ ha]
    obtain rfl:i=qs.length:=by omega
    simp [lp,loopsOf,Tryz.f50,storeAll,noS]
  | n+1,i,s,cs,h,hc,P=>by
    have hlt:i<qs.length:=by omega
    have hw:=wrapN i (by omega)
    have ih:=lp_iStoreAll m hm qs hb hq a ha n (i+1) (storeDo s qs[i]).1 (cs++[(storeDo s qs[i]).2]) (by omega) (by simp;omega) (storeDo_ok _ P)
    push_cast at ih
    have c1:=fun m m' hm=>ev_impl_StoreDo m m' hm s qs[i] P.bd (hq _ (List.getElem_mem hlt))
    simp only [storeOk_iff.2 P,if_true,rSt] at c1
    have h1:(cs.length+1)*8≤17592186044416:=by omega
    have h2:cs.length+1≤17592186044416:=by omega
    rw [loopC_of _ _ _ _ ha,List.drop_eq_getElem_cons hlt,storeAll]
    clear ha
    generalize storeDo s qs[i]=r at c1 ih ⊢
    simp [lp,loopsOf,Tryz.f50,hlt,hw,c1,h1,h2,noS]
    simpa [noS] using ih
def rStA (s:StoreT) (cs:List Int):Out:={ rs:=[.v .own true (storeL s),.v .own false [.sl (intsL cs)]],outs:=[] }
theorem ev_impl_StoreAll (m m':M) (hm:m.isOwn=false) (hm':m'.isOwn=false) (s:StoreT) (qs:List ReqT) (b:StoreC s) (hb:qs.length≤4000000) (hq:∀ q∈qs,q.data.length≤4000000) :
    ev E 50 [.v m true (storeL s),.v m' false [.sl (qs.map reqL)]]=some (if storeOk s=true then rStA (storeAll s qs).1 (storeAll s qs).2 else rStA noS []):=by
  have c1:=fun m hm=>ev_impl_StoreOk m hm s b
  have c2:=fun m hm=>ev_again m hm s b.toStoreB
  rw [ev_fn Tryz.f50 rfl Tryz.func50 rfl rfl rfl (Nat.le_of_ble_eq_true rfl)]
  cases e0:storeOk s
  · simp [c1,e0,hm,rStA,noS]
  · have l0:=lp_iStoreAll m' hm' qs hb hq _ rfl qs.length 0 s [] (by omega) rfl (storeOk_iff.1 e0)
    push_cast at l0
    simp [c1,c2,e0,hm]
    simp only [List.drop_zero,List.nil_append] at l0
    rw [noS_L,show intsL []=[] from rfl] at l0
    rw [loopC_at ?_ l0]
    · simp [rStA]
    · rfl
theorem lp_sStoreAll (m:M) (hm:m.isOwn=false) (qs:List ReqT) (hb:qs.length≤4000000) (hq:∀ q∈qs,q.data.length≤4000000) (a:Code) (ha:a=lp Tryz.f140 0):∀ (n i:Nat) (s:StoreT) (cs:List Int),i+n=qs.length→cs.length=i→StoreP s →
    loopC E (ev E) 140 a { V:=[(1,.v m false [.sl (qs.map reqL)]),(4,adc 4),(6,at1 6),(7,adc 7),(8,vi i)],H:=[bx (.c 4) (storeL noS),ow (.c 6) [.sl (intsL cs)],bx (.c 7) (storeL s)],ps:=[] } =
      some (.exit 0,{ V:=[(1,.v m false [.sl (qs.map reqL)]),(4,adc 4),(6,at1 6),(7,adc 7),(8,vi qs.length),(21,vb false)],H:=[bx (.c 4) (storeL noS),ow (.c 6) [.sl (intsL (cs++(storeAll s (qs.drop i)).2))],bx (.c 7) (storeL (storeAll s (qs.drop i)).1)],ps:=[] })
  | 0,i,s,cs,h,hc,P=>by
    rw [loopC_of _ _ _ _ ha]
    obtain rfl:i=qs.length:=by omega
    simp [lp,loopsOf,Tryz.f140,storeAll,noS]
  | n+1,i,s,cs,h,hc,P=>by
    have hlt:i<qs.length:=by omega
    have hw:=wrapN i (by omega)
    have ih:=lp_sStoreAll m hm qs hb hq a ha n (i+1) (storeDo s qs[i]).1 (cs++[(storeDo s qs[i]).2]) (by omega) (by simp;omega) (storeDo_ok _ P)
    push_cast at ih
    have c1:=fun m'=>ev_l5Do m' s qs[i] P (hq _ (List.getElem_mem hlt))
    simp only [rSt] at c1
    have h1:(cs.length+1)*8≤17592186044416:=by omega
    have h2:cs.length+1≤17592186044416:=by omega
    rw [loopC_of _ _ _ _ ha,List.drop_eq_getElem_cons hlt,storeAll]
    clear ha
    generalize storeDo s qs[i]=r at c1 ih ⊢
    simp [lp,loopsOf,Tryz.f140,hlt,hw,c1,h1,h2,noS]
    simpa [noS] using ih
theorem ev_spec_StoreAll (m m':M) (hm:m.isOwn=false) (hm':m'.isOwn=false) (s:StoreT) (qs:List ReqT) (b:StoreC s) (hb:qs.length≤4000000) (hq:∀ q∈qs,q.data.length≤4000000) :
    ev E 140 [.v m true (storeL s),.v m' false [.sl (qs.map reqL)]]=some (if storeOk s=true then rStA (storeAll s qs).1 (storeAll s qs).2 else rStA noS []):=by
  have c1:=fun m hm=>ev_spec_StoreOk m hm s b
  have c2:=fun m hm=>ev_l5Copy m hm s b.toStoreB
  rw [ev_fn Tryz.f140 rfl Tryz.func140 rfl rfl rfl (Nat.le_of_ble_eq_true rfl)]
  cases e0:storeOk s
  · simp [c1,e0,hm,rStA,noS]
  · have l0:=lp_sStoreAll m' hm' qs hb hq _ rfl qs.length 0 s [] (by omega) rfl (storeOk_iff.1 e0)
    push_cast at l0
    simp [c1,c2,e0,hm]
    simp only [List.drop_zero,List.nil_append] at l0
    rw [noS_L,show intsL []=[] from rfl] at l0
    rw [loopC_at ?_ l0]
    · simp [rStA]
    · rfl
theorem ev_impl_StoreSync (m:M) (hm:m.isOwn=false) (s:StoreT) (b:StoreC s):ev E 83 [.v m true (storeL s)]=some (if storeOk s=true then rS1 (storeSync s) else rS1 noS):=by
  have c1:=fun m hm=>ev_impl_StoreOk m hm s b
  have c2:=fun m hm=>ev_again m hm s b.toStoreB
  have c3:=fun m=>ev_CloneS m s.now b.now
  have c4:=fun m=>ev_CloneI m s.last b.last
  rw [ev_fn Tryz.f83 rfl Tryz.func83 rfl rfl rfl (Nat.le_of_ble_eq_true rfl)]
  cases e0:storeOk s
  · simp [c1,e0,hm,rS1,noS]
  · simp [c1,c2,c3,c4,e0,hm,rS1,storeSync]
theorem ev_impl_StoreFall (m:M) (hm:m.isOwn=false) (s:StoreT) (b:StoreC s):ev E 51 [.v m true (storeL s)]=some (if storeOk s=true then rS1 (storeFall s) else rS1 noS):=by
  have c1:=fun m hm=>ev_impl_StoreOk m hm s b
  have c2:=fun m hm=>ev_again m hm s b.toStoreB
  have c3:=fun m=>ev_CloneS m s.sure b.sure
  have c4:=fun m=>ev_CloneI m s.slast b.slast
  rw [ev_fn Tryz.f51 rfl Tryz.func51 rfl rfl rfl (Nat.le_of_ble_eq_true rfl)]
  cases e0:storeOk s
  · simp [c1,e0,hm,rS1,noS]
  · simp [c1,c2,c3,c4,e0,hm,rS1,storeFall]
theorem ev_spec_StoreSync (m:M) (hm:m.isOwn=false) (s:StoreT) (b:StoreC s):ev E 60 [.v m true (storeL s)]=some (if storeOk s=true then rS1 (storeSync s) else rS1 noS):=by
  have c1:=fun m hm=>ev_spec_StoreOk m hm s b
  have c2:=fun m hm=>ev_l5Copy m hm s b.toStoreB
  have b1:=b.now
  have b2:=b.last
  have h1:s.now.length*16≤17592186044416:=by omega
  have h2:s.now.length≤17592186044416:=by omega
  have h3:s.last.length*8≤17592186044416:=by omega
  have h4:s.last.length≤17592186044416:=by omega
  rw [ev_fn Tryz.f60 rfl Tryz.func60 rfl rfl rfl (Nat.le_of_ble_eq_true rfl)]
  cases e0:storeOk s
  · simp [c1,e0,hm,rS1,noS]
  · simp [c1,c2,h1,h2,h3,h4,e0,hm,rS1,storeSync]
theorem ev_spec_StoreFall (m:M) (hm:m.isOwn=false) (s:StoreT) (b:StoreC s):ev E 141 [.v m true (storeL s)]=some (if storeOk s=true then rS1 (storeFall s) else rS1 noS):=by
  have c1:=fun m hm=>ev_spec_StoreOk m hm s b
  have c2:=fun m hm=>ev_l5Copy m hm s b.toStoreB
  have b1:=b.sure
  have b2:=b.slast
  have h1:s.sure.length*16≤17592186044416:=by omega
  have h2:s.sure.length≤17592186044416:=by omega
  have h3:s.slast.length*8≤17592186044416:=by omega
  have h4:s.slast.length≤17592186044416:=by omega
  rw [ev_fn Tryz.f141 rfl Tryz.func141 rfl rfl rfl (Nat.le_of_ble_eq_true rfl)]
  cases e0:storeOk s
  · simp [c1,e0,hm,rS1,noS]
  · simp [c1,c2,h1,h2,h3,h4,e0,hm,rS1,storeFall]
def rStB (s:StoreT) (c:Bool):Out:={ rs:=[.v .own true (storeL s),.v .own false [.bool c]],outs:=[] }
def fenceOk (who e:Int):Bool:=whoOk who&&(!ltI e 0&&!ltI 100 e)
def fenceT (s:StoreT) (who e:Int):Out:=if fenceOk who e=true then rStB (storeFence s who.toNat e) true else rStB s false
theorem ev_impl_StoreFence (m m' m'':M) (hm:m.isOwn=false) (s:StoreT) (who e:Int) (b:StoreC s):ev E 135 [.v m true (storeL s),.v m' false [.int .i64 who],.v m'' false [.int .i64 e]]=some (if storeOk s=true then fenceT s who e else rStB noS false):=by
  have c1:=fun m hm=>ev_impl_StoreOk m hm s b
  have c2:=fun m hm=>ev_again m hm s b.toStoreB
  have c3:=fun m=>ev_impl_client m who
  rw [ev_fn Tryz.f135 rfl Tryz.func135 rfl rfl rfl (Nat.le_of_ble_eq_true rfl)]
  cases e0:storeOk s
  · simp [c1,e0,hm,rStB,noS]
  · have P:=storeOk_iff.1 e0
    cases e1:whoOk who
    · simp [c1,c2,c3,e0,e1,hm,fenceT,fenceOk,rStB]
    · cases e2:ltI e 0
      · cases e3:ltI 100 e
        · simp only [whoOk,Bool.and_eq_true,Bool.not_eq_true',ltI_not,ltI_iff] at e1
          obtain ⟨i,rfl⟩:∃ i:Nat,who=i:=⟨who.toNat,by omega⟩
          have e1:whoOk i=true:=by simp only [whoOk,Bool.and_eq_true,Bool.not_eq_true',ltI_not,ltI_iff];exact e1
          have hf:i<s.floors.length:=by have:=P.floors;simp only [whoOk,Bool.and_eq_true,Bool.not_eq_true',ltI_not,ltI_iff] at e1;omega
          have c4:=fun m m'=>ev_spec_l1Max m m' s.floors[i] e
          simp only [fenceT,fenceOk,e1,e2,e3,Bool.not_false,Bool.true_and,if_true,storeFence,Int.toNat_natCast,getD_lt _ hf]
          simp [c1,c2,c3,c4,e0,e1,e2,e3,hm,rStB,hf,maxJ,List.map_set]
        · simp [c1,c2,c3,e0,e1,e2,e3,hm,fenceT,fenceOk,rStB]
      · simp [c1,c2,c3,e0,e1,e2,hm,fenceT,fenceOk,rStB]
theorem ev_spec_StoreFence (m m' m'':M) (hm:m.isOwn=false) (s:StoreT) (who e:Int) (b:StoreC s):ev E 150 [.v m true (storeL s),.v m' false [.int .i64 who],.v m'' false [.int .i64 e]]=some (if storeOk s=true then fenceT s who e else rStB noS false):=by
  have c1:=fun m hm=>ev_spec_StoreOk m hm s b
  have c2:=fun m hm=>ev_l5Copy m hm s b.toStoreB
  have c3:=fun m=>ev_spec_l4Who m who
  rw [ev_fn Tryz.f150 rfl Tryz.func150 rfl rfl rfl (Nat.le_of_ble_eq_true rfl)]
  cases e0:storeOk s
  · simp [c1,e0,hm,rStB,noS]
  · have P:=storeOk_iff.1 e0
    cases e1:whoOk who
    · simp [c1,c2,c3,e0,e1,hm,fenceT,fenceOk,rStB]
    · cases e2:ltI e 0
      · cases e3:ltI 100 e
        · simp only [whoOk,Bool.and_eq_true,Bool.not_eq_true',ltI_not,ltI_iff] at e1
          obtain ⟨i,rfl⟩:∃ i:Nat,who=i:=⟨who.toNat,by omega⟩
          have e1:whoOk i=true:=by simp only [whoOk,Bool.and_eq_true,Bool.not_eq_true',ltI_not,ltI_iff];exact e1
          have hf:i<s.floors.length:=by have:=P.floors;simp only [whoOk,Bool.and_eq_true,Bool.not_eq_true',ltI_not,ltI_iff] at e1;omega
          have c4:=fun m m'=>ev_spec_l1Max m m' s.floors[i] e
          simp only [fenceT,fenceOk,e1,e2,e3,Bool.not_false,Bool.true_and,if_true,storeFence,Int.toNat_natCast,getD_lt _ hf]
          simp [c1,c2,c3,c4,e0,e1,e2,e3,hm,rStB,hf,maxJ,List.map_set]
        · simp [c1,c2,c3,e0,e1,e2,e3,hm,fenceT,fenceOk,rStB]
      · simp [c1,c2,c3,e0,e1,e2,hm,fenceT,fenceOk,rStB]
end Go.Ev

