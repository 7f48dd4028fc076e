/- My texts joined: EvF, EvG, EvT1, EvT2, EvT3, EvT4, EvT5, EvT6, EvT7, EvT8, EvT9, EvT10. No condition. -/
import Derived.Test.YtikmfpdfippjhaaGreatDoorEn2
import Derived.Test.YtikmfpdfippjhaaGreatDoorEn6
set_option linter.unusedVariables false
set_option linter.unusedSimpArgs false

namespace Go.Ev
theorem envOk:EnvOk E fun f id ops=>drawChk ops (E.conf f id) (ancT f id) :=
  envOk_of (by kernel_rfl) (fun f h=>by
    have hk:known.contains f=true:=by
      have h:extT f=none:=h
      unfold extT at h
      repeat' (split at h)
      all_goals first | assumption | (cases h;done)
    exact List.all_eq_true.1 okBodies f (by simpa using hk)) extOk
theorem sound {f:FuncId} {args:List Arg} {out:Out} (h:ev E f args=some out):Con E f args out:=ev_sound envOk f args out h
end Go.Ev


namespace Go.Ev
def resK (E:Env) (fz:List Nat) (rs:List ResultVar) (args:List Arg) (r:Option (Ex × St)):Option Out :=
  match r with
  | some (.normal,s) | some (.ret,s) =>
    match evResults E fz rs s with
    | some (rs,s')=>(outsOf s' args 0).map fun outs=>{ rs,outs }
    | none=>none
  | _=>none
def finK (args:List Arg) (r:Option (List RV × St)):Option Out :=
  match r with
  | some (rs,s')=>(outsOf s' args 0).map fun outs=>{ rs,outs }
  | none=>none
@[simp] theorem finK_some (args:List Arg) (rs:List RV) (s:St):finK args (some (rs,s))=(outsOf s args 0).map fun outs=>{ rs,outs }:=rfl
@[simp] theorem resK_normal (E:Env) (fz:List Nat) (rs:List ResultVar) (args:List Arg) (s:St):resK E fz rs args (some (.normal,s))=finK args (evResults E fz rs s):=rfl
@[simp] theorem resK_ret (E:Env) (fz:List Nat) (rs:List ResultVar) (args:List Arg) (s:St):resK E fz rs args (some (.ret,s))=finK args (evResults E fz rs s):=rfl
@[simp] theorem resK_ite (E:Env) (fz:List Nat) (rs:List ResultVar) (args:List Arg) (p:Prop) [Decidable p] (x y:Option (Ex × St)):resK E fz rs args (if p then x else y)=if p then resK E fz rs args x else resK E fz rs args y:=by split<;>rfl
@[simp] theorem opnd_nilptr (E:Env) (s:St):opnd E s (.const (.pointer none))=.dead:=rfl
theorem loopC_at {E:Env} {K:Fns} {f:FuncId} {a c:Code} {s:St} {r:Option (Ex × St)} (ha:a=c) (h:loopC E K f c s=r):loopC E K f a s=r:=ha ▸ h
theorem ev_fn {f:FuncId} (fn:Func) {c:Code} {rs:List ResultVar} {args:List Arg} (hx:E.ext f=none) (hf:E.P.funcs[f]?=some fn) (hc:fn.body=some c) (hr:fn.results.toList=rs)
    (h1:args.length=fn.params.size+fn.nfree) (h2:args.length≤fn.ntmps):ev E f args=resK E (E.fz f) rs args (evCode E (ev E) f c (enter 0 args)):=by
  rw [ev_eq]
  simp only [hx]
  exact evBody_of E _ f fn c rs args hf hc hr ⟨h1,h2⟩
end Go.Ev


set_option maxRecDepth 100000
namespace Go.Ev
open Go.Proofs
abbrev vi (n:Int):AV:=.v .ro false [.int .i64 n]
abbrev vb (b:Bool):AV:=.v .ro false [.bool b]
abbrev Sp:=Int × Int
abbrev spL (s:Sp):List L:=[.int .i64 s.1,.int .i64 s.2]
abbrev rB (b:Bool):Out:={ rs:=[.v .own false [.bool b]],outs:=[] }
abbrev rI (n:Int):Out:={ rs:=[.v .own false [.int .i64 n]],outs:=[] }
theorem wrapN (i:Nat) (h:i<4611686018427387904):IntKind.i64.wrap ((i:Int)+1)=((i+1:Nat):Int):=by
  rw [wrap64]<;>omega
def okB (b:UInt8):Bool:=!((ltI b.toNat 97 || ltI 122 b.toNat)&&(ltI b.toNat 48 || ltI 57 b.toNat)&&!eqI b.toNat 46)
def spOk (s:Sp):Bool:=!ltI s.1 0&&ltI s.1 s.2&&!ltI 48 s.2
def minI (a b:Int):Int:=if ltI a b=true then a else b
def maxI (a b:Int):Int:=if ltI b a=true then a else b
theorem ev_impl_SpanOk (m:M) (s:Sp):ev E 41 [.v m true (spL s)]=some (rB (spOk s)):=by
  rw [ev_fn Tryz.f41 rfl Tryz.func41 rfl rfl rfl (Nat.le_of_ble_eq_true rfl)]
  simp
  repeat' (split<;>rename_i hq<;>(try simp only [Bool.not_eq_true] at hq)<;>simp [hq, *])
  all_goals simp [spOk, *]
theorem ev_spec_SpanOk (m:M) (s:Sp):ev E 99 [.v m true (spL s)]=some (rB (spOk s)):=by
  rw [ev_fn Tryz.f99 rfl Tryz.func99 rfl rfl rfl (Nat.le_of_ble_eq_true rfl)]
  simp
  repeat' (split<;>rename_i hq<;>(try simp only [Bool.not_eq_true] at hq)<;>simp [hq, *])
  all_goals simp [spOk, *]
theorem ev_spec_l1Min (m m':M) (a b:Int):ev E 72 [.v m false [.int .i64 a],.v m' false [.int .i64 b]]=some (rI (minI a b)):=by
  rw [ev_fn Tryz.f72 rfl Tryz.func72 rfl rfl rfl (Nat.le_of_ble_eq_true rfl)]
  simp
  repeat' (split<;>rename_i hq<;>(try simp only [Bool.not_eq_true] at hq)<;>simp [hq, *])
  all_goals simp [minI, *]
theorem ev_spec_l1Max (m m':M) (a b:Int):ev E 71 [.v m false [.int .i64 a],.v m' false [.int .i64 b]]=some (rI (maxI a b)):=by
  rw [ev_fn Tryz.f71 rfl Tryz.func71 rfl rfl rfl (Nat.le_of_ble_eq_true rfl)]
  simp
  repeat' (split<;>rename_i hq<;>(try simp only [Bool.not_eq_true] at hq)<;>simp [hq, *])
  all_goals simp [maxI, *]
theorem ev_wpAt (m:M) (a:Int) (h:-1000000≤a∧a≤1000000):ev E 19 [.v m false [.int .i64 a]]=some { rs:=[.v .own true (spL (a,a+1))],outs:=[] }:=by
  rw [ev_fn Tryz.f19 rfl Tryz.func19 rfl rfl rfl (Nat.le_of_ble_eq_true rfl)]
  have:=wrap64 (n:=a+1) (by omega)
  simp [this]
theorem ev_l2Byte (m:M) (b:UInt8):ev E 202 [.v m false [.int .u8 b.toNat]]=some (rB (okB b)):=by
  rw [ev_fn Tryz.f202 rfl Tryz.func202 rfl rfl rfl (Nat.le_of_ble_eq_true rfl)]
  simp
  repeat' (split<;>rename_i hq<;>(try simp only [Bool.not_eq_true] at hq)<;>simp [hq, *])
  all_goals simp [okB, *]
end Go.Ev


set_option maxRecDepth 100000
namespace Go.Ev
open Go.Proofs
theorem all_drop {α:Type} {p:α→Bool} {xs:List α} {i:Nat} (h:i<xs.length):(xs.drop i).all p=(p xs[i]&&(xs.drop (i+1)).all p):=by
  rw [List.drop_eq_getElem_cons h];rfl
theorem any_drop {α:Type} {p:α→Bool} {xs:List α} {i:Nat} (h:i<xs.length):(xs.drop i).any p=(p xs[i] || (xs.drop (i+1)).any p):=by
  rw [List.drop_eq_getElem_cons h];rfl
theorem lp_TextOk (m:M) (bs:List UInt8) (hb:bs.length≤1099511627776) (a:Code) (ha:a=lp Tryz.f34 0):∀ (n i:Nat),i+n=bs.length →
    loopC E (ev E) 34 a { V:=[(0,.v m false [.str bs]),(6,vi bs.length),(7,vi i)],H:=[],ps:=[] } =
      if (bs.drop i).all okB then some (.exit 0,{ V:=[(0,.v m false [.str bs]),(6,vi bs.length),(7,vi bs.length),(8,vb false)],H:=[],ps:=[] })
      else some (.ret,{ V:=[(2,vb false)],H:=[],ps:=[] })
  | 0,i,h=>by
    rw [loopC_of _ _ _ _ ha]
    obtain rfl:i=bs.length:=by omega
    simp [lp,loopsOf,Tryz.f34]
  | n+1,i,h=>by
    have hlt:i<bs.length:=by omega
    have ih:=lp_TextOk m bs hb a ha n (i+1) (by omega)
    push_cast at ih
    have hw:=wrapN i (by omega)
    rw [loopC_of _ _ _ _ ha,all_drop hlt]
    clear ha
    generalize (bs.drop (i+1)).all okB=r at ih ⊢
    generalize hR:(if (okB bs[i]&&r)=true then _ else _)=R
    simp [lp,loopsOf,Tryz.f34,hlt,hw]
    repeat' (split<;>rename_i hq<;>(try simp only [Bool.not_eq_true] at hq)<;>simp [hq, *])
    all_goals (subst hR;simp [okB, *])
theorem ev_impl_TextOk (m:M) (bs:List UInt8) (hb:bs.length≤1099511627776):ev E 34 [.v m false [.str bs]]=some (rB (bs.all okB&&!ltI 48 bs.length)):=by
  rw [ev_fn Tryz.f34 rfl Tryz.func34 rfl rfl rfl (Nat.le_of_ble_eq_true rfl)]
  have hl:=fun a ha=>lp_TextOk m bs hb a ha bs.length 0 (by omega)
  push_cast at hl
  simp
  rw [hl _ ?_]
  · cases h:bs.all okB<;>simp [h]
  · rfl
theorem lp_sTextOk (m:M) (bs:List UInt8) (hb:bs.length≤1099511627776) (a:Code) (ha:a=lp Tryz.f169 0):∀ (n i:Nat),i+n=bs.length →
    loopC E (ev E) 169 a { V:=[(0,.v m false [.str bs]),(3,vi i)],H:=[],ps:=[] } =
      if (bs.drop i).all okB then some (.exit 0,{ V:=[(0,.v m false [.str bs]),(3,vi bs.length),(7,vb false)],H:=[],ps:=[] })
      else some (.ret,{ V:=[(2,vb false)],H:=[],ps:=[] })
  | 0,i,h=>by
    rw [loopC_of _ _ _ _ ha]
    obtain rfl:i=bs.length:=by omega
    simp [lp,loopsOf,Tryz.f169]
  | n+1,i,h=>by
    have hlt:i<bs.length:=by omega
    have ih:=lp_sTextOk m bs hb a ha n (i+1) (by omega)
    push_cast at ih
    have hw:=wrapN i (by omega)
    rw [loopC_of _ _ _ _ ha,all_drop hlt]
    clear ha
    generalize (bs.drop (i+1)).all okB=r at ih ⊢
    generalize hR:(if (okB bs[i]&&r)=true then _ else _)=R
    simp [lp,loopsOf,Tryz.f169,hlt,hw,ev_l2Byte]
    repeat' (split<;>rename_i hq<;>(try simp only [Bool.not_eq_true] at hq)<;>simp [hq, *,ev_l2Byte])
    all_goals (subst hR;simp [*])
theorem ev_spec_TextOk (m:M) (bs:List UInt8) (hb:bs.length≤1099511627776):ev E 169 [.v m false [.str bs]]=some (rB (bs.all okB&&!ltI 48 bs.length)):=by
  rw [ev_fn Tryz.f169 rfl Tryz.func169 rfl rfl rfl (Nat.le_of_ble_eq_true rfl)]
  have hl:=fun a ha=>lp_sTextOk m bs hb a ha bs.length 0 (by omega)
  push_cast at hl
  simp
  rw [hl _ ?_]
  · cases h:bs.all okB<;>simp [h]
  · rfl
def inSp (at':Int) (s:Sp):Bool:=!ltI at' s.1&&ltI at' s.2
theorem lp_spec_l1In (m m':M) (xs:List Sp) (k:Int) (hb:xs.length≤1099511627776) (a:Code) (ha:a=lp Tryz.f145 0):∀ (n i:Nat),i+n=xs.length →
    loopC E (ev E) 145 a { V:=[(0,.v m false [.sl (xs.map spL)]),(1,.v m' false [.int .i64 k]),(5,vi i)],H:=[],ps:=[] } =
      if (xs.drop i).any (inSp k) then some (.ret,{ V:=[(4,vb true)],H:=[],ps:=[] })
      else some (.exit 0,{ V:=[(0,.v m false [.sl (xs.map spL)]),(1,.v m' false [.int .i64 k]),(5,vi xs.length),(9,vb false)],H:=[],ps:=[] })
  | 0,i,h=>by
    rw [loopC_of _ _ _ _ ha]
    obtain rfl:i=xs.length:=by omega
    simp [lp,loopsOf,Tryz.f145]
  | n+1,i,h=>by
    have hlt:i<xs.length:=by omega
    have ih:=lp_spec_l1In m m' xs k hb a ha n (i+1) (by omega)
    push_cast at ih
    have hw:=wrapN i (by omega)
    rw [loopC_of _ _ _ _ ha,any_drop hlt]
    clear ha
    generalize (xs.drop (i+1)).any (inSp k)=r at ih ⊢
    generalize hR:(if (inSp k xs[i] || r)=true then _ else _)=R
    simp [lp,loopsOf,Tryz.f145,hlt,hw]
    repeat' (split<;>rename_i hq<;>(try simp only [Bool.not_eq_true] at hq)<;>simp [hq, *])
    all_goals (subst hR;simp [inSp, *])
theorem ev_spec_l1In (m m':M) (xs:List Sp) (k:Int) (hb:xs.length≤1099511627776):ev E 145 [.v m false [.sl (xs.map spL)],.v m' false [.int .i64 k]]=some (rB (xs.any (inSp k))):=by
  rw [ev_fn Tryz.f145 rfl Tryz.func145 rfl rfl rfl (Nat.le_of_ble_eq_true rfl)]
  have hl:=fun a ha=>lp_spec_l1In m m' xs k hb a ha xs.length 0 (by omega)
  push_cast at hl
  simp
  rw [hl _ ?_]
  · cases h:xs.any (inSp k)<;>simp [h]
  · rfl
theorem lp_laws_wpIn (m m':M) (xs:List Sp) (k:Int) (hb:xs.length≤1099511627776) (a:Code) (ha:a=lp Tryz.f16 0):∀ (n i:Nat),i+n=xs.length →
    loopC E (ev E) 16 a { V:=[(0,.v m false [.sl (xs.map spL)]),(1,.v m' false [.int .i64 k]),(5,vi i)],H:=[],ps:=[] } =
      if (xs.drop i).any (inSp k) then some (.ret,{ V:=[(4,vb true)],H:=[],ps:=[] })
      else some (.exit 0,{ V:=[(0,.v m false [.sl (xs.map spL)]),(1,.v m' false [.int .i64 k]),(5,vi xs.length),(9,vb false)],H:=[],ps:=[] })
  | 0,i,h=>by
    rw [loopC_of _ _ _ _ ha]
    obtain rfl:i=xs.length:=by omega
    simp [lp,loopsOf,Tryz.f16]
  | n+1,i,h=>by
    have hlt:i<xs.length:=by omega
    have ih:=lp_laws_wpIn m m' xs k hb a ha n (i+1) (by omega)
    push_cast at ih
    have hw:=wrapN i (by omega)
    rw [loopC_of _ _ _ _ ha,any_drop hlt]
    clear ha
    generalize (xs.drop (i+1)).any (inSp k)=r at ih ⊢
    generalize hR:(if (inSp k xs[i] || r)=true then _ else _)=R
    simp [lp,loopsOf,Tryz.f16,hlt,hw]
    repeat' (split<;>rename_i hq<;>(try simp only [Bool.not_eq_true] at hq)<;>simp [hq, *])
    all_goals (subst hR;simp [inSp, *])
theorem ev_laws_wpIn (m m':M) (xs:List Sp) (k:Int) (hb:xs.length≤1099511627776):ev E 16 [.v m false [.sl (xs.map spL)],.v m' false [.int .i64 k]]=some (rB (xs.any (inSp k))):=by
  rw [ev_fn Tryz.f16 rfl Tryz.func16 rfl rfl rfl (Nat.le_of_ble_eq_true rfl)]
  have hl:=fun a ha=>lp_laws_wpIn m m' xs k hb a ha xs.length 0 (by omega)
  push_cast at hl
  simp
  rw [hl _ ?_]
  · cases h:xs.any (inSp k)<;>simp [h]
  · rfl
end Go.Ev


set_option maxRecDepth 100000
set_option maxHeartbeats 2000000
namespace Go.Ev
open Go.Proofs
def stepOk (xs:List Sp) (i:Nat):Bool:=spOk (xs.getD i (0,0))&&(match i with | 0=>true | j+1=>ltI (xs.getD j (0,0)).2 (xs.getD (j+1) (0,0)).1)
def stepsOk (xs:List Sp):Nat→Nat→Bool
  | 0,_=>true
  | n+1,i=>stepOk xs i&&stepsOk xs n (i+1)
def spsOk (xs:List Sp):Bool:=stepsOk xs xs.length 0&&!ltI 12 xs.length
theorem stepOk_0 {xs:List Sp} (h:0<xs.length):stepOk xs 0=spOk xs[0]:=by simp [stepOk,h]
theorem stepOk_s {xs:List Sp} {i j:Nat} (hj:i=j+1) (h:i<xs.length):stepOk xs i=(spOk xs[i]&&ltI (xs[j]'(by omega)).2 xs[i].1):=by
  subst hj
  simp [stepOk,h,show j<xs.length by omega]
theorem lp_impl_SpansOk (m:M) (xs:List Sp) (hb:xs.length≤1099511627776) (a:Code) (ha:a=lp Tryz.f108 0):∀ (n i:Nat),i+n=xs.length →
    loopC E (ev E) 108 a { V:=[(0,.v m false [.sl (xs.map spL)]),(5,.v m false [.sl (xs.map spL)]),(6,vi xs.length),(7,vi i)],H:=[],ps:=[] } =
      if stepsOk xs n i then some (.exit 0,{ V:=[(0,.v m false [.sl (xs.map spL)]),(5,.v m false [.sl (xs.map spL)]),(6,vi xs.length),(7,vi xs.length),(8,vb false)],H:=[],ps:=[] })
      else some (.ret,{ V:=[(2,vb false)],H:=[],ps:=[] })
  | 0,i,h=>by
    rw [loopC_of _ _ _ _ ha]
    obtain rfl:i=xs.length:=by omega
    simp [lp,loopsOf,Tryz.f108,stepsOk]
  | n+1,i,h=>by
    have hlt:i<xs.length:=by omega
    have ih:=lp_impl_SpansOk m xs hb a ha n (i+1) (by omega)
    push_cast at ih
    have hw:=wrapN i (by omega)
    rw [loopC_of _ _ _ _ ha,stepsOk]
    clear ha
    generalize stepsOk xs n (i+1)=r at ih ⊢
    by_cases h0:i=0
    · subst h0
      rw [stepOk_0 hlt]
      generalize hR:(if (spOk xs[0]&&r)=true then _ else _)=R
      simp at hw ih
      simp [lp,loopsOf,Tryz.f108,hlt,hw,ev_impl_SpanOk]
      repeat' (split<;>rename_i hq<;>(try simp only [Bool.not_eq_true] at hq)<;>simp [hq, *,ev_impl_SpanOk])
      all_goals (subst hR;simp [*])
    · obtain ⟨j,hj⟩:∃ j,i=j+1:=⟨i - 1,by omega⟩
      have hjl:j<xs.length:=by omega
      have h1:ltI 0 i=true:=by simp [ltI];omega
      have hw2:IntKind.i64.wrap ((i:Int) - 1)=(j:Int):=by rw [wrap64]<;>omega
      rw [stepOk_s hj hlt]
      generalize hR:(if (spOk xs[i]&&ltI xs[j].2 xs[i].1&&r)=true then _ else _)=R
      clear hj
      simp [lp,loopsOf,Tryz.f108,hlt,hw,ev_impl_SpanOk,h1,hw2,hjl]
      repeat' (split<;>rename_i hq<;>(try simp only [Bool.not_eq_true] at hq)<;>simp [hq, *,ev_impl_SpanOk])
      all_goals (subst hR;simp [*])
theorem ev_impl_SpansOk (m:M) (xs:List Sp) (hb:xs.length≤1099511627776):ev E 108 [.v m false [.sl (xs.map spL)]]=some (rB (spsOk xs)):=by
  rw [ev_fn Tryz.f108 rfl Tryz.func108 rfl rfl rfl (Nat.le_of_ble_eq_true rfl)]
  have hl:=fun a ha=>lp_impl_SpansOk m xs hb a ha xs.length 0 (by omega)
  push_cast at hl
  simp
  rw [hl _ ?_]
  · cases h:stepsOk xs xs.length 0<;>simp [h,spsOk]
  · rfl
theorem lp_spec_SpansOk (m:M) (xs:List Sp) (hb:xs.length≤1099511627776) (a:Code) (ha:a=lp Tryz.f182 0):∀ (n i:Nat),i+n=xs.length →
    loopC E (ev E) 182 a { V:=[(0,.v m false [.sl (xs.map spL)]),(3,vi i)],H:=[],ps:=[] } =
      if stepsOk xs n i then some (.exit 0,{ V:=[(0,.v m false [.sl (xs.map spL)]),(3,vi xs.length),(7,vb false)],H:=[],ps:=[] })
      else some (.ret,{ V:=[(2,vb false)],H:=[],ps:=[] })
  | 0,i,h=>by
    rw [loopC_of _ _ _ _ ha]
    obtain rfl:i=xs.length:=by omega
    simp [lp,loopsOf,Tryz.f182,stepsOk]
  | n+1,i,h=>by
    have hlt:i<xs.length:=by omega
    have ih:=lp_spec_SpansOk m xs hb a ha n (i+1) (by omega)
    push_cast at ih
    have hw:=wrapN i (by omega)
    rw [loopC_of _ _ _ _ ha,stepsOk]
    clear ha
    generalize stepsOk xs n (i+1)=r at ih ⊢
    by_cases h0:i=0
    · subst h0
      rw [stepOk_0 hlt]
      generalize hR:(if (spOk xs[0]&&r)=true then _ else _)=R
      simp at hw ih
      simp [lp,loopsOf,Tryz.f182,hlt,hw,ev_spec_SpanOk]
      repeat' (split<;>rename_i hq<;>(try simp only [Bool.not_eq_true] at hq)<;>simp [hq, *,ev_spec_SpanOk])
      all_goals (subst hR;simp [*])
    · obtain ⟨j,hj⟩:∃ j,i=j+1:=⟨i - 1,by omega⟩
      have hjl:j<xs.length:=by omega
      have h1:ltI 0 i=true:=by simp [ltI];omega
      have hw2:IntKind.i64.wrap ((i:Int) - 1)=(j:Int):=by rw [wrap64]<;>omega
      rw [stepOk_s hj hlt]
      generalize hR:(if (spOk xs[i]&&ltI xs[j].2 xs[i].1&&r)=true then _ else _)=R
      clear hj
      simp [lp,loopsOf,Tryz.f182,hlt,hw,ev_spec_SpanOk,h1,hw2,hjl]
      repeat' (split<;>rename_i hq<;>(try simp only [Bool.not_eq_true] at hq)<;>simp [hq, *,ev_spec_SpanOk])
      all_goals (subst hR;simp [*])
theorem ev_spec_SpansOk (m:M) (xs:List Sp) (hb:xs.length≤1099511627776):ev E 182 [.v m false [.sl (xs.map spL)]]=some (rB (spsOk xs)):=by
  rw [ev_fn Tryz.f182 rfl Tryz.func182 rfl rfl rfl (Nat.le_of_ble_eq_true rfl)]
  have hl:=fun a ha=>lp_spec_SpansOk m xs hb a ha xs.length 0 (by omega)
  push_cast at hl
  simp
  rw [hl _ ?_]
  · cases h:stepsOk xs xs.length 0<;>simp [h,spsOk]
  · rfl
end Go.Ev


set_option maxRecDepth 100000
set_option maxHeartbeats 2000000
namespace Go.Ev
open Go.Proofs
def pl (f:Nat→Bool):List L:=(List.range 48).map fun i=>L.bool (f i)
def updB (f:Nat→Bool) (i:Nat) (v:Bool):Nat→Bool:=fun j=>if j=i then v else f j
abbrev bx (r:Root) (ls:List L):Root × HC:=(r,{ box:=true,wr:=true,m:=.own,ls,e0:=0,e1:=0 })
@[simp] theorem pl_length (f:Nat→Bool):(pl f).length=48:=by simp [pl]
theorem pl_get (f:Nat→Bool) {i:Nat} (h:i<48):(pl f)[i]?=some (.bool (f i)):=by simp [pl,h]
theorem pl_take (f:Nat→Bool) {i:Nat} (h:i<48):((pl f).drop i).take 1=[.bool (f i)]:=by
  have hl:i<(pl f).length:=by simpa using h
  rw [List.drop_eq_getElem_cons hl]
  have:=pl_get f h
  rw [List.getElem?_eq_getElem hl] at this
  simp only [Option.some.injEq] at this
  simp [this]
theorem pl_set (f:Nat→Bool) (i:Nat) (v:Bool) (h:i<48):(pl f).set i (.bool v)=pl (updB f i v):=by
  refine List.ext_getElem? fun j=>?_
  by_cases hj:j<48
  · rw [pl_get _ hj,List.getElem?_set]
    by_cases e:i=j
    · subst e;simp [updB,h]
    · simp [e,updB,Ne.symm e,pl_get f hj]
  · rw [List.getElem?_eq_none (by simp;omega),List.getElem?_eq_none (by simp;omega)]
@[simp] theorem pl_flat (f:Nat→Bool):(pl f).all L.flat=true:=by simp [pl]
@[simp] theorem pl_all (f:Nat→Bool):(pl f).take 48=pl f:=List.take_of_length_le (by simp)
theorem pl_ff:List.replicate 48 (L.bool false)=pl fun _=>false:=rfl
theorem pl_congr {f g:Nat→Bool} (h:∀ i,i<48→f i=g i):pl f=pl g:=by
  unfold pl
  exact List.map_congr_left fun i hi=>by rw [h i (List.mem_range.1 hi)]
@[simp] theorem wrap_i (i:Nat):((i:Int)).toNat=i:=Int.toNat_natCast i
theorem setRange_app:∀ (xs pre ls:List L),xs.length=ls.length→setRange (pre++ls) pre.length xs=pre++xs
  | [],pre,[],_=>rfl
  | [],pre,_::_,h=>by simp at h
  | _::_,pre,[],h=>by simp at h
  | x::xs,pre,l::ls,h=>by
    have:=setRange_app xs (pre++[x]) ls (by simpa using h)
    simp only [setRange]
    rw [show (pre++l::ls).set pre.length x=(pre++[x])++ls by simp,show pre.length+1=(pre++[x]).length by simp,this]
    simp
@[simp] theorem pl_over (f g:Nat→Bool):setRange (pl f) 0 (pl g)=pl g:=by
  have:=setRange_app (pl g) [] (pl f) (by simp)
  simpa using this
def fillF (f:Nat→Bool):Nat→Nat→(Nat→Bool)
  | 0,_=>f
  | n+1,i=>fillF (updB f i true) n (i+1)
theorem fillF_get (n:Nat):∀ (f:Nat→Bool) (i j:Nat),fillF f n i j=(f j || (decide (i≤j)&&decide (j<i+n))):=by
  induction n with
  | zero =>
    intro f i j
    have:(decide (i≤j)&&decide (j<i+0))=false:=by simp
    rw [this,Bool.or_false];rfl
  | succ n ih =>
    intro f i j
    simp only [fillF,ih,updB]
    by_cases h:j=i
    · subst h;simp
    · simp only [if_neg h]
      congr 1
      rw [Bool.eq_iff_iff]
      simp only [Bool.and_eq_true,decide_eq_true_eq]
      omega
theorem lp_of1 (m:M) (xs:List Sp) (g:Nat→Bool) (k lo:Int) (hi:Nat) (hhi:hi≤48) (a:Code) (ha:a=lp Tryz.f42 1):∀ (n i:Nat) (f:Nat→Bool),i+n=hi →
    loopC E (ev E) 42 a { V:=[(2,.ad (.c 2) 0 0 0 []),(3,.ad (.c 3) 0 0 0 []),(5,.ad (.c 5) 0 0 0 []),(6,vi i),(7,.v m false [.sl (xs.map spL)]),(8,vi xs.length),(9,vi k)],H:=[bx (.c 2) (pl g),bx (.c 3) (pl f),bx (.c 5) [.int .i64 lo,.int .i64 hi]],ps:=[] } =
      some (.exit 2,{ V:=[(2,.ad (.c 2) 0 0 0 []),(3,.ad (.c 3) 0 0 0 []),(5,.ad (.c 5) 0 0 0 []),(6,vi hi),(7,.v m false [.sl (xs.map spL)]),(8,vi xs.length),(9,vi k),(18,vb false)],H:=[bx (.c 2) (pl g),bx (.c 3) (pl (fillF f n i)),bx (.c 5) [.int .i64 lo,.int .i64 hi]],ps:=[] })
  | 0,i,f,h=>by
    rw [loopC_of _ _ _ _ ha]
    obtain rfl:i=hi:=by omega
    simp [lp,loopsOf,Tryz.f42,fillF]
  | n+1,i,f,h=>by
    have hlt:i<hi:=by omega
    have hl2:i<48:=by omega
    have ih:=lp_of1 m xs g k lo hi hhi a ha n (i+1) (updB f i true) (by omega)
    push_cast at ih
    have hw:=wrapN i (by omega)
    have hs:=pl_set f i true hl2
    rw [loopC_of _ _ _ _ ha]
    clear ha
    have hI:(i:Int)<48:=by omega
    have h1:1≤48 - i:=by omega
    simp [lp,loopsOf,Tryz.f42,hlt,hw,fillF,hs,hI,h1,show i≤48 by omega]
    simpa using ih
theorem lp_of0 (m:M) (xs:List Sp) (hb:xs.length≤1099511627776) (hx:∀ s∈xs,0≤s.1∧s.1≤s.2∧s.2≤48) (a:Code) (ha:a=lp Tryz.f42 0):∀ (n i:Nat) (f:Nat→Bool),i+n=xs.length →
    ∃ g,loopC E (ev E) 42 a { V:=[(2,.ad (.c 2) 0 0 0 []),(3,.ad (.c 3) 0 0 0 []),(7,.v m false [.sl (xs.map spL)]),(8,vi xs.length),(9,vi i)],H:=[bx (.c 2) (pl fun _=>false),bx (.c 3) (pl f)],ps:=[] } =
      some (.exit 0,{ V:=[(2,.ad (.c 2) 0 0 0 []),(3,.ad (.c 3) 0 0 0 []),(7,.v m false [.sl (xs.map spL)]),(8,vi xs.length),(9,vi xs.length),(10,vb false)],H:=[bx (.c 2) (pl fun _=>false),bx (.c 3) (pl g)],ps:=[] }) ∧
      ∀ j,j<48→g j=(f j || (xs.drop i).any (inSp j))
  | 0,i,f,h=>by
    refine ⟨f,?_,fun j _=>by rw [List.drop_eq_nil_of_le (by omega)];simp⟩
    rw [loopC_of _ _ _ _ ha]
    obtain rfl:i=xs.length:=by omega
    simp [lp,loopsOf,Tryz.f42]
  | n+1,i,f,h=>by
    have hlt:i<xs.length:=by omega
    obtain ⟨h1,h2,h3⟩:=hx xs[i] (List.getElem_mem hlt)
    obtain ⟨lo,hlo⟩:∃ lo:Nat,xs[i].1=lo:=⟨xs[i].1.toNat,by omega⟩
    obtain ⟨hi,hhi⟩:∃ hi:Nat,xs[i].2=hi:=⟨xs[i].2.toNat,by omega⟩
    have hin:=fun a ha=>lp_of1 m xs (fun _=>false) i lo hi (by omega) a ha (hi - lo) lo f (by omega)
    obtain ⟨g,hg,hg2⟩:=lp_of0 m xs hb hx a ha n (i+1) (fillF f (hi - lo) lo) (by omega)
    have hw:=wrapN i (by omega)
    refine ⟨g,?_,fun j hj=>?_⟩
    · push_cast at hg
      rw [loopC_of _ _ _ _ ha]
      clear ha
      simp [lp,loopsOf,Tryz.f42,hlt,hw,hlo,hhi]
      rw [hin _ ?_]
      · simp [hw]
        simpa using hg
      · rfl
    · rw [hg2 j hj,fillF_get,any_drop hlt,Bool.or_assoc]
      congr 2
      simp only [inSp,hlo,hhi,ltI]
      rw [Bool.eq_iff_iff]
      simp only [Bool.and_eq_true,decide_eq_true_eq,Bool.not_eq_true',decide_eq_false_iff_not]
      omega
theorem ev_impl_of (m:M) (xs:List Sp) (hb:xs.length≤1099511627776) (hx:∀ s∈xs,0≤s.1∧s.1≤s.2∧s.2≤48) :
    ev E 42 [.v m false [.sl (xs.map spL)]]=some { rs:=[.v .own true (pl fun j=>xs.any (inSp j))],outs:=[] }:=by
  obtain ⟨g,hg,hg2⟩:=lp_of0 m xs hb hx _ rfl xs.length 0 (fun _=>false) (by omega)
  have:pl (fun j=>xs.any (inSp j))=pl g:=pl_congr fun j hj=>by rw [hg2 j hj];simp
  rw [this]
  rw [ev_fn Tryz.f42 rfl Tryz.func42 rfl rfl rfl (Nat.le_of_ble_eq_true rfl)]
  push_cast at hg
  simp [pl_ff]
  rw [loopC_at ?_ hg]
  · simp
  · rfl
end Go.Ev


set_option maxRecDepth 100000
set_option maxHeartbeats 2000000
namespace Go.Ev
open Go.Proofs
abbrev adc (t:Nat):AV:=.ad (.c t) 0 0 0 []
theorem lp_put (m'':M) (g z:Nat→Bool) (b:Bool) (a:Code) (ha:a=lp Tryz.f43 0):∀ (n i:Nat) (f:Nat→Bool),i+n=48 →
    ∃ f',loopC E (ev E) 43 a { V:=[(2,.v m'' false [.bool b]),(3,adc 3),(6,adc 6),(9,.v .ro true (pl g)),(10,vi i)],H:=[bx (.c 3) (pl f),bx (.c 6) (pl z)],ps:=[] } =
      some (.exit 0,{ V:=[(2,.v m'' false [.bool b]),(3,adc 3),(6,adc 6),(9,.v .ro true (pl g)),(10,vi 48),(11,vb false)],H:=[bx (.c 3) (pl f'),bx (.c 6) (pl z)],ps:=[] }) ∧
      ∀ j,j<48→f' j=if i≤j∧g j=true then b else f j
  | 0,i,f,h=>by
    refine ⟨f,?_,fun j hj=>by rw [if_neg (by omega)]⟩
    rw [loopC_of _ _ _ _ ha]
    obtain rfl:i=48:=by omega
    simp [lp,loopsOf,Tryz.f43]
  | n+1,i,f,h=>by
    have hlt:i<48:=by omega
    have hI:(i:Int)<48:=by omega
    have h1:1≤48 - i:=by omega
    have hw:=wrapN i (by omega)
    have hs:=pl_set f i b hlt
    have hg:=pl_get g hlt
    cases hgi:g i with
    | true =>
      obtain ⟨f',ih,hf⟩:=lp_put m'' g z b a ha n (i+1) (updB f i b) (by omega)
      refine ⟨f',?_,fun j hj=>?_⟩
      · push_cast at ih
        rw [loopC_of _ _ _ _ ha]
        clear ha
        rw [hgi] at hg
        simp [lp,loopsOf,Tryz.f43,hI,hw,hs,hg,h1,show i≤48 by omega]
        simpa using ih
      · rw [hf j hj]
        by_cases e:j=i
        · subst e;simp [hgi,updB]
        · by_cases e2:i≤j
          · simp [show i+1≤j by omega,e2,updB,e]
          · simp [show ¬ i+1≤j by omega,e2,updB,e]
    | false =>
      obtain ⟨f',ih,hf⟩:=lp_put m'' g z b a ha n (i+1) f (by omega)
      refine ⟨f',?_,fun j hj=>?_⟩
      · push_cast at ih
        rw [loopC_of _ _ _ _ ha]
        clear ha
        rw [hgi] at hg
        simp [lp,loopsOf,Tryz.f43,hI,hw,hs,hg,h1,show i≤48 by omega]
        simpa using ih
      · rw [hf j hj]
        by_cases e:j=i
        · subst e;simp [hgi]
        · by_cases e2:i≤j
          · simp [show i+1≤j by omega,e2]
          · simp [show ¬ i+1≤j by omega,e2]
theorem ev_put (m m' m'':M) (f g:Nat→Bool) (b:Bool):ev E 43 [.v m true (pl f),.v m' true (pl g),.v m'' false [.bool b]]=some { rs:=[.v .own true (pl fun j=>if g j=true then b else f j)],outs:=[] }:=by
  obtain ⟨f',hl,hf⟩:=lp_put m'' g (fun _=>false) b _ rfl 48 0 f (by omega)
  have:pl (fun j=>if g j=true then b else f j)=pl f':=pl_congr fun j hj=>by rw [hf j hj];simp
  rw [this]
  rw [ev_fn Tryz.f43 rfl Tryz.func43 rfl rfl rfl (Nat.le_of_ble_eq_true rfl)]
  push_cast at hl
  simp [pl_ff]
  rw [loopC_at ?_ hl]
  · simp
  · rfl
theorem lp_meet (g z:Nat→Bool) (a:Code) (ha:a=lp Tryz.f44 0):∀ (n i:Nat) (f:Nat→Bool),i+n=48 →
    ∃ f',loopC E (ev E) 44 a { V:=[(2,adc 2),(4,adc 4),(7,.v .ro true (pl g)),(8,vi i)],H:=[bx (.c 2) (pl f),bx (.c 4) (pl z)],ps:=[] } =
      some (.exit 0,{ V:=[(2,adc 2),(4,adc 4),(7,.v .ro true (pl g)),(8,vi 48),(9,vb false)],H:=[bx (.c 2) (pl f'),bx (.c 4) (pl z)],ps:=[] }) ∧
      ∀ j,j<48→f' j=if i≤j then (f j&&g j) else f j
  | 0,i,f,h=>by
    refine ⟨f,?_,fun j hj=>by rw [if_neg (by omega)]⟩
    rw [loopC_of _ _ _ _ ha]
    obtain rfl:i=48:=by omega
    simp [lp,loopsOf,Tryz.f44]
  | n+1,i,f,h=>by
    have hlt:i<48:=by omega
    have hI:(i:Int)<48:=by omega
    have h1:1≤48 - i:=by omega
    have hw:=wrapN i (by omega)
    have hs:=pl_set f i (f i&&g i) hlt
    have hg:=pl_get g hlt
    have ht:=pl_take f hlt
    obtain ⟨f',ih,hf⟩:=lp_meet g z a ha n (i+1) (updB f i (f i&&g i)) (by omega)
    refine ⟨f',?_,fun j hj=>?_⟩
    · push_cast at ih
      rw [loopC_of _ _ _ _ ha]
      clear ha
      cases hfi:f i<;>rw [hfi] at hs ht ih<;>simp at hs ih
      · simp [lp,loopsOf,Tryz.f44,hI,hw,hs,hg,h1,show i≤48 by omega,ht]
        simpa using ih
      · simp [lp,loopsOf,Tryz.f44,hI,hw,hs,hg,h1,show i≤48 by omega,ht]
        simpa using ih
    · rw [hf j hj]
      by_cases e:j=i
      · subst e;simp [updB]
      · by_cases e2:i≤j
        · simp [show i+1≤j by omega,e2,updB,e]
        · simp [show ¬ i+1≤j by omega,e2,updB,e]
theorem ev_meet (m m':M) (f g:Nat→Bool):ev E 44 [.v m true (pl f),.v m' true (pl g)]=some { rs:=[.v .own true (pl fun j=>f j&&g j)],outs:=[] }:=by
  obtain ⟨f',hl,hf⟩:=lp_meet g (fun _=>false) _ rfl 48 0 f (by omega)
  have:pl (fun j=>f j&&g j)=pl f':=pl_congr fun j hj=>by rw [hf j hj];simp
  rw [this]
  rw [ev_fn Tryz.f44 rfl Tryz.func44 rfl rfl rfl (Nat.le_of_ble_eq_true rfl)]
  push_cast at hl
  simp [pl_ff]
  rw [loopC_at ?_ hl]
  · simp
  · rfl
def eqSp (s t:Sp):Bool:=eqI s.1 t.1&&eqI s.2 t.2
theorem eqSp_iff {s t:Sp}:eqSp s t=true↔s=t:=by
  obtain ⟨a,b⟩:=s
  obtain ⟨c,d⟩:=t
  simp [eqSp,eqI]
def eqFrom (xs ys:List Sp):Nat→Nat→Bool
  | 0,_=>true
  | n+1,i=>eqSp (xs.getD i (0,0)) (ys.getD i (0,0))&&eqFrom xs ys n (i+1)
theorem eqFrom_iff (xs ys:List Sp):∀ (n i:Nat),eqFrom xs ys n i=true↔∀ j,i≤j→j<i+n→xs.getD j (0,0)=ys.getD j (0,0)
  | 0,i=>by simp [eqFrom];omega
  | n+1,i=>by
    simp only [eqFrom,Bool.and_eq_true,eqSp_iff,eqFrom_iff xs ys n (i+1)]
    constructor
    · intro ⟨h1,h2⟩ j hj hk
      by_cases e:j=i
      · subst e;exact h1
      · exact h2 j (by omega) (by omega)
    · intro h
      exact ⟨h i (by omega) (by omega),fun j hj hk=>h j (by omega) (by omega)⟩
theorem eqFrom_all {xs ys:List Sp} (h:xs.length=ys.length):eqFrom xs ys xs.length 0=decide (xs=ys):=by
  rw [Bool.eq_iff_iff,eqFrom_iff]
  simp only [decide_eq_true_eq]
  constructor
  · intro hj
    refine List.ext_getElem h fun i h1 h2=>?_
    have:=hj i (by omega) (by omega)
    simpa [h1,h2] using this
  · rintro rfl
    intros;rfl
@[simp] theorem eqAgg_Span:eqAgg Tryz.prog 36=true:=by kernel_rfl
@[simp] theorem shape_Span (a b:Int):shapeT Tryz.prog 8 36 [.int .i64 a,.int .i64 b]=true:=by simp [shapeT,shapeFs]
theorem lp_Equal (m m':M) (xs ys:List Sp) (hl:xs.length=ys.length) (hb:ys.length≤1099511627776) (a:Code) (ha:a=lp Tryz.f38 0):∀ (n i:Nat),i+n=ys.length →
    loopC E (ev E) 38 a { V:=[(0,.v m false [.sl (xs.map spL)]),(1,.v m' false [.sl (ys.map spL)]),(12,vi ys.length),(13,vi i)],H:=[],ps:=[] } =
      if eqFrom xs ys n i then some (.exit 0,{ V:=[(0,.v m false [.sl (xs.map spL)]),(1,.v m' false [.sl (ys.map spL)]),(12,vi ys.length),(13,vi ys.length),(14,vb false)],H:=[],ps:=[] })
      else some (.ret,{ V:=[(4,vb false)],H:=[],ps:=[] })
  | 0,i,h=>by
    rw [loopC_of _ _ _ _ ha]
    obtain rfl:i=ys.length:=by omega
    simp [lp,loopsOf,Tryz.f38,eqFrom]
  | n+1,i,h=>by
    have hlt:i<ys.length:=by omega
    have hlx:i<xs.length:=by omega
    have ih:=lp_Equal m m' xs ys hl hb a ha n (i+1) (by omega)
    push_cast at ih
    have hw:=wrapN i (by omega)
    rw [loopC_of _ _ _ _ ha,eqFrom]
    have h1:xs.getD i (0,0)=xs[i]:=by simp [hlx]
    have h2:ys.getD i (0,0)=ys[i]:=by simp [hlt]
    rw [h1,h2]
    clear ha h1 h2
    generalize eqFrom xs ys n (i+1)=r at ih ⊢
    cases e1:eqI xs[i].1 ys[i].1<;>cases e2:eqI xs[i].2 ys[i].2 <;>
      simp [lp,loopsOf,Tryz.f38,hlt,hlx,hw,eqSp,e1,e2,ih]
theorem ev_Equal (m m':M) (xs ys:List Sp) (hb:ys.length≤1099511627776):ev E 38 [.v m false [.sl (xs.map spL)],.v m' false [.sl (ys.map spL)]]=some (rB (decide (xs=ys))):=by
  rw [ev_fn Tryz.f38 rfl Tryz.func38 rfl rfl rfl (Nat.le_of_ble_eq_true rfl)]
  by_cases h:xs.length=ys.length
  · have hl:=fun a ha=>lp_Equal m m' xs ys h hb a ha ys.length 0 (by omega)
    rw [← h,eqFrom_all h,h] at hl
    push_cast at hl
    simp [h]
    rw [hl _ ?_]
    · by_cases e:xs=ys<;>simp [e]
    · rfl
  · have e:¬ xs=ys:=fun e=>h (by rw [e])
    have e2:eqI xs.length ys.length=false:=by simp [eqI];omega
    simp [e2,e]
end Go.Ev


set_option maxRecDepth 100000
set_option maxHeartbeats 2000000
namespace Go.Ev
open Go.Proofs
abbrev at1 (t:Nat):AV:=.at (.c t) 0 0 0 [] 1 false
abbrev ow (r:Root) (ls:List L):Root × HC:=(r,{ box:=false,wr:=true,m:=.own,ls,e0:=0,e1:=0 })
def runEnd (f:Nat→Bool):Nat→Nat→Nat
  | 0,i=>i
  | n+1,i=>if f i=true then runEnd f n (i+1) else i
theorem runEnd_le (f:Nat→Bool):∀ n i,i≤runEnd f n i∧runEnd f n i≤i+n
  | 0,i=>by simp [runEnd]
  | n+1,i=>by
    have:=runEnd_le f n (i+1)
    simp only [runEnd]
    split<;>omega
def spansF (f:Nat→Bool):Nat→Nat→List Sp
  | 0,_=>[]
  | n+1,i=>if i<48 then (if f i=true then ((i:Int),(runEnd f (48 - i) i:Int))::spansF f n (runEnd f (48 - i) i+1) else spansF f n (i+1)) else []
theorem lp_spans1 (f:Nat→Bool) (out:List Sp) (k:Int) (a:Code) (ha:a=lp Tryz.f178 1):∀ (n i:Nat),i+n=48 →
    loopC E (ev E) 178 a { V:=[(1,adc 1),(3,at1 3),(4,vi i),(5,vi k)],H:=[bx (.c 1) (pl f),ow (.c 3) [.sl (out.map spL)]],ps:=[] } =
      some (.exit 2,{ V:=[(1,adc 1),(3,at1 3),(4,vi (runEnd f n i)),(5,vi k),(22,vb false)],H:=[bx (.c 1) (pl f),ow (.c 3) [.sl (out.map spL)]],ps:=[] })
  | 0,i,h=>by
    rw [loopC_of _ _ _ _ ha]
    obtain rfl:i=48:=by omega
    simp [lp,loopsOf,Tryz.f178,runEnd]
  | n+1,i,h=>by
    have hlt:i<48:=by omega
    have hI:(i:Int)<48:=by omega
    have h1:1≤48 - i:=by omega
    have hw:=wrapN i (by omega)
    have ht:=pl_take f hlt
    have ih:=lp_spans1 f out k a ha n (i+1) (by omega)
    push_cast at ih
    rw [loopC_of _ _ _ _ ha]
    clear ha
    cases hfi:f i<;>rw [hfi] at ht<;>simp [lp,loopsOf,Tryz.f178,hI,hw,h1,show i≤48 by omega,ht,runEnd,hfi,ih]
theorem lp_spans0 (f:Nat→Bool) (a:Code) (ha:a=lp Tryz.f178 0):∀ (n i:Nat) (out:List Sp),48≤i+n→i≤49→out.length+n≤60 →
    ∃ k,loopC E (ev E) 178 a { V:=[(1,adc 1),(3,at1 3),(4,vi i)],H:=[bx (.c 1) (pl f),ow (.c 3) [.sl (out.map spL)]],ps:=[] } =
      some (.exit 0,{ V:=[(1,adc 1),(3,at1 3),(4,vi k),(8,vb false)],H:=[bx (.c 1) (pl f),ow (.c 3) [.sl ((out++spansF f n i).map spL)]],ps:=[] })
  | 0,i,out,h,h9,hb=>by
    refine ⟨i,?_⟩
    rw [loopC_of _ _ _ _ ha]
    have hI:(48:Int)≤i:=by omega
    simp [lp,loopsOf,Tryz.f178,spansF,hI]
  | n+1,i,out,h,h9,hb=>by
    by_cases hlt:i<48
    · have hI:(i:Int)<48:=by omega
      have h1:1≤48 - i:=by omega
      have hw:=wrapN i (by omega)
      have ht:=pl_take f hlt
      cases hfi:f i with
      | false =>
        obtain ⟨k,ih⟩:=lp_spans0 f a ha n (i+1) out (by omega) (by omega) (by omega)
        refine ⟨k,?_⟩
        push_cast at ih
        rw [loopC_of _ _ _ _ ha]
        clear ha
        rw [hfi] at ht
        simp [lp,loopsOf,Tryz.f178,hI,hw,h1,show i≤48 by omega,ht,spansF,hfi,hlt]
        simpa using ih
      | true =>
        have he:=runEnd_le f (48 - i) i
        have hin:=fun a ha=>lp_spans1 f out i a ha (48 - i) i (by omega)
        generalize hee:runEnd f (48 - i) i=e at he hin
        have hei:i<e:=by
          have:48 - i=(47 - i)+1:=by omega
          rw [this,runEnd,if_pos hfi] at hee
          have:=runEnd_le f (47 - i) (i+1)
          omega
        obtain ⟨k,ih⟩:=lp_spans0 f a ha n (e+1) (out++[((i:Int),(e:Int))]) (by omega) (by omega) (by simp;omega)
        refine ⟨k,?_⟩
        have hw2:=wrapN e (by omega)
        have hsz:(out.length+1)*16≤17592186044416:=by omega
        have hsz2:out.length+1≤17592186044416:=by omega
        push_cast at ih
        rw [loopC_of _ _ _ _ ha]
        clear ha
        rw [hfi] at ht
        simp [lp,loopsOf,Tryz.f178,hI,hw,h1,show i≤48 by omega,ht,spansF,hfi,hlt,hee]
        rw [hin _ ?_]
        · simp [hw2,hsz,hsz2]
          simpa using ih
        · rfl
    · refine ⟨i,?_⟩
      rw [loopC_of _ _ _ _ ha]
      have hI:(48:Int)≤i:=by omega
      simp [lp,loopsOf,Tryz.f178,spansF,hI,hlt]
theorem ev_spans (m:M) (f:Nat→Bool):ev E 178 [.v m true (pl f)]=some { rs:=[.v .own false [.sl ((spansF f 48 0).map spL)]],outs:=[] }:=by
  obtain ⟨k,hl⟩:=lp_spans0 f _ rfl 48 0 [] (by omega) (by omega) (by simp)
  rw [ev_fn Tryz.f178 rfl Tryz.func178 rfl rfl rfl (Nat.le_of_ble_eq_true rfl)]
  push_cast at hl
  simp
  rw [loopC_at ?_ (by simpa using hl)]
  · simp
  · rfl
end Go.Ev


set_option maxRecDepth 100000
set_option maxHeartbeats 2000000
namespace Go.Ev
open Go.Proofs
def plR (f:Nat→Bool) (n:Nat):List (List L):=(List.range n).map fun i=>[L.bool (f i)]
@[simp] theorem plR_length (f:Nat→Bool) (n:Nat):(plR f n).length=n:=by simp [plR]
theorem plR_succ (f:Nat→Bool) (n:Nat):plR f n++[[.bool (f n)]]=plR f (n+1):=by simp [plR,List.range_succ]
theorem plR_get (f:Nat→Bool) {n i:Nat} (h:i<n):(plR f n)[i]?=some [.bool (f i)]:=by simp [plR,h]
@[simp] theorem plR_getE (f:Nat→Bool) {n i:Nat} (h:i<(plR f n).length):(plR f n)[i]=[.bool (f i)]:=by simp [plR]
@[simp] theorem plR_rows (f:Nat→Bool) (n:Nat):((plR f n).all fun r=>decide (r.length=1))=true:=by simp [plR]
@[simp] theorem plR_zero (f:Nat→Bool):plR f 0=[]:=rfl
theorem plR_congr {f g:Nat→Bool} {n:Nat} (h:∀ i,i<n→f i=g i):plR f n=plR g n:=by
  unfold plR
  exact List.map_congr_left fun i hi=>by rw [h i (List.mem_range.1 hi)]
theorem plR_set (f:Nat→Bool) (n i:Nat) (v:Bool) (h:i<n):(plR f n).set i [.bool v]=plR (updB f i v) n:=by
  refine List.ext_getElem? fun j=>?_
  by_cases hj:j<n
  · rw [plR_get _ hj,List.getElem?_set]
    by_cases e:i=j
    · subst e;simp [updB,h]
    · simp [e,updB,Ne.symm e,plR_get f hj]
  · rw [List.getElem?_eq_none (by simp;omega),List.getElem?_eq_none (by simp;omega)]
theorem lp_l1Places (m:M) (xs:List Sp) (hb:xs.length≤1099511627776) (a:Code) (ha:a=lp Tryz.f199 0):∀ (n i:Nat),i+n=48 →
    loopC E (ev E) 199 a { V:=[(0,.v m false [.sl (xs.map spL)]),(3,at1 3),(4,vi i)],H:=[ow (.c 3) [.sl (plR (fun j=>xs.any (inSp j)) i)]],ps:=[] } =
      some (.exit 0,{ V:=[(0,.v m false [.sl (xs.map spL)]),(3,at1 3),(4,vi 48),(7,vb false)],H:=[ow (.c 3) [.sl (plR (fun j=>xs.any (inSp j)) 48)]],ps:=[] })
  | 0,i,h=>by
    rw [loopC_of _ _ _ _ ha]
    obtain rfl:i=48:=by omega
    simp [lp,loopsOf,Tryz.f199]
  | n+1,i,h=>by
    have hI:(i:Int)<48:=by omega
    have hw:=wrapN i (by omega)
    have ih:=lp_l1Places m xs hb a ha n (i+1) (by omega)
    rw [← plR_succ] at ih
    push_cast at ih
    have hsz:i+1≤17592186044416:=by omega
    rw [loopC_of _ _ _ _ ha]
    clear ha
    have hc:=fun m m'=>ev_spec_l1In m m' xs i hb
    simp [lp,loopsOf,Tryz.f199,hI,hw,hc,hsz]
    simpa using ih
theorem ev_l1Places (m:M) (xs:List Sp) (hb:xs.length≤1099511627776):ev E 199 [.v m false [.sl (xs.map spL)]]=some { rs:=[.v .own false [.sl (plR (fun j=>xs.any (inSp j)) 48)]],outs:=[] }:=by
  rw [ev_fn Tryz.f199 rfl Tryz.func199 rfl rfl rfl (Nat.le_of_ble_eq_true rfl)]
  have hl:=lp_l1Places m xs hb _ rfl 48 0 (by omega)
  push_cast at hl
  rw [plR_zero] at hl
  simp
  rw [loopC_at ?_ hl]
  · simp
  · rfl
def ofStep (out:List Sp) (i:Nat) (b:Bool):List Sp :=
  if b=true then
    match out.getLast? with
    | some (lo,hi)=>if eqI hi i=true then out.dropLast++[(lo,(i:Int)+1)] else out++[((i:Int),(i:Int)+1)]
    | none=>[((i:Int),(i:Int)+1)]
  else out
def ofL (f:Nat→Bool):Nat→Nat→List Sp→List Sp
  | 0,_,out=>out
  | n+1,i,out=>ofL f n (i+1) (ofStep out i (f i))
theorem ofStep_len (out:List Sp) (i:Nat) (b:Bool):(ofStep out i b).length≤out.length+1:=by
  unfold ofStep
  rcases List.eq_nil_or_concat out with rfl | ⟨pre,x,rfl⟩
  · cases b<;>simp
  · cases b
    · simp
    · simp only [if_true,List.concat_eq_append,List.getLast?_append,List.getLast?_singleton,Option.or_some,Option.some_or]
      split<;>simp
theorem lp_l1Of (m:M) (f:Nat→Bool) (N:Nat) (hN:N≤4000000) (a:Code) (ha:a=lp Tryz.f200 0):∀ (n i:Nat) (out:List Sp),i+n=N→out.length≤i →
    loopC E (ev E) 200 a { V:=[(0,.v m false [.sl (plR f N)]),(3,at1 3),(4,vi i)],H:=[ow (.c 3) [.sl (out.map spL)]],ps:=[] } =
      some (.exit 0,{ V:=[(0,.v m false [.sl (plR f N)]),(3,at1 3),(4,vi N),(10,vb false)],H:=[ow (.c 3) [.sl ((ofL f n i out).map spL)]],ps:=[] })
  | 0,i,out,h,hb=>by
    rw [loopC_of _ _ _ _ ha]
    obtain rfl:i=N:=by omega
    simp [lp,loopsOf,Tryz.f200,ofL]
  | n+1,i,out,h,hb=>by
    have hlt:i<N:=by omega
    have hw:=wrapN i (by omega)
    have hg:=plR_get f hlt
    have hsz:(out.length+1)*16≤17592186044416:=by omega
    have hsz2:out.length+1≤17592186044416:=by omega
    have ih:=lp_l1Of m f N hN a ha n (i+1) (ofStep out i (f i)) (by omega) (by have:=ofStep_len out i (f i);omega)
    push_cast at ih
    rw [loopC_of _ _ _ _ ha,ofL]
    clear ha
    cases hfi:f i with
    | false =>
      rw [hfi] at hg ih
      simp [lp,loopsOf,Tryz.f200,hlt,hw,hg,hfi]
      simpa [ofStep] using ih
    | true =>
      rw [hfi] at hg ih
      rcases List.eq_nil_or_concat out with rfl | ⟨pre,⟨lo,hi⟩,rfl⟩
      · simp [lp,loopsOf,Tryz.f200,hlt,hw,hg,hfi]
        simpa [ofStep] using ih
      · have h1:ltI 0 ((pre.length:Int)+1)=true:=by simp only [ltI,decide_eq_true_eq];omega
        have hw2:IntKind.i64.wrap (pre.length:Int)=(pre.length:Int):=by rw [wrap64];simp at hb;omega
        have hg2:(pre.map spL++[spL (lo,hi)])[pre.length]?=some [L.int .i64 lo,L.int .i64 hi]:=by simp
        have hs2:∀ q,(pre.map spL++[spL (lo,hi)]).set pre.length q=pre.map spL++[q]:=fun q=>by
          have:(pre.map spL).length=pre.length:=by simp
          rw [← this]
          simp
        cases he:eqI hi i with
        | true =>
          simp [ofStep,he] at ih
          simp at hsz hsz2
          simp [lp,loopsOf,Tryz.f200,hlt,hw,hg,hfi,h1,hw2,hg2,he,hs2]
          simp [ofStep,he]
          exact ih
        | false =>
          simp [ofStep,he] at ih
          simp at hsz hsz2
          simp [lp,loopsOf,Tryz.f200,hlt,hw,hg,hfi,h1,hw2,hg2,he,hsz,hsz2]
          simp [ofStep,he]
          exact ih
theorem ev_l1Of (m:M) (f:Nat→Bool) (N:Nat) (hN:N≤4000000):ev E 200 [.v m false [.sl (plR f N)]]=some { rs:=[.v .own false [.sl ((ofL f N 0 []).map spL)]],outs:=[] }:=by
  rw [ev_fn Tryz.f200 rfl Tryz.func200 rfl rfl rfl (Nat.le_of_ble_eq_true rfl)]
  have hl:=lp_l1Of m f N hN _ rfl N 0 [] (by omega) (by simp)
  push_cast at hl
  rw [List.map_nil] at hl
  simp
  rw [loopC_at ?_ hl]
  · simp
  · rfl
end Go.Ev


set_option maxRecDepth 100000
set_option maxHeartbeats 4000000
namespace Go.Ev
open Go.Proofs
def fillV (v:Bool) (f:Nat→Bool):Nat→Nat→(Nat→Bool)
  | 0,_=>f
  | n+1,i=>fillV v (updB f i v) n (i+1)
theorem fillV_get (v:Bool) (n:Nat):∀ (f:Nat→Bool) (i j:Nat),fillV v f n i j=if i≤j∧j<i+n then v else f j:=by
  induction n with
  | zero=>intro f i j;rw [if_neg (by omega)];rfl
  | succ n ih =>
    intro f i j
    simp only [fillV,ih,updB]
    by_cases h:j=i
    · subst h;simp
    · by_cases h2:i≤j∧j<i+(n+1)
      · rw [if_pos h2,if_pos (by omega)]
      · rw [if_neg h2,if_neg (by omega),if_neg h]
theorem lp_spec_l1Add (m:M) (xs:List Sp) (lo:Int) (hi:Nat) (hhi:hi≤48) (a:Code) (ha:a=lp Tryz.f170 0):∀ (n i:Nat) (f:Nat→Bool),i+n=hi →
    loopC E (ev E) 170 a { V:=[(3,adc 3),(5,at1 5),(6,vi i)],H:=[bx (.c 3) [.int .i64 lo,.int .i64 hi],ow (.c 5) [.sl (plR f 48)]],ps:=[] } =
      some (.exit 0,{ V:=[(3,adc 3),(5,at1 5),(6,vi hi),(14,vb false)],H:=[bx (.c 3) [.int .i64 lo,.int .i64 hi],ow (.c 5) [.sl (plR (fillV true f n i) 48)]],ps:=[] })
  | 0,i,f,h=>by
    rw [loopC_of _ _ _ _ ha]
    obtain rfl:i=hi:=by omega
    simp [lp,loopsOf,Tryz.f170,fillV]
  | n+1,i,f,h=>by
    have hlt:i<hi:=by omega
    have hl2:i<48:=by omega
    have hw:=wrapN i (by omega)
    have hs:=plR_set f 48 i true hl2
    have ih:=lp_spec_l1Add m xs lo hi hhi a ha n (i+1) (updB f i true) (by omega)
    push_cast at ih
    rw [loopC_of _ _ _ _ ha]
    clear ha
    simp [lp,loopsOf,Tryz.f170,hlt,hw,hl2,hs,fillV]
    simpa using ih
theorem ev_spec_l1Add (m m':M) (xs:List Sp) (s:Sp) (hb:xs.length≤1099511627776) (h1:0≤s.1) (h2:s.1≤s.2) (h3:s.2≤48) :
    ev E 170 [.v m false [.sl (xs.map spL)],.v m' true (spL s)]=some { rs:=[.v .own false [.sl ((ofL (fun j=>if inSp j s=true then true else xs.any (inSp j)) 48 0 []).map spL)]],outs:=[] }:=by
  obtain ⟨lo',hi'⟩:=s
  obtain ⟨lo,rfl⟩:∃ lo:Nat,lo'=lo:=⟨lo'.toNat,by simp at h1;omega⟩
  obtain ⟨hi,rfl⟩:∃ hi:Nat,hi'=hi:=⟨hi'.toNat,by simp at h1 h2;omega⟩
  have hl:=lp_spec_l1Add m xs lo hi (by simp at h3;omega) _ rfl (hi - lo) lo (fun j=>xs.any (inSp j)) (by simp at h2;omega)
  have hc:=fun m=>ev_l1Places m xs hb
  have ho:=fun m f=>ev_l1Of m f 48 (by omega)
  have:plR (fun j=>if inSp j ((lo:Int),(hi:Int))=true then true else xs.any (inSp j)) 48=plR (fillV true (fun j=>xs.any (inSp j)) (hi - lo) lo) 48:=plR_congr fun j hj=>by
    rw [fillV_get]
    have:(inSp j ((lo:Int),(hi:Int))=true)=(lo≤j∧j<lo+(hi - lo)):=by
      simp only [inSp,ltI,Bool.and_eq_true,Bool.not_eq_true',decide_eq_false_iff_not,decide_eq_true_eq,eq_iff_iff]
      simp at h2
      omega
    simp only [this]
  have hof:ev E 200 [.v .tn false [.sl (plR (fillV true (fun j=>xs.any (inSp j)) (hi - lo) lo) 48)]]=some { rs:=[.v .own false [.sl ((ofL (fun j=>if inSp j ((lo:Int),(hi:Int))=true then true else xs.any (inSp j)) 48 0 []).map spL)]],outs:=[] }:=by
    rw [← this,ho]
  rw [ev_fn Tryz.f170 rfl Tryz.func170 rfl rfl rfl (Nat.le_of_ble_eq_true rfl)]
  push_cast at hl
  simp [hc]
  rw [loopC_at ?_ hl]
  · simp [hof]
  · rfl
theorem lp_spec_l1Cut (m:M) (xs:List Sp) (lo:Int) (hi:Nat) (hhi:hi≤48) (a:Code) (ha:a=lp Tryz.f166 0):∀ (n i:Nat) (f:Nat→Bool),i+n=hi →
    loopC E (ev E) 166 a { V:=[(3,adc 3),(5,at1 5),(6,vi i)],H:=[bx (.c 3) [.int .i64 lo,.int .i64 hi],ow (.c 5) [.sl (plR f 48)]],ps:=[] } =
      some (.exit 0,{ V:=[(3,adc 3),(5,at1 5),(6,vi hi),(14,vb false)],H:=[bx (.c 3) [.int .i64 lo,.int .i64 hi],ow (.c 5) [.sl (plR (fillV false f n i) 48)]],ps:=[] })
  | 0,i,f,h=>by
    rw [loopC_of _ _ _ _ ha]
    obtain rfl:i=hi:=by omega
    simp [lp,loopsOf,Tryz.f166,fillV]
  | n+1,i,f,h=>by
    have hlt:i<hi:=by omega
    have hl2:i<48:=by omega
    have hw:=wrapN i (by omega)
    have hs:=plR_set f 48 i false hl2
    have ih:=lp_spec_l1Cut m xs lo hi hhi a ha n (i+1) (updB f i false) (by omega)
    push_cast at ih
    rw [loopC_of _ _ _ _ ha]
    clear ha
    simp [lp,loopsOf,Tryz.f166,hlt,hw,hl2,hs,fillV]
    simpa using ih
theorem ev_spec_l1Cut (m m':M) (xs:List Sp) (s:Sp) (hb:xs.length≤1099511627776) (h1:0≤s.1) (h2:s.1≤s.2) (h3:s.2≤48) :
    ev E 166 [.v m false [.sl (xs.map spL)],.v m' true (spL s)]=some { rs:=[.v .own false [.sl ((ofL (fun j=>if inSp j s=true then false else xs.any (inSp j)) 48 0 []).map spL)]],outs:=[] }:=by
  obtain ⟨lo',hi'⟩:=s
  obtain ⟨lo,rfl⟩:∃ lo:Nat,lo'=lo:=⟨lo'.toNat,by simp at h1;omega⟩
  obtain ⟨hi,rfl⟩:∃ hi:Nat,hi'=hi:=⟨hi'.toNat,by simp at h1 h2;omega⟩
  have hl:=lp_spec_l1Cut m xs lo hi (by simp at h3;omega) _ rfl (hi - lo) lo (fun j=>xs.any (inSp j)) (by simp at h2;omega)
  have hc:=fun m=>ev_l1Places m xs hb
  have ho:=fun m f=>ev_l1Of m f 48 (by omega)
  have:plR (fun j=>if inSp j ((lo:Int),(hi:Int))=true then false else xs.any (inSp j)) 48=plR (fillV false (fun j=>xs.any (inSp j)) (hi - lo) lo) 48:=plR_congr fun j hj=>by
    rw [fillV_get]
    have:(inSp j ((lo:Int),(hi:Int))=true)=(lo≤j∧j<lo+(hi - lo)):=by
      simp only [inSp,ltI,Bool.and_eq_true,Bool.not_eq_true',decide_eq_false_iff_not,decide_eq_true_eq,eq_iff_iff]
      simp at h2
      omega
    simp only [this]
  have hof:ev E 200 [.v .tn false [.sl (plR (fillV false (fun j=>xs.any (inSp j)) (hi - lo) lo) 48)]]=some { rs:=[.v .own false [.sl ((ofL (fun j=>if inSp j ((lo:Int),(hi:Int))=true then false else xs.any (inSp j)) 48 0 []).map spL)]],outs:=[] }:=by
    rw [← this,ho]
  rw [ev_fn Tryz.f166 rfl Tryz.func166 rfl rfl rfl (Nat.le_of_ble_eq_true rfl)]
  push_cast at hl
  simp [hc]
  rw [loopC_at ?_ hl]
  · simp [hof]
  · rfl
end Go.Ev


set_option maxRecDepth 100000
set_option maxHeartbeats 4000000
namespace Go.Ev
open Go.Proofs
def meetS (a b:Sp):Sp:=(maxI a.1 b.1,minI a.2 b.2)
abbrev rSB (s:Sp) (b:Bool):Out:={ rs:=[.v .own true (spL s),.v .own false [.bool b]],outs:=[] }
theorem ev_l1Meet (m m':M) (a b:Sp):ev E 201 [.v m true (spL a),.v m' true (spL b)] =
    some (if ltI (meetS a b).1 (meetS a b).2=true then rSB (meetS a b) true else rSB (0,0) false):=by
  have h1:=fun m m'=>ev_spec_l1Max m m' a.1 b.1
  have h2:=fun m m'=>ev_spec_l1Min m m' a.2 b.2
  rw [ev_fn Tryz.f201 rfl Tryz.func201 rfl rfl rfl (Nat.le_of_ble_eq_true rfl)]
  cases h:ltI (meetS a b).1 (meetS a b).2<;>simp only [meetS] at h<;>simp [h1,h2,meetS,h]
theorem maxJ (a b:Int):(if a<b then b else a)=maxI a b:=by
  simp only [maxI,ltI,decide_eq_true_eq]
  split<;>split<;>omega
theorem minJ (a b:Int):(if b<a then b else a)=minI a b:=by
  simp only [minI,ltI,decide_eq_true_eq]
  split<;>split<;>omega
def meetO (a b:Sp):Bool:=spOk a&&spOk b&&spOk (meetS a b)
theorem ev_SpanMeet (m m':M) (a b:Sp):ev E 106 [.v m true (spL a),.v m' true (spL b)] =
    some (if meetO a b=true then rSB (meetS a b) true else rSB (0,0) false):=by
  have h1:=fun m=>ev_impl_SpanOk m a
  have h2:=fun m=>ev_impl_SpanOk m b
  have h3:=fun m=>ev_impl_SpanOk m (meetS a b)
  simp only [meetS] at h3
  rw [ev_fn Tryz.f106 rfl Tryz.func106 rfl rfl rfl (Nat.le_of_ble_eq_true rfl)]
  cases e1:spOk a<;>cases e2:spOk b<;>cases e3:spOk (meetS a b)<;>simp only [meetS] at e3<;>simp [h1,h2,h3,e1,e2,e3,meetS,meetO,maxJ,minJ]
abbrev owL (t:List UInt8) (h d:List Sp):List L:=[.str t,.sl (h.map spL),.sl (d.map spL)]
theorem ev_OwnSame (m m':M) (hm:m.isOwn=false) (hm':m'.isOwn=false) (t t':List UInt8) (h d h' d':List Sp) (hb:h'.length≤1099511627776) (db:d'.length≤1099511627776) :
    ev E 48 [.v m true (owL t h d),.v m' true (owL t' h' d')]=some (rB (eqS t t'&&decide (h=h')&&decide (d=d'))):=by
  have h1:=fun m m'=>ev_Equal m m' h h' hb
  have h2:=fun m m'=>ev_Equal m m' d d' db
  rw [ev_fn Tryz.f48 rfl Tryz.func48 rfl rfl rfl (Nat.le_of_ble_eq_true rfl)]
  cases e1:eqS t t'
  · simp [e1,hm,hm']
  · by_cases e2:h=h'
    · subst e2
      simp [e1,hm,hm',h1,h2]
    · simp [e1,hm,hm',h1,h2,e2]
abbrev rOw (t:List UInt8) (h d:List Sp):RV:=.v .own true (owL t h d)
theorem ev_l6Copy (m:M) (hm:m.isOwn=false) (t:List UInt8) (h d:List Sp) (hb:h.length≤1099511627776) (db:d.length≤1099511627776) :
    ev E 104 [.v m true (owL t h d)]=some { rs:=[rOw t h d],outs:=[] }:=by
  rw [ev_fn Tryz.f104 rfl Tryz.func104 rfl rfl rfl (Nat.le_of_ble_eq_true rfl)]
  have a1:h.length*16≤17592186044416:=by omega
  have a2:h.length≤17592186044416:=by omega
  have a3:d.length*16≤17592186044416:=by omega
  have a4:d.length≤17592186044416:=by omega
  simp [hm,a1,a2,a3,a4]
end Go.Ev


set_option maxRecDepth 100000
set_option maxHeartbeats 4000000
namespace Go.Ev
open Go.Proofs
abbrev bxm (r:Root) (m:M) (ls:List L):Root × HC:=(r,{ box:=true,wr:=true,m,ls,e0:=0,e1:=0 })
def allTo (p:Nat→Bool):Nat→Nat→Bool
  | 0,_=>true
  | n+1,i=>p i&&allTo p n (i+1)
theorem allTo_iff (p:Nat→Bool):∀ (n i:Nat),allTo p n i=true↔∀ j,i≤j→j<i+n→p j=true
  | 0,i=>by simp [allTo];omega
  | n+1,i=>by
    simp only [allTo,Bool.and_eq_true,allTo_iff p n (i+1)]
    constructor
    · intro ⟨h1,h2⟩ j hj hk
      by_cases e:j=i
      · subst e;exact h1
      · exact h2 j (by omega) (by omega)
    · intro h
      exact ⟨h i (by omega) (by omega),fun j hj hk=>h j (by omega) (by omega)⟩
def okAt (t:List UInt8) (hf df:Nat→Bool) (i:Nat):Bool:=hf i || (eqI (t.getD i 0).toNat 46&&!df i)
theorem lp_iOwnOk (m:M) (hm:m.isOwn=false) (t:List UInt8) (h d:List Sp) (ht:t.length=48) (hf df:Nat→Bool) (a:Code) (ha:a=lp Tryz.f47 0):∀ (n i:Nat),i+n=48 →
    loopC E (ev E) 47 a { V:=[(1,adc 1),(3,adc 3),(4,adc 4),(34,vi i)],H:=[bxm (.c 1) m (owL t h d),bx (.c 3) (pl hf),bx (.c 4) (pl df)],ps:=[] } =
      if allTo (okAt t hf df) n i then some (.exit 0,{ V:=[(1,adc 1),(3,adc 3),(4,adc 4),(34,vi 48),(35,vb false)],H:=[bxm (.c 1) m (owL t h d),bx (.c 3) (pl hf),bx (.c 4) (pl df)],ps:=[] })
      else some (.ret,{ V:=[(2,vb false)],H:=[],ps:=[] })
  | 0,i,h0=>by
    rw [loopC_of _ _ _ _ ha]
    obtain rfl:i=48:=by omega
    simp [lp,loopsOf,Tryz.f47,allTo,hm]
  | n+1,i,h0=>by
    have hlt:i<48:=by omega
    have hI:(i:Int)<48:=by omega
    have h1:1≤48 - i:=by omega
    have hw:=wrapN i (by omega)
    have hlt2:i<t.length:=by omega
    have hp:=pl_take hf hlt
    have hq:=pl_take df hlt
    have ih:=lp_iOwnOk m hm t h d ht hf df a ha n (i+1) (by omega)
    push_cast at ih
    rw [loopC_of _ _ _ _ ha,allTo]
    have hg:t.getD i 0=t[i]:=by simp [hlt2]
    simp only [okAt,hg]
    clear ha hg
    generalize allTo (okAt t hf df) n (i+1)=r at ih ⊢
    cases e1:hf i<;>rw [e1] at hp
    · cases e2:eqI t[i].toNat 46
      · simp [lp,loopsOf,Tryz.f47,hI,hlt2,hw,hp,h1,show i≤48 by omega,hm,e2]
      · cases e3:df i<;>rw [e3] at hq<;>simp [lp,loopsOf,Tryz.f47,hI,hlt2,hw,hp,hq,h1,show i≤48 by omega,hm,e2,ih]
    · simp [lp,loopsOf,Tryz.f47,hI,hlt2,hw,hp,h1,show i≤48 by omega,hm,ih]
def inF (xs:List Sp):Nat→Bool:=fun j=>xs.any (inSp j)
def ownOk (t:List UInt8) (h d:List Sp):Bool:=t.all okB&&eqI t.length 48&&spsOk h&&spsOk d&&allTo (okAt t (inF h) (inF d)) 48 0
theorem spOk_iff {s:Sp}:spOk s=true↔0≤s.1∧s.1<s.2∧s.2≤48:=by
  simp [spOk,ltI,and_assoc]
theorem stepsOk_sp {xs:List Sp}:∀ (n i:Nat),stepsOk xs n i=true→∀ j,i≤j→j<i+n→j<xs.length→spOk (xs.getD j (0,0))=true
  | 0,i,_,j,h1,h2,_=>by omega
  | n+1,i,h,j,h1,h2,h3=>by
    simp only [stepsOk,Bool.and_eq_true] at h
    by_cases e:j=i
    · subst e
      simp only [stepOk,Bool.and_eq_true] at h
      exact h.1.1
    · exact stepsOk_sp n (i+1) h.2 j (by omega) (by omega) h3
theorem spsOk_sp {xs:List Sp} (h:spsOk xs=true):∀ s∈xs,0≤s.1∧s.1<s.2∧s.2≤48:=by
  intro s hs
  simp only [spsOk,Bool.and_eq_true] at h
  obtain ⟨j,hj,rfl⟩:=List.mem_iff_getElem.1 hs
  have:=stepsOk_sp _ _ h.1 j (by omega) (by omega) hj
  simp only [List.getD_eq_getElem?_getD,List.getElem?_eq_getElem hj,Option.getD_some] at this
  exact spOk_iff.1 this
theorem spsOk_len {xs:List Sp} (h:spsOk xs=true):xs.length≤12:=by
  simp only [spsOk,Bool.and_eq_true,Bool.not_eq_true',ltI_not] at h
  omega
theorem ev_impl_OwnOk (m:M) (hm:m.isOwn=false) (t:List UInt8) (h d:List Sp) (tb:t.length≤1099511627776) (hb:h.length≤1099511627776) (db:d.length≤1099511627776) :
    ev E 47 [.v m true (owL t h d)]=some (rB (ownOk t h d)):=by
  have c1:=fun m=>ev_impl_TextOk m t tb
  have c2:=fun m=>ev_impl_SpansOk m h hb
  have c3:=fun m=>ev_impl_SpansOk m d db
  rw [ev_fn Tryz.f47 rfl Tryz.func47 rfl rfl rfl (Nat.le_of_ble_eq_true rfl)]
  cases e1:t.all okB
  · simp [c1,e1,hm,ownOk,-List.all_eq_true,-List.all_eq_false]
  · cases e2:eqI t.length 48
    · cases e3:ltI 48 t.length<;>simp [c1,e1,e2,e3,hm,ownOk,-List.all_eq_true,-List.all_eq_false]
    · have hl:t.length=48:=by simp only [eqI_iff] at e2;omega
      have e3:ltI 48 t.length=false:=by simp only [ltI_not];omega
      cases e4:spsOk h
      · simp [c1,c2,e1,e2,e3,e4,hm,ownOk,-List.all_eq_true,-List.all_eq_false]
      · cases e5:spsOk d
        · simp [c1,c2,c3,e1,e2,e3,e4,e5,hm,ownOk,-List.all_eq_true,-List.all_eq_false]
        · have c4:∀ m,ev E 42 [.v m false [.sl (h.map spL)]]=some { rs:=[.v .own true (pl (inF h))],outs:=[] }:=fun m=>ev_impl_of m h hb fun s hs=>by have:=spsOk_sp e4 s hs;omega
          have c5:∀ m,ev E 42 [.v m false [.sl (d.map spL)]]=some { rs:=[.v .own true (pl (inF d))],outs:=[] }:=fun m=>ev_impl_of m d db fun s hs=>by have:=spsOk_sp e5 s hs;omega
          have hl2:=lp_iOwnOk m hm t h d hl (inF h) (inF d) _ rfl 48 0 (by omega)
          push_cast at hl2
          simp [c1,c2,c3,c4,c5,e1,e2,e3,e4,e5,hm,ownOk,-List.all_eq_true,-List.all_eq_false,pl_ff]
          rw [loopC_at ?_ hl2]
          · cases e6:allTo (okAt t (inF h) (inF d)) 48 0<;>simp
          · rfl
theorem lp_sOwnOk (m:M) (hm:m.isOwn=false) (t:List UInt8) (h d:List Sp) (ht:t.length=48) (hb:h.length≤1099511627776) (db:d.length≤1099511627776) (a:Code) (ha:a=lp Tryz.f138 0):∀ (n i:Nat),i+n=48 →
    loopC E (ev E) 138 a { V:=[(1,adc 1),(3,vi i)],H:=[bxm (.c 1) m (owL t h d)],ps:=[] } =
      if allTo (okAt t (inF h) (inF d)) n i then some (.exit 0,{ V:=[(1,adc 1),(3,vi 48),(30,vb false)],H:=[bxm (.c 1) m (owL t h d)],ps:=[] })
      else some (.ret,{ V:=[(2,vb false)],H:=[],ps:=[] })
  | 0,i,h0=>by
    rw [loopC_of _ _ _ _ ha]
    obtain rfl:i=48:=by omega
    simp [lp,loopsOf,Tryz.f138,allTo,hm,ht]
  | n+1,i,h0=>by
    have hI:(i:Int)<48:=by omega
    have hw:=wrapN i (by omega)
    have hlt2:i<t.length:=by omega
    have hltc:i<48:=by omega
    have ih:=lp_sOwnOk m hm t h d ht hb db a ha n (i+1) (by omega)
    push_cast at ih
    rw [loopC_of _ _ _ _ ha,allTo]
    have hg:t.getD i 0=t[i]:=by simp [hlt2]
    simp only [okAt,hg]
    clear ha hg
    have c1:∀ m m',ev E 145 [.v m false [.sl (h.map spL)],.v m' false [.int .i64 i]]=some (rB (inF h i)):=fun m m'=>ev_spec_l1In m m' h i hb
    have c2:∀ m m',ev E 145 [.v m false [.sl (d.map spL)],.v m' false [.int .i64 i]]=some (rB (inF d i)):=fun m m'=>ev_spec_l1In m m' d i db
    generalize allTo (okAt t (inF h) (inF d)) n (i+1)=r at ih ⊢
    cases e1:inF h i
    · cases e2:eqI t[i].toNat 46
      · simp [lp,loopsOf,Tryz.f138,hI,hltc,hlt2,ht,hw,hm,e1,e2,c1,c2]
      · cases e3:inF d i<;>simp [lp,loopsOf,Tryz.f138,hI,hltc,hlt2,ht,hw,hm,e1,e2,e3,c1,c2,ih]
    · simp [lp,loopsOf,Tryz.f138,hI,hltc,hlt2,ht,hw,hm,ih,e1,c1,c2]
theorem ev_spec_OwnOk (m:M) (hm:m.isOwn=false) (t:List UInt8) (h d:List Sp) (tb:t.length≤1099511627776) (hb:h.length≤1099511627776) (db:d.length≤1099511627776) :
    ev E 138 [.v m true (owL t h d)]=some (rB (ownOk t h d)):=by
  have c1:=fun m=>ev_spec_TextOk m t tb
  have c2:=fun m=>ev_spec_SpansOk m h hb
  have c3:=fun m=>ev_spec_SpansOk m d db
  rw [ev_fn Tryz.f138 rfl Tryz.func138 rfl rfl rfl (Nat.le_of_ble_eq_true rfl)]
  cases e1:t.all okB
  · simp [c1,e1,hm,ownOk,-List.all_eq_true,-List.all_eq_false]
  · cases e2:eqI t.length 48
    · cases e3:ltI 48 t.length<;>simp [c1,e1,e2,e3,hm,ownOk,-List.all_eq_true,-List.all_eq_false]
    · have hl:t.length=48:=by simp only [eqI_iff] at e2;omega
      have e3:ltI 48 t.length=false:=by simp only [ltI_not];omega
      cases e4:spsOk h
      · simp [c1,c2,e1,e2,e3,e4,hm,ownOk,-List.all_eq_true,-List.all_eq_false]
      · cases e5:spsOk d
        · simp [c1,c2,c3,e1,e2,e3,e4,e5,hm,ownOk,-List.all_eq_true,-List.all_eq_false]
        · have hl2:=lp_sOwnOk m hm t h d hl hb db _ rfl 48 0 (by omega)
          push_cast at hl2
          simp [c1,c2,c3,e1,e2,e3,e4,e5,hm,ownOk,-List.all_eq_true,-List.all_eq_false]
          rw [loopC_at ?_ hl2]
          · cases e6:allTo (okAt t (inF h) (inF d)) 48 0<;>simp
          · rfl
theorem ev_l6Put (m m':M) (hm:m.isOwn=false) (hm':m'.isOwn=false) (t:List UInt8) (h d:List Sp) (t':List UInt8) (h' d':List Sp) (hb:h.length≤1099511627776) (db:d.length≤1099511627776) (tb':t'.length≤1099511627776) (hb':h'.length≤1099511627776) (db':d'.length≤1099511627776) :
    ev E 165 [.v m true (owL t h d),.v m' true (owL t' h' d')]=some (if ownOk t' h' d'=true then { rs:=[rOw t' h' d',.v .own false [.bool true]],outs:=[] } else { rs:=[rOw t h d,.v .own false [.bool false]],outs:=[] }):=by
  have c1:=fun m hm=>ev_spec_OwnOk m hm t' h' d' tb' hb' db'
  have c2:=fun m hm=>ev_l6Copy m hm t h d hb db
  have c3:=fun m hm=>ev_l6Copy m hm t' h' d' hb' db'
  rw [ev_fn Tryz.f165 rfl Tryz.func165 rfl rfl rfl (Nat.le_of_ble_eq_true rfl)]
  cases e:ownOk t' h' d'<;>simp [c1,c2,c3,hm,hm',e]
end Go.Ev

