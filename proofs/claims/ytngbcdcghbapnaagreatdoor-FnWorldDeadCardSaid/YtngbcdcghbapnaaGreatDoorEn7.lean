/- My texts joined: EvF, EvG, EvT1, EvT2, EvT3, EvT4. No condition. -/
import Derived.Test.YtngbcdcghbapnaaGreatDoorEn1
import Derived.Test.YtngbcdcghbapnaaGreatDoorEn2
import Derived.Test.YtngbcdcghbapnaaGreatDoorEn5
import Derived.Test.YtngbcdcghbapnaaGreatDoorEn6
set_option linter.unusedVariables false
set_option linter.unusedSimpArgs false

namespace Go.Ev
theorem envOk:EnvOk E fun f id ops=>drawChk ops (E.conf f id) (ancT f id) :=
 envOk_of (by kernel_rfl) (fun f h=>by
  have hk:known.contains f=true:=by
   have h:extT f=none:=h
   unfold extT at h
   repeat' (split at h)
   all_goals first | assumption | (cases h;done)
  exact List.all_eq_true.1 okBodies f (by simpa using hk)) extOk
theorem sound {f:FuncId} {args:List Arg} {out:Out} (h:ev E f args=some out):Con E f args out:=ev_sound envOk f args out h
end Go.Ev


namespace Go.Ev
def resK (E:Env) (fz:List Nat) (rs:List ResultVar) (args:List Arg) (r:Option (Ex × St)):Option Out :=
 match r with
 | some (.normal,s) | some (.ret,s) =>
  match evResults E fz rs s with
  | some (rs,s')=>(outsOf s' args 0).map fun outs=>{ rs,outs }
  | none=>none
 | _=>none
def finK (args:List Arg) (r:Option (List RV × St)):Option Out :=
 match r with
 | some (rs,s')=>(outsOf s' args 0).map fun outs=>{ rs,outs }
 | none=>none
@[simp] theorem finK_some (args:List Arg) (rs:List RV) (s:St):finK args (some (rs,s))=(outsOf s args 0).map fun outs=>{ rs,outs }:=rfl
@[simp] theorem resK_normal (E:Env) (fz:List Nat) (rs:List ResultVar) (args:List Arg) (s:St):resK E fz rs args (some (.normal,s))=finK args (evResults E fz rs s):=rfl
@[simp] theorem resK_ret (E:Env) (fz:List Nat) (rs:List ResultVar) (args:List Arg) (s:St):resK E fz rs args (some (.ret,s))=finK args (evResults E fz rs s):=rfl
@[simp] theorem resK_ite (E:Env) (fz:List Nat) (rs:List ResultVar) (args:List Arg) (p:Prop) [Decidable p] (x y:Option (Ex × St)):resK E fz rs args (if p then x else y)=if p then resK E fz rs args x else resK E fz rs args y:=by split<;>rfl
@[simp] theorem opnd_nilptr (E:Env) (s:St):opnd E s (.const (.pointer none))=.dead:=rfl
theorem loopC_at {E:Env} {K:Fns} {f:FuncId} {a c:Code} {s:St} {r:Option (Ex × St)} (ha:a=c) (h:loopC E K f c s=r):loopC E K f a s=r:=ha ▸ h
theorem ev_fn {f:FuncId} (fn:Func) {c:Code} {rs:List ResultVar} {args:List Arg} (hx:E.ext f=none) (hf:E.P.funcs[f]?=some fn) (hc:fn.body=some c) (hr:fn.results.toList=rs)
  (h1:args.length=fn.params.size+fn.nfree) (h2:args.length≤fn.ntmps):ev E f args=resK E (E.fz f) rs args (evCode E (ev E) f c (enter 0 args)):=by
 rw [ev_eq]
 simp only [hx]
 exact evBody_of E _ f fn c rs args hf hc hr ⟨h1,h2⟩
end Go.Ev


set_option maxRecDepth 100000
namespace Go.Ev
open Go.Proofs
abbrev vi (n:Int):AV:=.v .ro false [.int .i64 n]
abbrev vb (b:Bool):AV:=.v .ro false [.bool b]
abbrev Sp:=Int × Int
abbrev spL (s:Sp):List L:=[.int .i64 s.1,.int .i64 s.2]
abbrev rB (b:Bool):Out:={ rs:=[.v .own false [.bool b]],outs:=[] }
abbrev rI (n:Int):Out:={ rs:=[.v .own false [.int .i64 n]],outs:=[] }
theorem wrapN (i:Nat) (h:i<4611686018427387904):IntKind.i64.wrap ((i:Int)+1)=((i+1:Nat):Int):=by
 rw [wrap64]<;>omega
def okB (b:UInt8):Bool:=!((ltI b.toNat 97 || ltI 122 b.toNat)&&(ltI b.toNat 48 || ltI 57 b.toNat)&&!eqI b.toNat 46)
def spOk (s:Sp):Bool:=!ltI s.1 0&&ltI s.1 s.2&&!ltI 48 s.2
def minI (a b:Int):Int:=if ltI a b=true then a else b
def maxI (a b:Int):Int:=if ltI b a=true then a else b
theorem ev_impl_SpanOk (m:M) (s:Sp):ev E 63 [.v m true (spL s)]=some (rB (spOk s)):=by
 rw [ev_fn Tryz.f63 rfl Tryz.func63 rfl rfl rfl (Nat.le_of_ble_eq_true rfl)]
 simp
 repeat' (split<;>rename_i hq<;>(try simp only [Bool.not_eq_true] at hq)<;>simp [hq, *])
 all_goals simp [spOk, *]
theorem ev_spec_SpanOk (m:M) (s:Sp):ev E 153 [.v m true (spL s)]=some (rB (spOk s)):=by
 rw [ev_fn Tryz.f153 rfl Tryz.func153 rfl rfl rfl (Nat.le_of_ble_eq_true rfl)]
 simp
 repeat' (split<;>rename_i hq<;>(try simp only [Bool.not_eq_true] at hq)<;>simp [hq, *])
 all_goals simp [spOk, *]
theorem ev_spec_l1Min (m m':M) (a b:Int):ev E 132 [.v m false [.int .i64 a],.v m' false [.int .i64 b]]=some (rI (minI a b)):=by
 rw [ev_fn Tryz.f132 rfl Tryz.func132 rfl rfl rfl (Nat.le_of_ble_eq_true rfl)]
 simp
 repeat' (split<;>rename_i hq<;>(try simp only [Bool.not_eq_true] at hq)<;>simp [hq, *])
 all_goals simp [minI, *]
theorem ev_spec_l1Max (m m':M) (a b:Int):ev E 131 [.v m false [.int .i64 a],.v m' false [.int .i64 b]]=some (rI (maxI a b)):=by
 rw [ev_fn Tryz.f131 rfl Tryz.func131 rfl rfl rfl (Nat.le_of_ble_eq_true rfl)]
 simp
 repeat' (split<;>rename_i hq<;>(try simp only [Bool.not_eq_true] at hq)<;>simp [hq, *])
 all_goals simp [maxI, *]
theorem ev_l2Byte (m:M) (b:UInt8):ev E 254 [.v m false [.int .u8 b.toNat]]=some (rB (okB b)):=by
 rw [ev_fn Tryz.f254 rfl Tryz.func254 rfl rfl rfl (Nat.le_of_ble_eq_true rfl)]
 simp
 repeat' (split<;>rename_i hq<;>(try simp only [Bool.not_eq_true] at hq)<;>simp [hq, *])
 all_goals simp [okB, *]
end Go.Ev


set_option maxRecDepth 100000
namespace Go.Ev
open Go.Proofs
theorem all_drop {α:Type} {p:α→Bool} {xs:List α} {i:Nat} (h:i<xs.length):(xs.drop i).all p=(p xs[i]&&(xs.drop (i+1)).all p):=by
 rw [List.drop_eq_getElem_cons h];rfl
theorem any_drop {α:Type} {p:α→Bool} {xs:List α} {i:Nat} (h:i<xs.length):(xs.drop i).any p=(p xs[i] || (xs.drop (i+1)).any p):=by
 rw [List.drop_eq_getElem_cons h];rfl
theorem lp_TextOk (m:M) (bs:List UInt8) (hb:bs.length≤1099511627776) (a:Code) (ha:a=lp Tryz.f98 0):∀ (n i:Nat),i+n=bs.length →
  loopC E (ev E) 98 a { V:=[(0,.v m false [.str bs]),(6,vi bs.length),(7,vi i)],H:=[],ps:=[] } =
   if (bs.drop i).all okB then some (.exit 0,{ V:=[(0,.v m false [.str bs]),(6,vi bs.length),(7,vi bs.length),(8,vb false)],H:=[],ps:=[] })
   else some (.ret,{ V:=[(2,vb false)],H:=[],ps:=[] })
 | 0,i,h=>by
  rw [loopC_of _ _ _ _ ha]
  obtain rfl:i=bs.length:=by omega
  simp [lp,loopsOf,Tryz.f98]
 | n+1,i,h=>by
  have hlt:i<bs.length:=by omega
  have ih:=lp_TextOk m bs hb a ha n (i+1) (by omega)
  push_cast at ih
  have hw:=wrapN i (by omega)
  rw [loopC_of _ _ _ _ ha,all_drop hlt]
  clear ha
  generalize (bs.drop (i+1)).all okB=r at ih ⊢
  generalize hR:(if (okB bs[i]&&r)=true then _ else _)=R
  simp [lp,loopsOf,Tryz.f98,hlt,hw]
  repeat' (split<;>rename_i hq<;>(try simp only [Bool.not_eq_true] at hq)<;>simp [hq, *])
  all_goals (subst hR;simp [okB, *])
theorem ev_impl_TextOk (m:M) (bs:List UInt8) (hb:bs.length≤1099511627776):ev E 98 [.v m false [.str bs]]=some (rB (bs.all okB&&!ltI 48 bs.length)):=by
 rw [ev_fn Tryz.f98 rfl Tryz.func98 rfl rfl rfl (Nat.le_of_ble_eq_true rfl)]
 have hl:=fun a ha=>lp_TextOk m bs hb a ha bs.length 0 (by omega)
 push_cast at hl
 simp
 rw [hl _ ?_]
 ·cases h:bs.all okB<;>simp [h]
 ·rfl
theorem lp_sTextOk (m:M) (bs:List UInt8) (hb:bs.length≤1099511627776) (a:Code) (ha:a=lp Tryz.f222 0):∀ (n i:Nat),i+n=bs.length →
  loopC E (ev E) 222 a { V:=[(0,.v m false [.str bs]),(3,vi i)],H:=[],ps:=[] } =
   if (bs.drop i).all okB then some (.exit 0,{ V:=[(0,.v m false [.str bs]),(3,vi bs.length),(7,vb false)],H:=[],ps:=[] })
   else some (.ret,{ V:=[(2,vb false)],H:=[],ps:=[] })
 | 0,i,h=>by
  rw [loopC_of _ _ _ _ ha]
  obtain rfl:i=bs.length:=by omega
  simp [lp,loopsOf,Tryz.f222]
 | n+1,i,h=>by
  have hlt:i<bs.length:=by omega
  have ih:=lp_sTextOk m bs hb a ha n (i+1) (by omega)
  push_cast at ih
  have hw:=wrapN i (by omega)
  rw [loopC_of _ _ _ _ ha,all_drop hlt]
  clear ha
  generalize (bs.drop (i+1)).all okB=r at ih ⊢
  generalize hR:(if (okB bs[i]&&r)=true then _ else _)=R
  simp [lp,loopsOf,Tryz.f222,hlt,hw,ev_l2Byte]
  repeat' (split<;>rename_i hq<;>(try simp only [Bool.not_eq_true] at hq)<;>simp [hq, *,ev_l2Byte])
  all_goals (subst hR;simp [*])
theorem ev_spec_TextOk (m:M) (bs:List UInt8) (hb:bs.length≤1099511627776):ev E 222 [.v m false [.str bs]]=some (rB (bs.all okB&&!ltI 48 bs.length)):=by
 rw [ev_fn Tryz.f222 rfl Tryz.func222 rfl rfl rfl (Nat.le_of_ble_eq_true rfl)]
 have hl:=fun a ha=>lp_sTextOk m bs hb a ha bs.length 0 (by omega)
 push_cast at hl
 simp
 rw [hl _ ?_]
 ·cases h:bs.all okB<;>simp [h]
 ·rfl
def inSp (at':Int) (s:Sp):Bool:=!ltI at' s.1&&ltI at' s.2
theorem lp_spec_l1In (m m':M) (xs:List Sp) (k:Int) (hb:xs.length≤1099511627776) (a:Code) (ha:a=lp Tryz.f167 0):∀ (n i:Nat),i+n=xs.length →
  loopC E (ev E) 167 a { V:=[(0,.v m false [.sl (xs.map spL)]),(1,.v m' false [.int .i64 k]),(5,vi i)],H:=[],ps:=[] } =
   if (xs.drop i).any (inSp k) then some (.ret,{ V:=[(4,vb true)],H:=[],ps:=[] })
   else some (.exit 0,{ V:=[(0,.v m false [.sl (xs.map spL)]),(1,.v m' false [.int .i64 k]),(5,vi xs.length),(9,vb false)],H:=[],ps:=[] })
 | 0,i,h=>by
  rw [loopC_of _ _ _ _ ha]
  obtain rfl:i=xs.length:=by omega
  simp [lp,loopsOf,Tryz.f167]
 | n+1,i,h=>by
  have hlt:i<xs.length:=by omega
  have ih:=lp_spec_l1In m m' xs k hb a ha n (i+1) (by omega)
  push_cast at ih
  have hw:=wrapN i (by omega)
  rw [loopC_of _ _ _ _ ha,any_drop hlt]
  clear ha
  generalize (xs.drop (i+1)).any (inSp k)=r at ih ⊢
  generalize hR:(if (inSp k xs[i] || r)=true then _ else _)=R
  simp [lp,loopsOf,Tryz.f167,hlt,hw]
  repeat' (split<;>rename_i hq<;>(try simp only [Bool.not_eq_true] at hq)<;>simp [hq, *])
  all_goals (subst hR;simp [inSp, *])
theorem ev_spec_l1In (m m':M) (xs:List Sp) (k:Int) (hb:xs.length≤1099511627776):ev E 167 [.v m false [.sl (xs.map spL)],.v m' false [.int .i64 k]]=some (rB (xs.any (inSp k))):=by
 rw [ev_fn Tryz.f167 rfl Tryz.func167 rfl rfl rfl (Nat.le_of_ble_eq_true rfl)]
 have hl:=fun a ha=>lp_spec_l1In m m' xs k hb a ha xs.length 0 (by omega)
 push_cast at hl
 simp
 rw [hl _ ?_]
 ·cases h:xs.any (inSp k)<;>simp [h]
 ·rfl
end Go.Ev


set_option maxRecDepth 100000
set_option maxHeartbeats 2000000
namespace Go.Ev
open Go.Proofs
def stepOk (xs:List Sp) (i:Nat):Bool:=spOk (xs.getD i (0,0))&&(match i with | 0=>true | j+1=>ltI (xs.getD j (0,0)).2 (xs.getD (j+1) (0,0)).1)
def stepsOk (xs:List Sp):Nat→Nat→Bool
 | 0,_=>true
 | n+1,i=>stepOk xs i&&stepsOk xs n (i+1)
def spsOk (xs:List Sp):Bool:=stepsOk xs xs.length 0&&!ltI 12 xs.length
theorem stepOk_0 {xs:List Sp} (h:0<xs.length):stepOk xs 0=spOk xs[0]:=by simp [stepOk,h]
theorem stepOk_s {xs:List Sp} {i j:Nat} (hj:i=j+1) (h:i<xs.length):stepOk xs i=(spOk xs[i]&&ltI (xs[j]'(by omega)).2 xs[i].1):=by
 subst hj
 simp [stepOk,h,show j<xs.length by omega]
theorem lp_impl_SpansOk (m:M) (xs:List Sp) (hb:xs.length≤1099511627776) (a:Code) (ha:a=lp Tryz.f159 0):∀ (n i:Nat),i+n=xs.length →
  loopC E (ev E) 159 a { V:=[(0,.v m false [.sl (xs.map spL)]),(5,.v m false [.sl (xs.map spL)]),(6,vi xs.length),(7,vi i)],H:=[],ps:=[] } =
   if stepsOk xs n i then some (.exit 0,{ V:=[(0,.v m false [.sl (xs.map spL)]),(5,.v m false [.sl (xs.map spL)]),(6,vi xs.length),(7,vi xs.length),(8,vb false)],H:=[],ps:=[] })
   else some (.ret,{ V:=[(2,vb false)],H:=[],ps:=[] })
 | 0,i,h=>by
  rw [loopC_of _ _ _ _ ha]
  obtain rfl:i=xs.length:=by omega
  simp [lp,loopsOf,Tryz.f159,stepsOk]
 | n+1,i,h=>by
  have hlt:i<xs.length:=by omega
  have ih:=lp_impl_SpansOk m xs hb a ha n (i+1) (by omega)
  push_cast at ih
  have hw:=wrapN i (by omega)
  rw [loopC_of _ _ _ _ ha,stepsOk]
  clear ha
  generalize stepsOk xs n (i+1)=r at ih ⊢
  by_cases h0:i=0
  ·subst h0
   rw [stepOk_0 hlt]
   generalize hR:(if (spOk xs[0]&&r)=true then _ else _)=R
   simp at hw ih
   simp [lp,loopsOf,Tryz.f159,hlt,hw,ev_impl_SpanOk]
   repeat' (split<;>rename_i hq<;>(try simp only [Bool.not_eq_true] at hq)<;>simp [hq, *,ev_impl_SpanOk])
   all_goals (subst hR;simp [*])
  ·obtain ⟨j,hj⟩:∃ j,i=j+1:=⟨i - 1,by omega⟩
   have hjl:j<xs.length:=by omega
   have h1:ltI 0 i=true:=by simp [ltI];omega
   have hw2:IntKind.i64.wrap ((i:Int) - 1)=(j:Int):=by rw [wrap64]<;>omega
   rw [stepOk_s hj hlt]
   generalize hR:(if (spOk xs[i]&&ltI xs[j].2 xs[i].1&&r)=true then _ else _)=R
   clear hj
   simp [lp,loopsOf,Tryz.f159,hlt,hw,ev_impl_SpanOk,h1,hw2,hjl]
   repeat' (split<;>rename_i hq<;>(try simp only [Bool.not_eq_true] at hq)<;>simp [hq, *,ev_impl_SpanOk])
   all_goals (subst hR;simp [*])
theorem ev_impl_SpansOk (m:M) (xs:List Sp) (hb:xs.length≤1099511627776):ev E 159 [.v m false [.sl (xs.map spL)]]=some (rB (spsOk xs)):=by
 rw [ev_fn Tryz.f159 rfl Tryz.func159 rfl rfl rfl (Nat.le_of_ble_eq_true rfl)]
 have hl:=fun a ha=>lp_impl_SpansOk m xs hb a ha xs.length 0 (by omega)
 push_cast at hl
 simp
 rw [hl _ ?_]
 ·cases h:stepsOk xs xs.length 0<;>simp [h,spsOk]
 ·rfl
theorem lp_spec_SpansOk (m:M) (xs:List Sp) (hb:xs.length≤1099511627776) (a:Code) (ha:a=lp Tryz.f220 0):∀ (n i:Nat),i+n=xs.length →
  loopC E (ev E) 220 a { V:=[(0,.v m false [.sl (xs.map spL)]),(3,vi i)],H:=[],ps:=[] } =
   if stepsOk xs n i then some (.exit 0,{ V:=[(0,.v m false [.sl (xs.map spL)]),(3,vi xs.length),(7,vb false)],H:=[],ps:=[] })
   else some (.ret,{ V:=[(2,vb false)],H:=[],ps:=[] })
 | 0,i,h=>by
  rw [loopC_of _ _ _ _ ha]
  obtain rfl:i=xs.length:=by omega
  simp [lp,loopsOf,Tryz.f220,stepsOk]
 | n+1,i,h=>by
  have hlt:i<xs.length:=by omega
  have ih:=lp_spec_SpansOk m xs hb a ha n (i+1) (by omega)
  push_cast at ih
  have hw:=wrapN i (by omega)
  rw [loopC_of _ _ _ _ ha,stepsOk]
  clear ha
  generalize stepsOk xs n (i+1)=r at ih ⊢
  by_cases h0:i=0
  ·subst h0
   rw [stepOk_0 hlt]
   generalize hR:(if (spOk xs[0]&&r)=true then _ else _)=R
   simp at hw ih
   simp [lp,loopsOf,Tryz.f220,hlt,hw,ev_spec_SpanOk]
   repeat' (split<;>rename_i hq<;>(try simp only [Bool.not_eq_true] at hq)<;>simp [hq, *,ev_spec_SpanOk])
   all_goals (subst hR;simp [*])
  ·obtain ⟨j,hj⟩:∃ j,i=j+1:=⟨i - 1,by omega⟩
   have hjl:j<xs.length:=by omega
   have h1:ltI 0 i=true:=by simp [ltI];omega
   have hw2:IntKind.i64.wrap ((i:Int) - 1)=(j:Int):=by rw [wrap64]<;>omega
   rw [stepOk_s hj hlt]
   generalize hR:(if (spOk xs[i]&&ltI xs[j].2 xs[i].1&&r)=true then _ else _)=R
   clear hj
   simp [lp,loopsOf,Tryz.f220,hlt,hw,ev_spec_SpanOk,h1,hw2,hjl]
   repeat' (split<;>rename_i hq<;>(try simp only [Bool.not_eq_true] at hq)<;>simp [hq, *,ev_spec_SpanOk])
   all_goals (subst hR;simp [*])
theorem ev_spec_SpansOk (m:M) (xs:List Sp) (hb:xs.length≤1099511627776):ev E 220 [.v m false [.sl (xs.map spL)]]=some (rB (spsOk xs)):=by
 rw [ev_fn Tryz.f220 rfl Tryz.func220 rfl rfl rfl (Nat.le_of_ble_eq_true rfl)]
 have hl:=fun a ha=>lp_spec_SpansOk m xs hb a ha xs.length 0 (by omega)
 push_cast at hl
 simp
 rw [hl _ ?_]
 ·cases h:stepsOk xs xs.length 0<;>simp [h,spsOk]
 ·rfl
end Go.Ev


set_option maxRecDepth 100000
set_option maxHeartbeats 2000000
namespace Go.Ev
open Go.Proofs
def pl (f:Nat→Bool):List L:=(List.range 48).map fun i=>L.bool (f i)
def updB (f:Nat→Bool) (i:Nat) (v:Bool):Nat→Bool:=fun j=>if j=i then v else f j
abbrev bx (r:Root) (ls:List L):Root × HC:=(r,{ box:=true,wr:=true,m:=.own,ls,e0:=0,e1:=0 })
@[simp] theorem pl_length (f:Nat→Bool):(pl f).length=48:=by simp [pl]
theorem pl_get (f:Nat→Bool) {i:Nat} (h:i<48):(pl f)[i]?=some (.bool (f i)):=by simp [pl,h]
theorem pl_take (f:Nat→Bool) {i:Nat} (h:i<48):((pl f).drop i).take 1=[.bool (f i)]:=by
 have hl:i<(pl f).length:=by simpa using h
 rw [List.drop_eq_getElem_cons hl]
 have:=pl_get f h
 rw [List.getElem?_eq_getElem hl] at this
 simp only [Option.some.injEq] at this
 simp [this]
theorem pl_set (f:Nat→Bool) (i:Nat) (v:Bool) (h:i<48):(pl f).set i (.bool v)=pl (updB f i v):=by
 refine List.ext_getElem? fun j=>?_
 by_cases hj:j<48
 ·rw [pl_get _ hj,List.getElem?_set]
  by_cases e:i=j
  ·subst e;simp [updB,h]
  ·simp [e,updB,Ne.symm e,pl_get f hj]
 ·rw [List.getElem?_eq_none (by simp;omega),List.getElem?_eq_none (by simp;omega)]
@[simp] theorem pl_flat (f:Nat→Bool):(pl f).all L.flat=true:=by simp [pl]
@[simp] theorem pl_all (f:Nat→Bool):(pl f).take 48=pl f:=List.take_of_length_le (by simp)
theorem pl_ff:List.replicate 48 (L.bool false)=pl fun _=>false:=rfl
theorem pl_congr {f g:Nat→Bool} (h:∀ i,i<48→f i=g i):pl f=pl g:=by
 unfold pl
 exact List.map_congr_left fun i hi=>by rw [h i (List.mem_range.1 hi)]
@[simp] theorem wrap_i (i:Nat):((i:Int)).toNat=i:=Int.toNat_natCast i
theorem setRange_app:∀ (xs pre ls:List L),xs.length=ls.length→setRange (pre++ls) pre.length xs=pre++xs
 | [],pre,[],_=>rfl
 | [],pre,_::_,h=>by simp at h
 | _::_,pre,[],h=>by simp at h
 | x::xs,pre,l::ls,h=>by
  have:=setRange_app xs (pre++[x]) ls (by simpa using h)
  simp only [setRange]
  rw [show (pre++l::ls).set pre.length x=(pre++[x])++ls by simp,show pre.length+1=(pre++[x]).length by simp,this]
  simp
@[simp] theorem pl_over (f g:Nat→Bool):setRange (pl f) 0 (pl g)=pl g:=by
 have:=setRange_app (pl g) [] (pl f) (by simp)
 simpa using this
def fillF (f:Nat→Bool):Nat→Nat→(Nat→Bool)
 | 0,_=>f
 | n+1,i=>fillF (updB f i true) n (i+1)
theorem fillF_get (n:Nat):∀ (f:Nat→Bool) (i j:Nat),fillF f n i j=(f j || (decide (i≤j)&&decide (j<i+n))):=by
 induction n with
 | zero =>
  intro f i j
  have:(decide (i≤j)&&decide (j<i+0))=false:=by simp
  rw [this,Bool.or_false];rfl
 | succ n ih =>
  intro f i j
  simp only [fillF,ih,updB]
  by_cases h:j=i
  ·subst h;simp
  ·simp only [if_neg h]
   congr 1
   rw [Bool.eq_iff_iff]
   simp only [Bool.and_eq_true,decide_eq_true_eq]
   omega
theorem lp_of1 (m:M) (xs:List Sp) (g:Nat→Bool) (k lo:Int) (hi:Nat) (hhi:hi≤48) (a:Code) (ha:a=lp Tryz.f64 1):∀ (n i:Nat) (f:Nat→Bool),i+n=hi →
  loopC E (ev E) 64 a { V:=[(2,.ad (.c 2) 0 0 0 []),(3,.ad (.c 3) 0 0 0 []),(5,.ad (.c 5) 0 0 0 []),(6,vi i),(7,.v m false [.sl (xs.map spL)]),(8,vi xs.length),(9,vi k)],H:=[bx (.c 2) (pl g),bx (.c 3) (pl f),bx (.c 5) [.int .i64 lo,.int .i64 hi]],ps:=[] } =
   some (.exit 2,{ V:=[(2,.ad (.c 2) 0 0 0 []),(3,.ad (.c 3) 0 0 0 []),(5,.ad (.c 5) 0 0 0 []),(6,vi hi),(7,.v m false [.sl (xs.map spL)]),(8,vi xs.length),(9,vi k),(18,vb false)],H:=[bx (.c 2) (pl g),bx (.c 3) (pl (fillF f n i)),bx (.c 5) [.int .i64 lo,.int .i64 hi]],ps:=[] })
 | 0,i,f,h=>by
  rw [loopC_of _ _ _ _ ha]
  obtain rfl:i=hi:=by omega
  simp [lp,loopsOf,Tryz.f64,fillF]
 | n+1,i,f,h=>by
  have hlt:i<hi:=by omega
  have hl2:i<48:=by omega
  have ih:=lp_of1 m xs g k lo hi hhi a ha n (i+1) (updB f i true) (by omega)
  push_cast at ih
  have hw:=wrapN i (by omega)
  have hs:=pl_set f i true hl2
  rw [loopC_of _ _ _ _ ha]
  clear ha
  have hI:(i:Int)<48:=by omega
  have h1:1≤48 - i:=by omega
  simp [lp,loopsOf,Tryz.f64,hlt,hw,fillF,hs,hI,h1,show i≤48 by omega]
  simpa using ih
theorem lp_of0 (m:M) (xs:List Sp) (hb:xs.length≤1099511627776) (hx:∀ s∈xs,0≤s.1∧s.1≤s.2∧s.2≤48) (a:Code) (ha:a=lp Tryz.f64 0):∀ (n i:Nat) (f:Nat→Bool),i+n=xs.length →
  ∃ g,loopC E (ev E) 64 a { V:=[(2,.ad (.c 2) 0 0 0 []),(3,.ad (.c 3) 0 0 0 []),(7,.v m false [.sl (xs.map spL)]),(8,vi xs.length),(9,vi i)],H:=[bx (.c 2) (pl fun _=>false),bx (.c 3) (pl f)],ps:=[] } =
   some (.exit 0,{ V:=[(2,.ad (.c 2) 0 0 0 []),(3,.ad (.c 3) 0 0 0 []),(7,.v m false [.sl (xs.map spL)]),(8,vi xs.length),(9,vi xs.length),(10,vb false)],H:=[bx (.c 2) (pl fun _=>false),bx (.c 3) (pl g)],ps:=[] }) ∧
   ∀ j,j<48→g j=(f j || (xs.drop i).any (inSp j))
 | 0,i,f,h=>by
  refine ⟨f,?_,fun j _=>by rw [List.drop_eq_nil_of_le (by omega)];simp⟩
  rw [loopC_of _ _ _ _ ha]
  obtain rfl:i=xs.length:=by omega
  simp [lp,loopsOf,Tryz.f64]
 | n+1,i,f,h=>by
  have hlt:i<xs.length:=by omega
  obtain ⟨h1,h2,h3⟩:=hx xs[i] (List.getElem_mem hlt)
  obtain ⟨lo,hlo⟩:∃ lo:Nat,xs[i].1=lo:=⟨xs[i].1.toNat,by omega⟩
  obtain ⟨hi,hhi⟩:∃ hi:Nat,xs[i].2=hi:=⟨xs[i].2.toNat,by omega⟩
  have hin:=fun a ha=>lp_of1 m xs (fun _=>false) i lo hi (by omega) a ha (hi - lo) lo f (by omega)
  obtain ⟨g,hg,hg2⟩:=lp_of0 m xs hb hx a ha n (i+1) (fillF f (hi - lo) lo) (by omega)
  have hw:=wrapN i (by omega)
  refine ⟨g,?_,fun j hj=>?_⟩
  ·push_cast at hg
   rw [loopC_of _ _ _ _ ha]
   clear ha
   simp [lp,loopsOf,Tryz.f64,hlt,hw,hlo,hhi]
   rw [hin _ ?_]
   ·simp [hw]
    simpa using hg
   ·rfl
  ·rw [hg2 j hj,fillF_get,any_drop hlt,Bool.or_assoc]
   congr 2
   simp only [inSp,hlo,hhi,ltI]
   rw [Bool.eq_iff_iff]
   simp only [Bool.and_eq_true,decide_eq_true_eq,Bool.not_eq_true',decide_eq_false_iff_not]
   omega
theorem ev_impl_of (m:M) (xs:List Sp) (hb:xs.length≤1099511627776) (hx:∀ s∈xs,0≤s.1∧s.1≤s.2∧s.2≤48) :
  ev E 64 [.v m false [.sl (xs.map spL)]]=some { rs:=[.v .own true (pl fun j=>xs.any (inSp j))],outs:=[] }:=by
 obtain ⟨g,hg,hg2⟩:=lp_of0 m xs hb hx _ rfl xs.length 0 (fun _=>false) (by omega)
 have:pl (fun j=>xs.any (inSp j))=pl g:=pl_congr fun j hj=>by rw [hg2 j hj];simp
 rw [this]
 rw [ev_fn Tryz.f64 rfl Tryz.func64 rfl rfl rfl (Nat.le_of_ble_eq_true rfl)]
 push_cast at hg
 simp [pl_ff]
 rw [loopC_at ?_ hg]
 ·simp
 ·rfl
end Go.Ev

