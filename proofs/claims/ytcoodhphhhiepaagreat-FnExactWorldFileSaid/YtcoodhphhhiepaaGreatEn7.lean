/- My texts joined: EvF, EvG, EvT1, EvT2, EvT3, EvT4, EvT5, EvT6, EvT7, EvT8, EvT9, EvT10, EvT11. No condition. -/
import Derived.Test.YtcoodhphhhiepaaGreatEn3
import Derived.Test.YtcoodhphhhiepaaGreatEn6
/- The evaluator is sound over this program. -/
namespace Go.Ev
theorem envOk : EnvOk E fun f id ops => drawChk ops (E.conf f id) (ancT f id) :=
  envOk_of (by kernel_rfl) (fun f h => by
    have hk : known.contains f = true := by
      have h : extT f = none := h
      unfold extT at h
      repeat' (split at h)
      all_goals first | assumption | (cases h; done)
    exact List.all_eq_true.1 okBodies f (by simpa using hk)) extOk
theorem sound {f : FuncId} {args : List Arg} {out : Out} (h : ev E f args = some out) : Con E f args out := ev_sound envOk f args out h
end Go.Ev

/- A function's answer, in the form that simp uses. -/
set_option linter.unusedVariables false
namespace Go.Ev
def resK (E : Env) (fz : List Nat) (rs : List ResultVar) (args : List Arg) (r : Option (Ex × St)) : Option Out :=
  match r with
  | some (.normal, s) | some (.ret, s) =>
    match evResults E fz rs s with
    | some (rs, s') => (outsOf s' args 0).map fun outs => { rs, outs }
    | none => none
  | _ => none
def finK (args : List Arg) (r : Option (List RV × St)) : Option Out :=
  match r with
  | some (rs, s') => (outsOf s' args 0).map fun outs => { rs, outs }
  | none => none
@[simp] theorem finK_some (args : List Arg) (rs : List RV) (s : St) : finK args (some (rs, s)) = (outsOf s args 0).map fun outs => { rs, outs } := rfl
@[simp] theorem resK_normal (E : Env) (fz : List Nat) (rs : List ResultVar) (args : List Arg) (s : St) : resK E fz rs args (some (.normal, s)) = finK args (evResults E fz rs s) := rfl
@[simp] theorem resK_ret (E : Env) (fz : List Nat) (rs : List ResultVar) (args : List Arg) (s : St) : resK E fz rs args (some (.ret, s)) = finK args (evResults E fz rs s) := rfl
@[simp] theorem resK_ite (E : Env) (fz : List Nat) (rs : List ResultVar) (args : List Arg) (p : Prop) [Decidable p] (x y : Option (Ex × St)) : resK E fz rs args (if p then x else y) = if p then resK E fz rs args x else resK E fz rs args y := by split <;> rfl
theorem thenK_ite (p : Prop) [Decidable p] (x y : Option (Ex × St)) (k : St → Option (Ex × St)) : thenK (if p then x else y) k = if p then thenK x k else thenK y k := by split <;> rfl
theorem blockK_ite (p : Prop) [Decidable p] (x y : Option (Ex × St)) (i : Nat) : blockK i (if p then x else y) = if p then blockK i x else blockK i y := by split <;> rfl
@[simp] theorem opnd_nilptr (E : Env) (s : St) : opnd E s (.const (.pointer none)) = .dead := rfl
theorem loopC_at {E : Env} {K : Fns} {f : FuncId} {a c : Code} {s : St} {r : Option (Ex × St)} (ha : a = c) (h : loopC E K f c s = r) : loopC E K f a s = r := ha ▸ h
theorem ev_fn {f : FuncId} (fn : Func) {c : Code} {rs : List ResultVar} {args : List Arg} (hx : E.ext f = none) (hf : E.P.funcs[f]? = some fn) (hc : fn.body = some c) (hr : fn.results.toList = rs)
    (h1 : args.length = fn.params.size + fn.nfree) (h2 : args.length ≤ fn.ntmps) : ev E f args = resK E (E.fz f) rs args (evCode E (ev E) f c (enter 0 args)) := by
  rw [ev_eq]
  simp only [hx]
  exact evBody_of E _ f fn c rs args hf hc hr ⟨h1, h2⟩
end Go.Ev

/- Answers of the smallest functions. -/
set_option linter.unusedSimpArgs false
set_option linter.unusedVariables false
set_option maxRecDepth 100000
namespace Go.Ev
open Go.Proofs
abbrev vi (n : Int) : AV := .v .ro false [.int .i64 n]
abbrev vb (b : Bool) : AV := .v .ro false [.bool b]
abbrev vc (b : UInt8) : AV := .v .ro false [.int .u8 b.toNat]
abbrev Sp := Int × Int
abbrev spL (s : Sp) : List L := [.int .i64 s.1, .int .i64 s.2]
abbrev rB (b : Bool) : Out := { rs := [.v .own false [.bool b]], outs := [] }
abbrev rI (n : Int) : Out := { rs := [.v .own false [.int .i64 n]], outs := [] }
theorem wrapN (i : Nat) (h : i < 4611686018427387904) : IntKind.i64.wrap ((i : Int) + 1) = ((i + 1 : Nat) : Int) := by
  rw [wrap64] <;> omega
def okB (b : UInt8) : Bool := !((ltI b.toNat 97 || ltI 122 b.toNat) && (ltI b.toNat 48 || ltI 57 b.toNat) && !eqI b.toNat 46)
def spOk (s : Sp) : Bool := !ltI s.1 0 && ltI s.1 s.2 && !ltI 48 s.2
def minI (a b : Int) : Int := if ltI a b = true then a else b
def maxI (a b : Int) : Int := if ltI b a = true then a else b
theorem ev_impl_SpanOk (m : M) (s : Sp) : ev E 102 [.v m true (spL s)] = some (rB (spOk s)) := by
  rw [ev_fn Tryz.f102 rfl Tryz.func102 rfl rfl rfl (Nat.le_of_ble_eq_true rfl)]
  simp
  repeat' (split <;> rename_i hq <;> (try simp only [Bool.not_eq_true] at hq) <;> simp [hq, *])
  all_goals simp [spOk, *]
theorem ev_spec_SpanOk (m : M) (s : Sp) : ev E 111 [.v m true (spL s)] = some (rB (spOk s)) := by
  rw [ev_fn Tryz.f111 rfl Tryz.func111 rfl rfl rfl (Nat.le_of_ble_eq_true rfl)]
  simp
  repeat' (split <;> rename_i hq <;> (try simp only [Bool.not_eq_true] at hq) <;> simp [hq, *])
  all_goals simp [spOk, *]
theorem ev_spec_l1Min (m m' : M) (a b : Int) : ev E 124 [.v m false [.int .i64 a], .v m' false [.int .i64 b]] = some (rI (minI a b)) := by
  rw [ev_fn Tryz.f124 rfl Tryz.func124 rfl rfl rfl (Nat.le_of_ble_eq_true rfl)]
  simp
  repeat' (split <;> rename_i hq <;> (try simp only [Bool.not_eq_true] at hq) <;> simp [hq, *])
  all_goals simp [minI, *]
theorem ev_spec_l1Max (m m' : M) (a b : Int) : ev E 123 [.v m false [.int .i64 a], .v m' false [.int .i64 b]] = some (rI (maxI a b)) := by
  rw [ev_fn Tryz.f123 rfl Tryz.func123 rfl rfl rfl (Nat.le_of_ble_eq_true rfl)]
  simp
  repeat' (split <;> rename_i hq <;> (try simp only [Bool.not_eq_true] at hq) <;> simp [hq, *])
  all_goals simp [maxI, *]
theorem ev_l2Byte (m : M) (b : UInt8) : ev E 113 [.v m false [.int .u8 b.toNat]] = some (rB (okB b)) := by
  rw [ev_fn Tryz.f113 rfl Tryz.func113 rfl rfl rfl (Nat.le_of_ble_eq_true rfl)]
  simp
  repeat' (split <;> rename_i hq <;> (try simp only [Bool.not_eq_true] at hq) <;> simp [hq, *])
  all_goals simp [okB, *]
end Go.Ev

/- Answers: loops over strings and ranges that only read. -/
set_option linter.unusedSimpArgs false
set_option linter.unusedVariables false
set_option maxRecDepth 100000
namespace Go.Ev
open Go.Proofs
/-- The last step of a loop by its rest. -/
theorem all_drop {α : Type} {p : α → Bool} {xs : List α} {i : Nat} (h : i < xs.length) : (xs.drop i).all p = (p xs[i] && (xs.drop (i + 1)).all p) := by
  rw [List.drop_eq_getElem_cons h]; rfl
theorem any_drop {α : Type} {p : α → Bool} {xs : List α} {i : Nat} (h : i < xs.length) : (xs.drop i).any p = (p xs[i] || (xs.drop (i + 1)).any p) := by
  rw [List.drop_eq_getElem_cons h]; rfl
theorem lp_TextOk (m : M) (bs : List UInt8) (hb : bs.length ≤ 1099511627776) (a : Code) (ha : a = lp Tryz.f70 0) : ∀ (n i : Nat), i + n = bs.length →
    loopC E (ev E) 70 a { V := [(0, .v m false [.str bs]), (6, vi bs.length), (7, vi i)], H := [], ps := [] } =
      if (bs.drop i).all okB then some (.exit 0, { V := [(0, .v m false [.str bs]), (6, vi bs.length), (7, vi bs.length), (8, vb false)], H := [], ps := [] })
      else some (.ret, { V := [(2, vb false)], H := [], ps := [] })
  | 0, i, h => by
    rw [loopC_of _ _ _ _ ha]
    obtain rfl : i = bs.length := by omega
    simp [lp, loopsOf, Tryz.f70]
  | n + 1, i, h => by
    have hlt : i < bs.length := by omega
    have ih := lp_TextOk m bs hb a ha n (i + 1) (by omega)
    push_cast at ih
    have hw := wrapN i (by omega)
    rw [loopC_of _ _ _ _ ha, all_drop hlt]
    clear ha
    generalize (bs.drop (i + 1)).all okB = r at ih ⊢
    generalize hR : (if (okB bs[i] && r) = true then _ else _) = R
    simp [lp, loopsOf, Tryz.f70, hlt, hw]
    repeat' (split <;> rename_i hq <;> (try simp only [Bool.not_eq_true] at hq) <;> simp [hq, *])
    all_goals (subst hR; simp [okB, *])
theorem ev_impl_TextOk (m : M) (bs : List UInt8) (hb : bs.length ≤ 1099511627776) : ev E 70 [.v m false [.str bs]] = some (rB (bs.all okB && !ltI 48 bs.length)) := by
  rw [ev_fn Tryz.f70 rfl Tryz.func70 rfl rfl rfl (Nat.le_of_ble_eq_true rfl)]
  have hl := fun a ha => lp_TextOk m bs hb a ha bs.length 0 (by omega)
  push_cast at hl
  simp
  rw [hl _ ?_]
  · cases h : bs.all okB <;> simp [h]
  · rfl
theorem lp_sTextOk (m : M) (bs : List UInt8) (hb : bs.length ≤ 1099511627776) (a : Code) (ha : a = lp Tryz.f92 0) : ∀ (n i : Nat), i + n = bs.length →
    loopC E (ev E) 92 a { V := [(0, .v m false [.str bs]), (3, vi i)], H := [], ps := [] } =
      if (bs.drop i).all okB then some (.exit 0, { V := [(0, .v m false [.str bs]), (3, vi bs.length), (7, vb false)], H := [], ps := [] })
      else some (.ret, { V := [(2, vb false)], H := [], ps := [] })
  | 0, i, h => by
    rw [loopC_of _ _ _ _ ha]
    obtain rfl : i = bs.length := by omega
    simp [lp, loopsOf, Tryz.f92]
  | n + 1, i, h => by
    have hlt : i < bs.length := by omega
    have ih := lp_sTextOk m bs hb a ha n (i + 1) (by omega)
    push_cast at ih
    have hw := wrapN i (by omega)
    rw [loopC_of _ _ _ _ ha, all_drop hlt]
    clear ha
    generalize (bs.drop (i + 1)).all okB = r at ih ⊢
    generalize hR : (if (okB bs[i] && r) = true then _ else _) = R
    simp [lp, loopsOf, Tryz.f92, hlt, hw, ev_l2Byte]
    repeat' (split <;> rename_i hq <;> (try simp only [Bool.not_eq_true] at hq) <;> simp [hq, *, ev_l2Byte])
    all_goals (subst hR; simp [*])
theorem ev_spec_TextOk (m : M) (bs : List UInt8) (hb : bs.length ≤ 1099511627776) : ev E 92 [.v m false [.str bs]] = some (rB (bs.all okB && !ltI 48 bs.length)) := by
  rw [ev_fn Tryz.f92 rfl Tryz.func92 rfl rfl rfl (Nat.le_of_ble_eq_true rfl)]
  have hl := fun a ha => lp_sTextOk m bs hb a ha bs.length 0 (by omega)
  push_cast at hl
  simp
  rw [hl _ ?_]
  · cases h : bs.all okB <;> simp [h]
  · rfl
def inSp (at' : Int) (s : Sp) : Bool := !ltI at' s.1 && ltI at' s.2
theorem lp_spec_l1In (m m' : M) (xs : List Sp) (k : Int) (hb : xs.length ≤ 1099511627776) (a : Code) (ha : a = lp Tryz.f64 0) : ∀ (n i : Nat), i + n = xs.length →
    loopC E (ev E) 64 a { V := [(0, .v m false [.sl (xs.map spL)]), (1, .v m' false [.int .i64 k]), (5, vi i)], H := [], ps := [] } =
      if (xs.drop i).any (inSp k) then some (.ret, { V := [(4, vb true)], H := [], ps := [] })
      else some (.exit 0, { V := [(0, .v m false [.sl (xs.map spL)]), (1, .v m' false [.int .i64 k]), (5, vi xs.length), (9, vb false)], H := [], ps := [] })
  | 0, i, h => by
    rw [loopC_of _ _ _ _ ha]
    obtain rfl : i = xs.length := by omega
    simp [lp, loopsOf, Tryz.f64]
  | n + 1, i, h => by
    have hlt : i < xs.length := by omega
    have ih := lp_spec_l1In m m' xs k hb a ha n (i + 1) (by omega)
    push_cast at ih
    have hw := wrapN i (by omega)
    rw [loopC_of _ _ _ _ ha, any_drop hlt]
    clear ha
    generalize (xs.drop (i + 1)).any (inSp k) = r at ih ⊢
    generalize hR : (if (inSp k xs[i] || r) = true then _ else _) = R
    simp [lp, loopsOf, Tryz.f64, hlt, hw]
    repeat' (split <;> rename_i hq <;> (try simp only [Bool.not_eq_true] at hq) <;> simp [hq, *])
    all_goals (subst hR; simp [inSp, *])
theorem ev_spec_l1In (m m' : M) (xs : List Sp) (k : Int) (hb : xs.length ≤ 1099511627776) : ev E 64 [.v m false [.sl (xs.map spL)], .v m' false [.int .i64 k]] = some (rB (xs.any (inSp k))) := by
  rw [ev_fn Tryz.f64 rfl Tryz.func64 rfl rfl rfl (Nat.le_of_ble_eq_true rfl)]
  have hl := fun a ha => lp_spec_l1In m m' xs k hb a ha xs.length 0 (by omega)
  push_cast at hl
  simp
  rw [hl _ ?_]
  · cases h : xs.any (inSp k) <;> simp [h]
  · rfl
end Go.Ev

/- Answers: valid lists of ranges. -/
set_option linter.unusedSimpArgs false
set_option linter.unusedVariables false
set_option maxRecDepth 100000
set_option maxHeartbeats 2000000
namespace Go.Ev
open Go.Proofs
def stepOk (xs : List Sp) (i : Nat) : Bool := spOk (xs.getD i (0, 0)) && (match i with | 0 => true | j + 1 => ltI (xs.getD j (0, 0)).2 (xs.getD (j + 1) (0, 0)).1)
def stepsOk (xs : List Sp) : Nat → Nat → Bool
  | 0, _ => true
  | n + 1, i => stepOk xs i && stepsOk xs n (i + 1)
def spsOk (xs : List Sp) : Bool := stepsOk xs xs.length 0 && !ltI 12 xs.length
theorem stepOk_0 {xs : List Sp} (h : 0 < xs.length) : stepOk xs 0 = spOk xs[0] := by simp [stepOk, h]
theorem stepOk_s {xs : List Sp} {i j : Nat} (hj : i = j + 1) (h : i < xs.length) : stepOk xs i = (spOk xs[i] && ltI (xs[j]'(by omega)).2 xs[i].1) := by
  subst hj
  simp [stepOk, h, show j < xs.length by omega]
theorem lp_impl_SpansOk (m : M) (xs : List Sp) (hb : xs.length ≤ 1099511627776) (a : Code) (ha : a = lp Tryz.f71 0) : ∀ (n i : Nat), i + n = xs.length →
    loopC E (ev E) 71 a { V := [(0, .v m false [.sl (xs.map spL)]), (5, .v m false [.sl (xs.map spL)]), (6, vi xs.length), (7, vi i)], H := [], ps := [] } =
      if stepsOk xs n i then some (.exit 0, { V := [(0, .v m false [.sl (xs.map spL)]), (5, .v m false [.sl (xs.map spL)]), (6, vi xs.length), (7, vi xs.length), (8, vb false)], H := [], ps := [] })
      else some (.ret, { V := [(2, vb false)], H := [], ps := [] })
  | 0, i, h => by
    rw [loopC_of _ _ _ _ ha]
    obtain rfl : i = xs.length := by omega
    simp [lp, loopsOf, Tryz.f71, stepsOk]
  | n + 1, i, h => by
    have hlt : i < xs.length := by omega
    have ih := lp_impl_SpansOk m xs hb a ha n (i + 1) (by omega)
    push_cast at ih
    have hw := wrapN i (by omega)
    rw [loopC_of _ _ _ _ ha, stepsOk]
    clear ha
    generalize stepsOk xs n (i + 1) = r at ih ⊢
    by_cases h0 : i = 0
    · subst h0
      rw [stepOk_0 hlt]
      generalize hR : (if (spOk xs[0] && r) = true then _ else _) = R
      simp at hw ih
      simp [lp, loopsOf, Tryz.f71, hlt, hw, ev_impl_SpanOk]
      repeat' (split <;> rename_i hq <;> (try simp only [Bool.not_eq_true] at hq) <;> simp [hq, *, ev_impl_SpanOk])
      all_goals (subst hR; simp [*])
    · obtain ⟨j, hj⟩ : ∃ j, i = j + 1 := ⟨i - 1, by omega⟩
      have hjl : j < xs.length := by omega
      have h1 : ltI 0 i = true := by simp [ltI]; omega
      have hw2 : IntKind.i64.wrap ((i : Int) - 1) = (j : Int) := by rw [wrap64] <;> omega
      rw [stepOk_s hj hlt]
      generalize hR : (if (spOk xs[i] && ltI xs[j].2 xs[i].1 && r) = true then _ else _) = R
      clear hj
      simp [lp, loopsOf, Tryz.f71, hlt, hw, ev_impl_SpanOk, h1, hw2, hjl]
      repeat' (split <;> rename_i hq <;> (try simp only [Bool.not_eq_true] at hq) <;> simp [hq, *, ev_impl_SpanOk])
      all_goals (subst hR; simp [*])
theorem ev_impl_SpansOk (m : M) (xs : List Sp) (hb : xs.length ≤ 1099511627776) : ev E 71 [.v m false [.sl (xs.map spL)]] = some (rB (spsOk xs)) := by
  rw [ev_fn Tryz.f71 rfl Tryz.func71 rfl rfl rfl (Nat.le_of_ble_eq_true rfl)]
  have hl := fun a ha => lp_impl_SpansOk m xs hb a ha xs.length 0 (by omega)
  push_cast at hl
  simp
  rw [hl _ ?_]
  · cases h : stepsOk xs xs.length 0 <;> simp [h, spsOk]
  · rfl
theorem lp_spec_SpansOk (m : M) (xs : List Sp) (hb : xs.length ≤ 1099511627776) (a : Code) (ha : a = lp Tryz.f90 0) : ∀ (n i : Nat), i + n = xs.length →
    loopC E (ev E) 90 a { V := [(0, .v m false [.sl (xs.map spL)]), (3, vi i)], H := [], ps := [] } =
      if stepsOk xs n i then some (.exit 0, { V := [(0, .v m false [.sl (xs.map spL)]), (3, vi xs.length), (7, vb false)], H := [], ps := [] })
      else some (.ret, { V := [(2, vb false)], H := [], ps := [] })
  | 0, i, h => by
    rw [loopC_of _ _ _ _ ha]
    obtain rfl : i = xs.length := by omega
    simp [lp, loopsOf, Tryz.f90, stepsOk]
  | n + 1, i, h => by
    have hlt : i < xs.length := by omega
    have ih := lp_spec_SpansOk m xs hb a ha n (i + 1) (by omega)
    push_cast at ih
    have hw := wrapN i (by omega)
    rw [loopC_of _ _ _ _ ha, stepsOk]
    clear ha
    generalize stepsOk xs n (i + 1) = r at ih ⊢
    by_cases h0 : i = 0
    · subst h0
      rw [stepOk_0 hlt]
      generalize hR : (if (spOk xs[0] && r) = true then _ else _) = R
      simp at hw ih
      simp [lp, loopsOf, Tryz.f90, hlt, hw, ev_spec_SpanOk]
      repeat' (split <;> rename_i hq <;> (try simp only [Bool.not_eq_true] at hq) <;> simp [hq, *, ev_spec_SpanOk])
      all_goals (subst hR; simp [*])
    · obtain ⟨j, hj⟩ : ∃ j, i = j + 1 := ⟨i - 1, by omega⟩
      have hjl : j < xs.length := by omega
      have h1 : ltI 0 i = true := by simp [ltI]; omega
      have hw2 : IntKind.i64.wrap ((i : Int) - 1) = (j : Int) := by rw [wrap64] <;> omega
      rw [stepOk_s hj hlt]
      generalize hR : (if (spOk xs[i] && ltI xs[j].2 xs[i].1 && r) = true then _ else _) = R
      clear hj
      simp [lp, loopsOf, Tryz.f90, hlt, hw, ev_spec_SpanOk, h1, hw2, hjl]
      repeat' (split <;> rename_i hq <;> (try simp only [Bool.not_eq_true] at hq) <;> simp [hq, *, ev_spec_SpanOk])
      all_goals (subst hR; simp [*])
theorem ev_spec_SpansOk (m : M) (xs : List Sp) (hb : xs.length ≤ 1099511627776) : ev E 90 [.v m false [.sl (xs.map spL)]] = some (rB (spsOk xs)) := by
  rw [ev_fn Tryz.f90 rfl Tryz.func90 rfl rfl rfl (Nat.le_of_ble_eq_true rfl)]
  have hl := fun a ha => lp_spec_SpansOk m xs hb a ha xs.length 0 (by omega)
  push_cast at hl
  simp
  rw [hl _ ?_]
  · cases h : stepsOk xs xs.length 0 <;> simp [h, spsOk]
  · rfl
end Go.Ev

/- Places: arrays of bools, as functions. -/
set_option linter.unusedSimpArgs false
set_option linter.unusedVariables false
set_option maxRecDepth 100000
set_option maxHeartbeats 2000000
namespace Go.Ev
open Go.Proofs
def pl (f : Nat → Bool) : List L := (List.range 48).map fun i => L.bool (f i)
def updB (f : Nat → Bool) (i : Nat) (v : Bool) : Nat → Bool := fun j => if j = i then v else f j
abbrev bx (r : Root) (ls : List L) : Root × HC := (r, { box := true, wr := true, m := .own, ls, e0 := 0, e1 := 0 })
@[simp] theorem pl_length (f : Nat → Bool) : (pl f).length = 48 := by simp [pl]
theorem pl_get (f : Nat → Bool) {i : Nat} (h : i < 48) : (pl f)[i]? = some (.bool (f i)) := by simp [pl, h]
theorem pl_take (f : Nat → Bool) {i : Nat} (h : i < 48) : ((pl f).drop i).take 1 = [.bool (f i)] := by
  have hl : i < (pl f).length := by simpa using h
  rw [List.drop_eq_getElem_cons hl]
  have := pl_get f h
  rw [List.getElem?_eq_getElem hl] at this
  simp only [Option.some.injEq] at this
  simp [this]
theorem pl_set (f : Nat → Bool) (i : Nat) (v : Bool) (h : i < 48) : (pl f).set i (.bool v) = pl (updB f i v) := by
  refine List.ext_getElem? fun j => ?_
  by_cases hj : j < 48
  · rw [pl_get _ hj, List.getElem?_set]
    by_cases e : i = j
    · subst e; simp [updB, h]
    · simp [e, updB, Ne.symm e, pl_get f hj]
  · rw [List.getElem?_eq_none (by simp; omega), List.getElem?_eq_none (by simp; omega)]
@[simp] theorem pl_flat (f : Nat → Bool) : (pl f).all L.flat = true := by simp [pl]
@[simp] theorem pl_all (f : Nat → Bool) : (pl f).take 48 = pl f := List.take_of_length_le (by simp)
theorem pl_ff : List.replicate 48 (L.bool false) = pl fun _ => false := rfl
theorem pl_congr {f g : Nat → Bool} (h : ∀ i, i < 48 → f i = g i) : pl f = pl g := by
  unfold pl
  exact List.map_congr_left fun i hi => by rw [h i (List.mem_range.1 hi)]
@[simp] theorem wrap_i (i : Nat) : ((i : Int)).toNat = i := Int.toNat_natCast i
theorem setRange_app : ∀ (xs pre ls : List L), xs.length = ls.length → setRange (pre ++ ls) pre.length xs = pre ++ xs
  | [], pre, [], _ => rfl
  | [], pre, _ :: _, h => by simp at h
  | _ :: _, pre, [], h => by simp at h
  | x :: xs, pre, l :: ls, h => by
    have := setRange_app xs (pre ++ [x]) ls (by simpa using h)
    simp only [setRange]
    rw [show (pre ++ l :: ls).set pre.length x = (pre ++ [x]) ++ ls by simp, show pre.length + 1 = (pre ++ [x]).length by simp, this]
    simp
@[simp] theorem pl_over (f g : Nat → Bool) : setRange (pl f) 0 (pl g) = pl g := by
  have := setRange_app (pl g) [] (pl f) (by simp)
  simpa using this
def fillF (f : Nat → Bool) : Nat → Nat → (Nat → Bool)
  | 0, _ => f
  | n + 1, i => fillF (updB f i true) n (i + 1)
theorem fillF_get (n : Nat) : ∀ (f : Nat → Bool) (i j : Nat), fillF f n i j = (f j || (decide (i ≤ j) && decide (j < i + n))) := by
  induction n with
  | zero =>
    intro f i j
    have : (decide (i ≤ j) && decide (j < i + 0)) = false := by simp
    rw [this, Bool.or_false]; rfl
  | succ n ih =>
    intro f i j
    simp only [fillF, ih, updB]
    by_cases h : j = i
    · subst h; simp
    · simp only [if_neg h]
      congr 1
      rw [Bool.eq_iff_iff]
      simp only [Bool.and_eq_true, decide_eq_true_eq]
      omega
theorem lp_of1 (m : M) (xs : List Sp) (g : Nat → Bool) (k lo : Int) (hi : Nat) (hhi : hi ≤ 48) (a : Code) (ha : a = lp Tryz.f40 1) : ∀ (n i : Nat) (f : Nat → Bool), i + n = hi →
    loopC E (ev E) 40 a { V := [(2, .ad (.c 2) 0 0 0 []), (3, .ad (.c 3) 0 0 0 []), (5, .ad (.c 5) 0 0 0 []), (6, vi i), (7, .v m false [.sl (xs.map spL)]), (8, vi xs.length), (9, vi k)], H := [bx (.c 2) (pl g), bx (.c 3) (pl f), bx (.c 5) [.int .i64 lo, .int .i64 hi]], ps := [] } =
      some (.exit 2, { V := [(2, .ad (.c 2) 0 0 0 []), (3, .ad (.c 3) 0 0 0 []), (5, .ad (.c 5) 0 0 0 []), (6, vi hi), (7, .v m false [.sl (xs.map spL)]), (8, vi xs.length), (9, vi k), (18, vb false)], H := [bx (.c 2) (pl g), bx (.c 3) (pl (fillF f n i)), bx (.c 5) [.int .i64 lo, .int .i64 hi]], ps := [] })
  | 0, i, f, h => by
    rw [loopC_of _ _ _ _ ha]
    obtain rfl : i = hi := by omega
    simp [lp, loopsOf, Tryz.f40, fillF]
  | n + 1, i, f, h => by
    have hlt : i < hi := by omega
    have hl2 : i < 48 := by omega
    have ih := lp_of1 m xs g k lo hi hhi a ha n (i + 1) (updB f i true) (by omega)
    push_cast at ih
    have hw := wrapN i (by omega)
    have hs := pl_set f i true hl2
    rw [loopC_of _ _ _ _ ha]
    clear ha
    have hI : (i : Int) < 48 := by omega
    have h1 : 1 ≤ 48 - i := by omega
    simp [lp, loopsOf, Tryz.f40, hlt, hw, fillF, hs, hI, h1, show i ≤ 48 by omega]
    simpa using ih
theorem lp_of0 (m : M) (xs : List Sp) (hb : xs.length ≤ 1099511627776) (hx : ∀ s ∈ xs, 0 ≤ s.1 ∧ s.1 ≤ s.2 ∧ s.2 ≤ 48) (a : Code) (ha : a = lp Tryz.f40 0) : ∀ (n i : Nat) (f : Nat → Bool), i + n = xs.length →
    ∃ g, loopC E (ev E) 40 a { V := [(2, .ad (.c 2) 0 0 0 []), (3, .ad (.c 3) 0 0 0 []), (7, .v m false [.sl (xs.map spL)]), (8, vi xs.length), (9, vi i)], H := [bx (.c 2) (pl fun _ => false), bx (.c 3) (pl f)], ps := [] } =
      some (.exit 0, { V := [(2, .ad (.c 2) 0 0 0 []), (3, .ad (.c 3) 0 0 0 []), (7, .v m false [.sl (xs.map spL)]), (8, vi xs.length), (9, vi xs.length), (10, vb false)], H := [bx (.c 2) (pl fun _ => false), bx (.c 3) (pl g)], ps := [] }) ∧
      ∀ j, j < 48 → g j = (f j || (xs.drop i).any (inSp j))
  | 0, i, f, h => by
    refine ⟨f, ?_, fun j _ => by rw [List.drop_eq_nil_of_le (by omega)]; simp⟩
    rw [loopC_of _ _ _ _ ha]
    obtain rfl : i = xs.length := by omega
    simp [lp, loopsOf, Tryz.f40]
  | n + 1, i, f, h => by
    have hlt : i < xs.length := by omega
    obtain ⟨h1, h2, h3⟩ := hx xs[i] (List.getElem_mem hlt)
    obtain ⟨lo, hlo⟩ : ∃ lo : Nat, xs[i].1 = lo := ⟨xs[i].1.toNat, by omega⟩
    obtain ⟨hi, hhi⟩ : ∃ hi : Nat, xs[i].2 = hi := ⟨xs[i].2.toNat, by omega⟩
    have hin := fun a ha => lp_of1 m xs (fun _ => false) i lo hi (by omega) a ha (hi - lo) lo f (by omega)
    obtain ⟨g, hg, hg2⟩ := lp_of0 m xs hb hx a ha n (i + 1) (fillF f (hi - lo) lo) (by omega)
    have hw := wrapN i (by omega)
    refine ⟨g, ?_, fun j hj => ?_⟩
    · push_cast at hg
      rw [loopC_of _ _ _ _ ha]
      clear ha
      simp [lp, loopsOf, Tryz.f40, hlt, hw, hlo, hhi]
      rw [hin _ ?_]
      · simp [hw]
        simpa using hg
      · rfl
    · rw [hg2 j hj, fillF_get, any_drop hlt, Bool.or_assoc]
      congr 2
      simp only [inSp, hlo, hhi, ltI]
      rw [Bool.eq_iff_iff]
      simp only [Bool.and_eq_true, decide_eq_true_eq, Bool.not_eq_true', decide_eq_false_iff_not]
      omega
theorem ev_impl_of (m : M) (xs : List Sp) (hb : xs.length ≤ 1099511627776) (hx : ∀ s ∈ xs, 0 ≤ s.1 ∧ s.1 ≤ s.2 ∧ s.2 ≤ 48) :
    ev E 40 [.v m false [.sl (xs.map spL)]] = some { rs := [.v .own true (pl fun j => xs.any (inSp j))], outs := [] } := by
  obtain ⟨g, hg, hg2⟩ := lp_of0 m xs hb hx _ rfl xs.length 0 (fun _ => false) (by omega)
  have : pl (fun j => xs.any (inSp j)) = pl g := pl_congr fun j hj => by rw [hg2 j hj]; simp
  rw [this]
  rw [ev_fn Tryz.f40 rfl Tryz.func40 rfl rfl rfl (Nat.le_of_ble_eq_true rfl)]
  push_cast at hg
  simp [pl_ff]
  rw [loopC_at ?_ hg]
  · simp
  · rfl
end Go.Ev

/- Answers: places put together; lists compared. -/
set_option linter.unusedSimpArgs false
set_option linter.unusedVariables false
set_option maxRecDepth 100000
set_option maxHeartbeats 2000000
namespace Go.Ev
open Go.Proofs
abbrev adc (t : Nat) : AV := .ad (.c t) 0 0 0 []
theorem lp_put (m'' : M) (g z : Nat → Bool) (b : Bool) (a : Code) (ha : a = lp Tryz.f41 0) : ∀ (n i : Nat) (f : Nat → Bool), i + n = 48 →
    ∃ f', loopC E (ev E) 41 a { V := [(2, .v m'' false [.bool b]), (3, adc 3), (6, adc 6), (9, .v .ro true (pl g)), (10, vi i)], H := [bx (.c 3) (pl f), bx (.c 6) (pl z)], ps := [] } =
      some (.exit 0, { V := [(2, .v m'' false [.bool b]), (3, adc 3), (6, adc 6), (9, .v .ro true (pl g)), (10, vi 48), (11, vb false)], H := [bx (.c 3) (pl f'), bx (.c 6) (pl z)], ps := [] }) ∧
      ∀ j, j < 48 → f' j = if i ≤ j ∧ g j = true then b else f j
  | 0, i, f, h => by
    refine ⟨f, ?_, fun j hj => by rw [if_neg (by omega)]⟩
    rw [loopC_of _ _ _ _ ha]
    obtain rfl : i = 48 := by omega
    simp [lp, loopsOf, Tryz.f41]
  | n + 1, i, f, h => by
    have hlt : i < 48 := by omega
    have hI : (i : Int) < 48 := by omega
    have h1 : 1 ≤ 48 - i := by omega
    have hw := wrapN i (by omega)
    have hs := pl_set f i b hlt
    have hg := pl_get g hlt
    cases hgi : g i with
    | true =>
      obtain ⟨f', ih, hf⟩ := lp_put m'' g z b a ha n (i + 1) (updB f i b) (by omega)
      refine ⟨f', ?_, fun j hj => ?_⟩
      · push_cast at ih
        rw [loopC_of _ _ _ _ ha]
        clear ha
        rw [hgi] at hg
        simp [lp, loopsOf, Tryz.f41, hI, hw, hs, hg, h1, show i ≤ 48 by omega]
        simpa using ih
      · rw [hf j hj]
        by_cases e : j = i
        · subst e; simp [hgi, updB]
        · by_cases e2 : i ≤ j
          · simp [show i + 1 ≤ j by omega, e2, updB, e]
          · simp [show ¬ i + 1 ≤ j by omega, e2, updB, e]
    | false =>
      obtain ⟨f', ih, hf⟩ := lp_put m'' g z b a ha n (i + 1) f (by omega)
      refine ⟨f', ?_, fun j hj => ?_⟩
      · push_cast at ih
        rw [loopC_of _ _ _ _ ha]
        clear ha
        rw [hgi] at hg
        simp [lp, loopsOf, Tryz.f41, hI, hw, hs, hg, h1, show i ≤ 48 by omega]
        simpa using ih
      · rw [hf j hj]
        by_cases e : j = i
        · subst e; simp [hgi]
        · by_cases e2 : i ≤ j
          · simp [show i + 1 ≤ j by omega, e2]
          · simp [show ¬ i + 1 ≤ j by omega, e2]
theorem ev_put (m m' m'' : M) (f g : Nat → Bool) (b : Bool) : ev E 41 [.v m true (pl f), .v m' true (pl g), .v m'' false [.bool b]] = some { rs := [.v .own true (pl fun j => if g j = true then b else f j)], outs := [] } := by
  obtain ⟨f', hl, hf⟩ := lp_put m'' g (fun _ => false) b _ rfl 48 0 f (by omega)
  have : pl (fun j => if g j = true then b else f j) = pl f' := pl_congr fun j hj => by rw [hf j hj]; simp
  rw [this]
  rw [ev_fn Tryz.f41 rfl Tryz.func41 rfl rfl rfl (Nat.le_of_ble_eq_true rfl)]
  push_cast at hl
  simp [pl_ff]
  rw [loopC_at ?_ hl]
  · simp
  · rfl
theorem lp_meet (g z : Nat → Bool) (a : Code) (ha : a = lp Tryz.f72 0) : ∀ (n i : Nat) (f : Nat → Bool), i + n = 48 →
    ∃ f', loopC E (ev E) 72 a { V := [(2, adc 2), (4, adc 4), (7, .v .ro true (pl g)), (8, vi i)], H := [bx (.c 2) (pl f), bx (.c 4) (pl z)], ps := [] } =
      some (.exit 0, { V := [(2, adc 2), (4, adc 4), (7, .v .ro true (pl g)), (8, vi 48), (9, vb false)], H := [bx (.c 2) (pl f'), bx (.c 4) (pl z)], ps := [] }) ∧
      ∀ j, j < 48 → f' j = if i ≤ j then (f j && g j) else f j
  | 0, i, f, h => by
    refine ⟨f, ?_, fun j hj => by rw [if_neg (by omega)]⟩
    rw [loopC_of _ _ _ _ ha]
    obtain rfl : i = 48 := by omega
    simp [lp, loopsOf, Tryz.f72]
  | n + 1, i, f, h => by
    have hlt : i < 48 := by omega
    have hI : (i : Int) < 48 := by omega
    have h1 : 1 ≤ 48 - i := by omega
    have hw := wrapN i (by omega)
    have hs := pl_set f i (f i && g i) hlt
    have hg := pl_get g hlt
    have ht := pl_take f hlt
    obtain ⟨f', ih, hf⟩ := lp_meet g z a ha n (i + 1) (updB f i (f i && g i)) (by omega)
    refine ⟨f', ?_, fun j hj => ?_⟩
    · push_cast at ih
      rw [loopC_of _ _ _ _ ha]
      clear ha
      cases hfi : f i <;> rw [hfi] at hs ht ih <;> simp at hs ih
      · simp [lp, loopsOf, Tryz.f72, hI, hw, hs, hg, h1, show i ≤ 48 by omega, ht]
        simpa using ih
      · simp [lp, loopsOf, Tryz.f72, hI, hw, hs, hg, h1, show i ≤ 48 by omega, ht]
        simpa using ih
    · rw [hf j hj]
      by_cases e : j = i
      · subst e; simp [updB]
      · by_cases e2 : i ≤ j
        · simp [show i + 1 ≤ j by omega, e2, updB, e]
        · simp [show ¬ i + 1 ≤ j by omega, e2, updB, e]
theorem ev_meet (m m' : M) (f g : Nat → Bool) : ev E 72 [.v m true (pl f), .v m' true (pl g)] = some { rs := [.v .own true (pl fun j => f j && g j)], outs := [] } := by
  obtain ⟨f', hl, hf⟩ := lp_meet g (fun _ => false) _ rfl 48 0 f (by omega)
  have : pl (fun j => f j && g j) = pl f' := pl_congr fun j hj => by rw [hf j hj]; simp
  rw [this]
  rw [ev_fn Tryz.f72 rfl Tryz.func72 rfl rfl rfl (Nat.le_of_ble_eq_true rfl)]
  push_cast at hl
  simp [pl_ff]
  rw [loopC_at ?_ hl]
  · simp
  · rfl
def eqSp (s t : Sp) : Bool := eqI s.1 t.1 && eqI s.2 t.2
theorem eqSp_iff {s t : Sp} : eqSp s t = true ↔ s = t := by
  obtain ⟨a, b⟩ := s
  obtain ⟨c, d⟩ := t
  simp [eqSp, eqI]
def eqFrom (xs ys : List Sp) : Nat → Nat → Bool
  | 0, _ => true
  | n + 1, i => eqSp (xs.getD i (0, 0)) (ys.getD i (0, 0)) && eqFrom xs ys n (i + 1)
theorem eqFrom_iff (xs ys : List Sp) : ∀ (n i : Nat), eqFrom xs ys n i = true ↔ ∀ j, i ≤ j → j < i + n → xs.getD j (0, 0) = ys.getD j (0, 0)
  | 0, i => by simp [eqFrom]; omega
  | n + 1, i => by
    simp only [eqFrom, Bool.and_eq_true, eqSp_iff, eqFrom_iff xs ys n (i + 1)]
    constructor
    · intro ⟨h1, h2⟩ j hj hk
      by_cases e : j = i
      · subst e; exact h1
      · exact h2 j (by omega) (by omega)
    · intro h
      exact ⟨h i (by omega) (by omega), fun j hj hk => h j (by omega) (by omega)⟩
theorem eqFrom_all {xs ys : List Sp} (h : xs.length = ys.length) : eqFrom xs ys xs.length 0 = decide (xs = ys) := by
  rw [Bool.eq_iff_iff, eqFrom_iff]
  simp only [decide_eq_true_eq]
  constructor
  · intro hj
    refine List.ext_getElem h fun i h1 h2 => ?_
    have := hj i (by omega) (by omega)
    simpa [h1, h2] using this
  · rintro rfl
    intros; rfl
@[simp] theorem eqAgg_Span : eqAgg Tryz.prog 101 = true := by kernel_rfl
@[simp] theorem shape_Span (a b : Int) : shapeT Tryz.prog 8 101 [.int .i64 a, .int .i64 b] = true := by simp [shapeT, shapeFs]
theorem lp_Equal (m m' : M) (xs ys : List Sp) (hl : xs.length = ys.length) (hb : ys.length ≤ 1099511627776) (a : Code) (ha : a = lp Tryz.f73 0) : ∀ (n i : Nat), i + n = ys.length →
    loopC E (ev E) 73 a { V := [(0, .v m false [.sl (xs.map spL)]), (1, .v m' false [.sl (ys.map spL)]), (12, vi ys.length), (13, vi i)], H := [], ps := [] } =
      if eqFrom xs ys n i then some (.exit 0, { V := [(0, .v m false [.sl (xs.map spL)]), (1, .v m' false [.sl (ys.map spL)]), (12, vi ys.length), (13, vi ys.length), (14, vb false)], H := [], ps := [] })
      else some (.ret, { V := [(4, vb false)], H := [], ps := [] })
  | 0, i, h => by
    rw [loopC_of _ _ _ _ ha]
    obtain rfl : i = ys.length := by omega
    simp [lp, loopsOf, Tryz.f73, eqFrom]
  | n + 1, i, h => by
    have hlt : i < ys.length := by omega
    have hlx : i < xs.length := by omega
    have ih := lp_Equal m m' xs ys hl hb a ha n (i + 1) (by omega)
    push_cast at ih
    have hw := wrapN i (by omega)
    rw [loopC_of _ _ _ _ ha, eqFrom]
    have h1 : xs.getD i (0, 0) = xs[i] := by simp [hlx]
    have h2 : ys.getD i (0, 0) = ys[i] := by simp [hlt]
    rw [h1, h2]
    clear ha h1 h2
    generalize eqFrom xs ys n (i + 1) = r at ih ⊢
    cases e1 : eqI xs[i].1 ys[i].1 <;> cases e2 : eqI xs[i].2 ys[i].2 <;>
      simp [lp, loopsOf, Tryz.f73, hlt, hlx, hw, eqSp, e1, e2, ih]
theorem ev_Equal (m m' : M) (xs ys : List Sp) (hb : ys.length ≤ 1099511627776) : ev E 73 [.v m false [.sl (xs.map spL)], .v m' false [.sl (ys.map spL)]] = some (rB (decide (xs = ys))) := by
  rw [ev_fn Tryz.f73 rfl Tryz.func73 rfl rfl rfl (Nat.le_of_ble_eq_true rfl)]
  by_cases h : xs.length = ys.length
  · have hl := fun a ha => lp_Equal m m' xs ys h hb a ha ys.length 0 (by omega)
    rw [← h, eqFrom_all h, h] at hl
    push_cast at hl
    simp [h]
    rw [hl _ ?_]
    · by_cases e : xs = ys <;> simp [e]
    · rfl
  · have e : ¬ xs = ys := fun e => h (by rw [e])
    have e2 : eqI xs.length ys.length = false := by simp [eqI]; omega
    simp [e2, e]
end Go.Ev

/- Answers: the ranges of a set. -/
set_option linter.unusedSimpArgs false
set_option linter.unusedVariables false
set_option maxRecDepth 100000
set_option maxHeartbeats 2000000
namespace Go.Ev
open Go.Proofs
abbrev at1 (t : Nat) : AV := .at (.c t) 0 0 0 [] 1 false
abbrev ow (r : Root) (ls : List L) : Root × HC := (r, { box := false, wr := true, m := .own, ls, e0 := 0, e1 := 0 })
def runEnd (f : Nat → Bool) : Nat → Nat → Nat
  | 0, i => i
  | n + 1, i => if f i = true then runEnd f n (i + 1) else i
theorem runEnd_le (f : Nat → Bool) : ∀ n i, i ≤ runEnd f n i ∧ runEnd f n i ≤ i + n
  | 0, i => by simp [runEnd]
  | n + 1, i => by
    have := runEnd_le f n (i + 1)
    simp only [runEnd]
    split <;> omega
def spansF (f : Nat → Bool) : Nat → Nat → List Sp
  | 0, _ => []
  | n + 1, i => if i < 48 then (if f i = true then ((i : Int), (runEnd f (48 - i) i : Int)) :: spansF f n (runEnd f (48 - i) i + 1) else spansF f n (i + 1)) else []
end Go.Ev

/- Answers: the reference's places and parts. -/
set_option linter.unusedSimpArgs false
set_option linter.unusedVariables false
set_option maxRecDepth 100000
set_option maxHeartbeats 2000000
namespace Go.Ev
open Go.Proofs
def plR (f : Nat → Bool) (n : Nat) : List (List L) := (List.range n).map fun i => [L.bool (f i)]
@[simp] theorem plR_length (f : Nat → Bool) (n : Nat) : (plR f n).length = n := by simp [plR]
theorem plR_succ (f : Nat → Bool) (n : Nat) : plR f n ++ [[.bool (f n)]] = plR f (n + 1) := by simp [plR, List.range_succ]
theorem plR_get (f : Nat → Bool) {n i : Nat} (h : i < n) : (plR f n)[i]? = some [.bool (f i)] := by simp [plR, h]
@[simp] theorem plR_getE (f : Nat → Bool) {n i : Nat} (h : i < (plR f n).length) : (plR f n)[i] = [.bool (f i)] := by simp [plR]
@[simp] theorem plR_rows (f : Nat → Bool) (n : Nat) : ((plR f n).all fun r => decide (r.length = 1)) = true := by simp [plR]
@[simp] theorem plR_zero (f : Nat → Bool) : plR f 0 = [] := rfl
theorem plR_congr {f g : Nat → Bool} {n : Nat} (h : ∀ i, i < n → f i = g i) : plR f n = plR g n := by
  unfold plR
  exact List.map_congr_left fun i hi => by rw [h i (List.mem_range.1 hi)]
theorem plR_set (f : Nat → Bool) (n i : Nat) (v : Bool) (h : i < n) : (plR f n).set i [.bool v] = plR (updB f i v) n := by
  refine List.ext_getElem? fun j => ?_
  by_cases hj : j < n
  · rw [plR_get _ hj, List.getElem?_set]
    by_cases e : i = j
    · subst e; simp [updB, h]
    · simp [e, updB, Ne.symm e, plR_get f hj]
  · rw [List.getElem?_eq_none (by simp; omega), List.getElem?_eq_none (by simp; omega)]
def ofStep (out : List Sp) (i : Nat) (b : Bool) : List Sp :=
  if b = true then
    match out.getLast? with
    | some (lo, hi) => if eqI hi i = true then out.dropLast ++ [(lo, (i : Int) + 1)] else out ++ [((i : Int), (i : Int) + 1)]
    | none => [((i : Int), (i : Int) + 1)]
  else out
def ofL (f : Nat → Bool) : Nat → Nat → List Sp → List Sp
  | 0, _, out => out
  | n + 1, i, out => ofL f n (i + 1) (ofStep out i (f i))
theorem ofStep_len (out : List Sp) (i : Nat) (b : Bool) : (ofStep out i b).length ≤ out.length + 1 := by
  unfold ofStep
  rcases List.eq_nil_or_concat out with rfl | ⟨pre, x, rfl⟩
  · cases b <;> simp
  · cases b
    · simp
    · simp only [if_true, List.concat_eq_append, List.getLast?_append, List.getLast?_singleton, Option.or_some, Option.some_or]
      split <;> simp
end Go.Ev

/- Answers: parts put in and cut, valid caches. -/
set_option linter.unusedSimpArgs false
set_option linter.unusedVariables false
set_option maxRecDepth 100000
set_option maxHeartbeats 4000000
namespace Go.Ev
open Go.Proofs
def fillV (v : Bool) (f : Nat → Bool) : Nat → Nat → (Nat → Bool)
  | 0, _ => f
  | n + 1, i => fillV v (updB f i v) n (i + 1)
theorem fillV_get (v : Bool) (n : Nat) : ∀ (f : Nat → Bool) (i j : Nat), fillV v f n i j = if i ≤ j ∧ j < i + n then v else f j := by
  induction n with
  | zero => intro f i j; rw [if_neg (by omega)]; rfl
  | succ n ih =>
    intro f i j
    simp only [fillV, ih, updB]
    by_cases h : j = i
    · subst h; simp
    · by_cases h2 : i ≤ j ∧ j < i + (n + 1)
      · rw [if_pos h2, if_pos (by omega)]
      · rw [if_neg h2, if_neg (by omega), if_neg h]
end Go.Ev

/- Answers: parts in common, caches compared and copied. -/
set_option linter.unusedSimpArgs false
set_option linter.unusedVariables false
set_option maxRecDepth 100000
set_option maxHeartbeats 4000000
namespace Go.Ev
open Go.Proofs
def meetS (a b : Sp) : Sp := (maxI a.1 b.1, minI a.2 b.2)
abbrev rSB (s : Sp) (b : Bool) : Out := { rs := [.v .own true (spL s), .v .own false [.bool b]], outs := [] }
theorem ev_l1Meet (m m' : M) (a b : Sp) : ev E 112 [.v m true (spL a), .v m' true (spL b)] =
    some (if ltI (meetS a b).1 (meetS a b).2 = true then rSB (meetS a b) true else rSB (0, 0) false) := by
  have h1 := fun m m' => ev_spec_l1Max m m' a.1 b.1
  have h2 := fun m m' => ev_spec_l1Min m m' a.2 b.2
  rw [ev_fn Tryz.f112 rfl Tryz.func112 rfl rfl rfl (Nat.le_of_ble_eq_true rfl)]
  cases h : ltI (meetS a b).1 (meetS a b).2 <;> simp only [meetS] at h <;> simp [h1, h2, meetS, h]
theorem maxJ (a b : Int) : (if a < b then b else a) = maxI a b := by
  simp only [maxI, ltI, decide_eq_true_eq]
  split <;> split <;> omega
theorem minJ (a b : Int) : (if b < a then b else a) = minI a b := by
  simp only [minI, ltI, decide_eq_true_eq]
  split <;> split <;> omega
def meetO (a b : Sp) : Bool := spOk a && spOk b && spOk (meetS a b)
abbrev owL (t : List UInt8) (h d : List Sp) : List L := [.str t, .sl (h.map spL), .sl (d.map spL)]
theorem ev_OwnSame (m m' : M) (hm : m.isOwn = false) (hm' : m'.isOwn = false) (t t' : List UInt8) (h d h' d' : List Sp) (hb : h'.length ≤ 1099511627776) (db : d'.length ≤ 1099511627776) :
    ev E 33 [.v m true (owL t h d), .v m' true (owL t' h' d')] = some (rB (eqS t t' && decide (h = h') && decide (d = d'))) := by
  have h1 := fun m m' => ev_Equal m m' h h' hb
  have h2 := fun m m' => ev_Equal m m' d d' db
  rw [ev_fn Tryz.f33 rfl Tryz.func33 rfl rfl rfl (Nat.le_of_ble_eq_true rfl)]
  cases e1 : eqS t t'
  · simp [e1, hm, hm']
  · by_cases e2 : h = h'
    · subst e2
      simp [e1, hm, hm', h1, h2]
    · simp [e1, hm, hm', h1, h2, e2]
abbrev rOw (t : List UInt8) (h d : List Sp) : RV := .v .own true (owL t h d)
end Go.Ev

/- Answers: valid caches. -/
set_option linter.unusedSimpArgs false
set_option linter.unusedVariables false
set_option maxRecDepth 100000
set_option maxHeartbeats 4000000
namespace Go.Ev
open Go.Proofs
abbrev bxm (r : Root) (m : M) (ls : List L) : Root × HC := (r, { box := true, wr := true, m, ls, e0 := 0, e1 := 0 })
def allTo (p : Nat → Bool) : Nat → Nat → Bool
  | 0, _ => true
  | n + 1, i => p i && allTo p n (i + 1)
theorem allTo_iff (p : Nat → Bool) : ∀ (n i : Nat), allTo p n i = true ↔ ∀ j, i ≤ j → j < i + n → p j = true
  | 0, i => by simp [allTo]; omega
  | n + 1, i => by
    simp only [allTo, Bool.and_eq_true, allTo_iff p n (i + 1)]
    constructor
    · intro ⟨h1, h2⟩ j hj hk
      by_cases e : j = i
      · subst e; exact h1
      · exact h2 j (by omega) (by omega)
    · intro h
      exact ⟨h i (by omega) (by omega), fun j hj hk => h j (by omega) (by omega)⟩
def okAt (t : List UInt8) (hf df : Nat → Bool) (i : Nat) : Bool := hf i || (eqI (t.getD i 0).toNat 46 && !df i)
theorem lp_iOwnOk (m : M) (hm : m.isOwn = false) (t : List UInt8) (h d : List Sp) (ht : t.length = 48) (hf df : Nat → Bool) (a : Code) (ha : a = lp Tryz.f32 0) : ∀ (n i : Nat), i + n = 48 →
    loopC E (ev E) 32 a { V := [(1, adc 1), (3, adc 3), (4, adc 4), (34, vi i)], H := [bxm (.c 1) m (owL t h d), bx (.c 3) (pl hf), bx (.c 4) (pl df)], ps := [] } =
      if allTo (okAt t hf df) n i then some (.exit 0, { V := [(1, adc 1), (3, adc 3), (4, adc 4), (34, vi 48), (35, vb false)], H := [bxm (.c 1) m (owL t h d), bx (.c 3) (pl hf), bx (.c 4) (pl df)], ps := [] })
      else some (.ret, { V := [(2, vb false)], H := [], ps := [] })
  | 0, i, h0 => by
    rw [loopC_of _ _ _ _ ha]
    obtain rfl : i = 48 := by omega
    simp [lp, loopsOf, Tryz.f32, allTo, hm]
  | n + 1, i, h0 => by
    have hlt : i < 48 := by omega
    have hI : (i : Int) < 48 := by omega
    have h1 : 1 ≤ 48 - i := by omega
    have hw := wrapN i (by omega)
    have hlt2 : i < t.length := by omega
    have hp := pl_take hf hlt
    have hq := pl_take df hlt
    have ih := lp_iOwnOk m hm t h d ht hf df a ha n (i + 1) (by omega)
    push_cast at ih
    rw [loopC_of _ _ _ _ ha, allTo]
    have hg : t.getD i 0 = t[i] := by simp [hlt2]
    simp only [okAt, hg]
    clear ha hg
    generalize allTo (okAt t hf df) n (i + 1) = r at ih ⊢
    cases e1 : hf i <;> rw [e1] at hp
    · cases e2 : eqI t[i].toNat 46
      · simp [lp, loopsOf, Tryz.f32, hI, hlt2, hw, hp, h1, show i ≤ 48 by omega, hm, e2]
      · cases e3 : df i <;> rw [e3] at hq <;> simp [lp, loopsOf, Tryz.f32, hI, hlt2, hw, hp, hq, h1, show i ≤ 48 by omega, hm, e2, ih]
    · simp [lp, loopsOf, Tryz.f32, hI, hlt2, hw, hp, h1, show i ≤ 48 by omega, hm, ih]
def inF (xs : List Sp) : Nat → Bool := fun j => xs.any (inSp j)
def ownOk (t : List UInt8) (h d : List Sp) : Bool := t.all okB && eqI t.length 48 && spsOk h && spsOk d && allTo (okAt t (inF h) (inF d)) 48 0
theorem spOk_iff {s : Sp} : spOk s = true ↔ 0 ≤ s.1 ∧ s.1 < s.2 ∧ s.2 ≤ 48 := by
  simp [spOk, ltI, and_assoc]
theorem stepsOk_sp {xs : List Sp} : ∀ (n i : Nat), stepsOk xs n i = true → ∀ j, i ≤ j → j < i + n → j < xs.length → spOk (xs.getD j (0, 0)) = true
  | 0, i, _, j, h1, h2, _ => by omega
  | n + 1, i, h, j, h1, h2, h3 => by
    simp only [stepsOk, Bool.and_eq_true] at h
    by_cases e : j = i
    · subst e
      simp only [stepOk, Bool.and_eq_true] at h
      exact h.1.1
    · exact stepsOk_sp n (i + 1) h.2 j (by omega) (by omega) h3
theorem spsOk_sp {xs : List Sp} (h : spsOk xs = true) : ∀ s ∈ xs, 0 ≤ s.1 ∧ s.1 < s.2 ∧ s.2 ≤ 48 := by
  intro s hs
  simp only [spsOk, Bool.and_eq_true] at h
  obtain ⟨j, hj, rfl⟩ := List.mem_iff_getElem.1 hs
  have := stepsOk_sp _ _ h.1 j (by omega) (by omega) hj
  simp only [List.getD_eq_getElem?_getD, List.getElem?_eq_getElem hj, Option.getD_some] at this
  exact spOk_iff.1 this
theorem spsOk_len {xs : List Sp} (h : spsOk xs = true) : xs.length ≤ 12 := by
  simp only [spsOk, Bool.and_eq_true, Bool.not_eq_true', ltI_not] at h
  omega
theorem ev_impl_OwnOk (m : M) (hm : m.isOwn = false) (t : List UInt8) (h d : List Sp) (tb : t.length ≤ 1099511627776) (hb : h.length ≤ 1099511627776) (db : d.length ≤ 1099511627776) :
    ev E 32 [.v m true (owL t h d)] = some (rB (ownOk t h d)) := by
  have c1 := fun m => ev_impl_TextOk m t tb
  have c2 := fun m => ev_impl_SpansOk m h hb
  have c3 := fun m => ev_impl_SpansOk m d db
  rw [ev_fn Tryz.f32 rfl Tryz.func32 rfl rfl rfl (Nat.le_of_ble_eq_true rfl)]
  cases e1 : t.all okB
  · simp [c1, e1, hm, ownOk, -List.all_eq_true, -List.all_eq_false]
  · cases e2 : eqI t.length 48
    · cases e3 : ltI 48 t.length <;> simp [c1, e1, e2, e3, hm, ownOk, -List.all_eq_true, -List.all_eq_false]
    · have hl : t.length = 48 := by simp only [eqI_iff] at e2; omega
      have e3 : ltI 48 t.length = false := by simp only [ltI_not]; omega
      cases e4 : spsOk h
      · simp [c1, c2, e1, e2, e3, e4, hm, ownOk, -List.all_eq_true, -List.all_eq_false]
      · cases e5 : spsOk d
        · simp [c1, c2, c3, e1, e2, e3, e4, e5, hm, ownOk, -List.all_eq_true, -List.all_eq_false]
        · have c4 : ∀ m, ev E 40 [.v m false [.sl (h.map spL)]] = some { rs := [.v .own true (pl (inF h))], outs := [] } := fun m => ev_impl_of m h hb fun s hs => by have := spsOk_sp e4 s hs; omega
          have c5 : ∀ m, ev E 40 [.v m false [.sl (d.map spL)]] = some { rs := [.v .own true (pl (inF d))], outs := [] } := fun m => ev_impl_of m d db fun s hs => by have := spsOk_sp e5 s hs; omega
          have hl2 := lp_iOwnOk m hm t h d hl (inF h) (inF d) _ rfl 48 0 (by omega)
          push_cast at hl2
          simp [c1, c2, c3, c4, c5, e1, e2, e3, e4, e5, hm, ownOk, -List.all_eq_true, -List.all_eq_false, pl_ff]
          rw [loopC_at ?_ hl2]
          · cases e6 : allTo (okAt t (inF h) (inF d)) 48 0 <;> simp
          · rfl
theorem lp_sOwnOk (m : M) (hm : m.isOwn = false) (t : List UInt8) (h d : List Sp) (ht : t.length = 48) (hb : h.length ≤ 1099511627776) (db : d.length ≤ 1099511627776) (a : Code) (ha : a = lp Tryz.f56 0) : ∀ (n i : Nat), i + n = 48 →
    loopC E (ev E) 56 a { V := [(1, adc 1), (3, vi i)], H := [bxm (.c 1) m (owL t h d)], ps := [] } =
      if allTo (okAt t (inF h) (inF d)) n i then some (.exit 0, { V := [(1, adc 1), (3, vi 48), (30, vb false)], H := [bxm (.c 1) m (owL t h d)], ps := [] })
      else some (.ret, { V := [(2, vb false)], H := [], ps := [] })
  | 0, i, h0 => by
    rw [loopC_of _ _ _ _ ha]
    obtain rfl : i = 48 := by omega
    simp [lp, loopsOf, Tryz.f56, allTo, hm, ht]
  | n + 1, i, h0 => by
    have hI : (i : Int) < 48 := by omega
    have hw := wrapN i (by omega)
    have hlt2 : i < t.length := by omega
    have hltc : i < 48 := by omega
    have ih := lp_sOwnOk m hm t h d ht hb db a ha n (i + 1) (by omega)
    push_cast at ih
    rw [loopC_of _ _ _ _ ha, allTo]
    have hg : t.getD i 0 = t[i] := by simp [hlt2]
    simp only [okAt, hg]
    clear ha hg
    have c1 : ∀ m m', ev E 64 [.v m false [.sl (h.map spL)], .v m' false [.int .i64 i]] = some (rB (inF h i)) := fun m m' => ev_spec_l1In m m' h i hb
    have c2 : ∀ m m', ev E 64 [.v m false [.sl (d.map spL)], .v m' false [.int .i64 i]] = some (rB (inF d i)) := fun m m' => ev_spec_l1In m m' d i db
    generalize allTo (okAt t (inF h) (inF d)) n (i + 1) = r at ih ⊢
    cases e1 : inF h i
    · cases e2 : eqI t[i].toNat 46
      · simp [lp, loopsOf, Tryz.f56, hI, hltc, hlt2, ht, hw, hm, e1, e2, c1, c2]
      · cases e3 : inF d i <;> simp [lp, loopsOf, Tryz.f56, hI, hltc, hlt2, ht, hw, hm, e1, e2, e3, c1, c2, ih]
    · simp [lp, loopsOf, Tryz.f56, hI, hltc, hlt2, ht, hw, hm, ih, e1, c1, c2]
theorem ev_spec_OwnOk (m : M) (hm : m.isOwn = false) (t : List UInt8) (h d : List Sp) (tb : t.length ≤ 1099511627776) (hb : h.length ≤ 1099511627776) (db : d.length ≤ 1099511627776) :
    ev E 56 [.v m true (owL t h d)] = some (rB (ownOk t h d)) := by
  have c1 := fun m => ev_spec_TextOk m t tb
  have c2 := fun m => ev_spec_SpansOk m h hb
  have c3 := fun m => ev_spec_SpansOk m d db
  rw [ev_fn Tryz.f56 rfl Tryz.func56 rfl rfl rfl (Nat.le_of_ble_eq_true rfl)]
  cases e1 : t.all okB
  · simp [c1, e1, hm, ownOk, -List.all_eq_true, -List.all_eq_false]
  · cases e2 : eqI t.length 48
    · cases e3 : ltI 48 t.length <;> simp [c1, e1, e2, e3, hm, ownOk, -List.all_eq_true, -List.all_eq_false]
    · have hl : t.length = 48 := by simp only [eqI_iff] at e2; omega
      have e3 : ltI 48 t.length = false := by simp only [ltI_not]; omega
      cases e4 : spsOk h
      · simp [c1, c2, e1, e2, e3, e4, hm, ownOk, -List.all_eq_true, -List.all_eq_false]
      · cases e5 : spsOk d
        · simp [c1, c2, c3, e1, e2, e3, e4, e5, hm, ownOk, -List.all_eq_true, -List.all_eq_false]
        · have hl2 := lp_sOwnOk m hm t h d hl hb db _ rfl 48 0 (by omega)
          push_cast at hl2
          simp [c1, c2, c3, e1, e2, e3, e4, e5, hm, ownOk, -List.all_eq_true, -List.all_eq_false]
          rw [loopC_at ?_ hl2]
          · cases e6 : allTo (okAt t (inF h) (inF d)) 48 0 <;> simp
          · rfl
end Go.Ev

/- Answers: the reference's caches. -/
set_option linter.unusedSimpArgs false
set_option linter.unusedVariables false
set_option maxRecDepth 100000
set_option maxHeartbeats 4000000
namespace Go.Ev
open Go.Proofs
abbrev rOB (t : List UInt8) (h d : List Sp) (b : Bool) : Out := { rs := [rOw t h d, .v .own false [.bool b]], outs := [] }
def cutS (xs : List Sp) (s : Sp) : List Sp := ofL (fun j => if inSp j s = true then false else xs.any (inSp j)) 48 0 []
def addS (xs : List Sp) (s : Sp) : List Sp := ofL (fun j => if inSp j s = true then true else xs.any (inSp j)) 48 0 []
theorem ofL_len (f : Nat → Bool) : ∀ (n i : Nat) (out : List Sp), (ofL f n i out).length ≤ out.length + n
  | 0, i, out => by simp [ofL]
  | n + 1, i, out => by
    have := ofL_len f n (i + 1) (ofStep out i (f i))
    have := ofStep_len out i (f i)
    simp only [ofL]
    omega
theorem cutS_len (xs : List Sp) (s : Sp) : (cutS xs s).length ≤ 48 := by
  exact ofL_len (fun j => if inSp j s = true then false else xs.any (inSp j)) 48 0 []
theorem addS_len (xs : List Sp) (s : Sp) : (addS xs s).length ≤ 48 := by
  exact ofL_len (fun j => if inSp j s = true then true else xs.any (inSp j)) 48 0 []
structure OwB (t : List UInt8) (h d : List Sp) : Prop where
  t : t.length ≤ 4000000
  h : h.length ≤ 4000000
  d : d.length ≤ 4000000
def cleanS (t : List UInt8) (h d : List Sp) (p : Sp) : Out :=
  if ownOk t h d = true then
    if spOk p = true then (if ownOk t h (cutS d p) = true then rOB t h (cutS d p) true else rOB t h d false)
    else rOB t h d false
  else rOB [] [] [] false
theorem lp_l2Long (m : M) (N : Nat) (hN : N ≤ 4000000) (a : Code) (ha : a = lp Tryz.f114 0) : ∀ (n : Nat) (m0 : M) (s : List UInt8), N ≤ s.length + n → s.length ≤ 4000000 →
    ∃ m', loopC E (ev E) 114 a { V := [(0, .v m0 false [.str s]), (1, .v m false [.int .i64 N])], H := [], ps := [] } =
      some (.exit 0, { V := [(0, .v m' false [.str (s ++ List.replicate (N - s.length) 46)]), (1, .v m false [.int .i64 N]), (8, vb false)], H := [], ps := [] })
  | 0, m0, s, h, hs => by
    refine ⟨m0, ?_⟩
    rw [loopC_of _ _ _ _ ha]
    have h1 : N ≤ s.length := by omega
    have h2 : N - s.length = 0 := by omega
    simp [lp, loopsOf, Tryz.f114, h1, h2]
  | n + 1, m0, s, h, hs => by
    by_cases hlt : s.length < N
    · obtain ⟨m', ih⟩ := lp_l2Long m N hN a ha n .ro (s ++ [46]) (by simp; omega) (by simp; omega)
      refine ⟨m', ?_⟩
      rw [loopC_of _ _ _ _ ha]
      clear ha
      have h2 : N - s.length = (N - (s.length + 1)) + 1 := by omega
      have h3 : s.length + 1 ≤ 4611686018427387904 := by omega
      rw [h2, List.replicate_succ]
      simp at ih
      simp [lp, loopsOf, Tryz.f114, hlt, h3]
      exact ih
    · refine ⟨m0, ?_⟩
      rw [loopC_of _ _ _ _ ha]
      have h1 : N ≤ s.length := by omega
      have h2 : N - s.length = 0 := by omega
      simp [lp, loopsOf, Tryz.f114, h1, h2]
theorem ev_l2Long (m m' : M) (s : List UInt8) (N : Nat) (hN : N ≤ 4000000) (hs : s.length ≤ 4000000) :
    ev E 114 [.v m' false [.str s], .v m false [.int .i64 N]] = some { rs := [.v .own false [.str (s ++ List.replicate (N - s.length) 46)]], outs := [] } := by
  obtain ⟨m0, hl⟩ := lp_l2Long m N hN _ rfl N m' s (by omega) hs
  rw [ev_fn Tryz.f114 rfl Tryz.func114 rfl rfl rfl (Nat.le_of_ble_eq_true rfl)]
  simp
  rw [loopC_at ?_ hl]
  · simp
  · rfl
theorem ev_l6Blank (m : M) (N : Nat) (hN : N ≤ 4000000) : ev E 94 [.v m false [.int .i64 N]] = some { rs := [.v .own false [.str (List.replicate N 46)]], outs := [] } := by
  have c := fun m m' => ev_l2Long m m' [] N hN (by simp)
  rw [ev_fn Tryz.f94 rfl Tryz.func94 rfl rfl rfl (Nat.le_of_ble_eq_true rfl)]
  simp [c]
theorem ev_l6None : ev E 58 [] = some { rs := [rOw (List.replicate 48 46) [] []], outs := [] } := by
  have c := fun m => ev_l6Blank m 48 (by omega)
  push_cast at c
  rw [ev_fn Tryz.f58 rfl Tryz.func58 rfl rfl rfl (Nat.le_of_ble_eq_true rfl)]
  simp [c, -List.reduceReplicate]
  rfl
def overS (s : List UInt8) (p : Sp) (x : List UInt8) : List UInt8 := s.take p.1.toNat ++ x ++ s.drop p.2.toNat
end Go.Ev
