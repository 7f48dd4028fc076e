/- My texts joined: EvF, EvG, EvT1, EvT2, EvT3, EvT4, EvT5, EvT6, EvT7, EvT8, EvT9, EvT10, EvT11, EvT12, EvT13, EvT32, EvM1, EvT23, EvT24, EvT14. No condition. -/
import Derived.Test.YtndikjcpmhfdhaaDoorEn3
import Derived.Test.YtndikjcpmhfdhaaDoorEn6
/- The evaluator is sound over this program. -/
namespace Go.Ev
theorem envOk : EnvOk E fun f id ops => drawChk ops (E.conf f id) (ancT f id) :=
  envOk_of (by kernel_rfl) (fun f h => by
    have hk : known.contains f = true := by
      have h : extT f = none := h
      unfold extT at h
      repeat' (split at h)
      all_goals first | assumption | (cases h; done)
    exact List.all_eq_true.1 okBodies f (by simpa using hk)) extOk
theorem sound {f : FuncId} {args : List Arg} {out : Out} (h : ev E f args = some out) : Con E f args out := ev_sound envOk f args out h
end Go.Ev

/- A function's answer, in the form that simp uses. -/
set_option linter.unusedVariables false
namespace Go.Ev
def resK (E : Env) (fz : List Nat) (rs : List ResultVar) (args : List Arg) (r : Option (Ex × St)) : Option Out :=
  match r with
  | some (.normal, s) | some (.ret, s) =>
    match evResults E fz rs s with
    | some (rs, s') => (outsOf s' args 0).map fun outs => { rs, outs }
    | none => none
  | _ => none
def finK (args : List Arg) (r : Option (List RV × St)) : Option Out :=
  match r with
  | some (rs, s') => (outsOf s' args 0).map fun outs => { rs, outs }
  | none => none
@[simp] theorem finK_some (args : List Arg) (rs : List RV) (s : St) : finK args (some (rs, s)) = (outsOf s args 0).map fun outs => { rs, outs } := rfl
@[simp] theorem resK_normal (E : Env) (fz : List Nat) (rs : List ResultVar) (args : List Arg) (s : St) : resK E fz rs args (some (.normal, s)) = finK args (evResults E fz rs s) := rfl
@[simp] theorem resK_ret (E : Env) (fz : List Nat) (rs : List ResultVar) (args : List Arg) (s : St) : resK E fz rs args (some (.ret, s)) = finK args (evResults E fz rs s) := rfl
@[simp] theorem resK_ite (E : Env) (fz : List Nat) (rs : List ResultVar) (args : List Arg) (p : Prop) [Decidable p] (x y : Option (Ex × St)) : resK E fz rs args (if p then x else y) = if p then resK E fz rs args x else resK E fz rs args y := by split <;> rfl
theorem thenK_ite (p : Prop) [Decidable p] (x y : Option (Ex × St)) (k : St → Option (Ex × St)) : thenK (if p then x else y) k = if p then thenK x k else thenK y k := by split <;> rfl
theorem blockK_ite (p : Prop) [Decidable p] (x y : Option (Ex × St)) (i : Nat) : blockK i (if p then x else y) = if p then blockK i x else blockK i y := by split <;> rfl
@[simp] theorem opnd_nilptr (E : Env) (s : St) : opnd E s (.const (.pointer none)) = .dead := rfl
theorem loopC_at {E : Env} {K : Fns} {f : FuncId} {a c : Code} {s : St} {r : Option (Ex × St)} (ha : a = c) (h : loopC E K f c s = r) : loopC E K f a s = r := ha ▸ h
theorem ev_fn {f : FuncId} (fn : Func) {c : Code} {rs : List ResultVar} {args : List Arg} (hx : E.ext f = none) (hf : E.P.funcs[f]? = some fn) (hc : fn.body = some c) (hr : fn.results.toList = rs)
    (h1 : args.length = fn.params.size + fn.nfree) (h2 : args.length ≤ fn.ntmps) : ev E f args = resK E (E.fz f) rs args (evCode E (ev E) f c (enter 0 args)) := by
  rw [ev_eq]
  simp only [hx]
  exact evBody_of E _ f fn c rs args hf hc hr ⟨h1, h2⟩
end Go.Ev

/- Answers of the smallest functions. -/
set_option linter.unusedSimpArgs false
set_option linter.unusedVariables false
set_option maxRecDepth 100000
namespace Go.Ev
open Go.Proofs
abbrev vi (n : Int) : AV := .v .ro false [.int .i64 n]
abbrev vb (b : Bool) : AV := .v .ro false [.bool b]
abbrev vc (b : UInt8) : AV := .v .ro false [.int .u8 b.toNat]
abbrev Sp := Int × Int
abbrev spL (s : Sp) : List L := [.int .i64 s.1, .int .i64 s.2]
abbrev rB (b : Bool) : Out := { rs := [.v .own false [.bool b]], outs := [] }
abbrev rI (n : Int) : Out := { rs := [.v .own false [.int .i64 n]], outs := [] }
theorem wrapN (i : Nat) (h : i < 4611686018427387904) : IntKind.i64.wrap ((i : Int) + 1) = ((i + 1 : Nat) : Int) := by
  rw [wrap64] <;> omega
def okB (b : UInt8) : Bool := !((ltI b.toNat 97 || ltI 122 b.toNat) && (ltI b.toNat 48 || ltI 57 b.toNat) && !eqI b.toNat 46)
def spOk (s : Sp) : Bool := !ltI s.1 0 && ltI s.1 s.2 && !ltI 48 s.2
def minI (a b : Int) : Int := if ltI a b = true then a else b
def maxI (a b : Int) : Int := if ltI b a = true then a else b
theorem ev_impl_SpanOk (m : M) (s : Sp) : ev E 42 [.v m true (spL s)] = some (rB (spOk s)) := by
  rw [ev_fn Tryd.f42 rfl Tryd.func42 rfl rfl rfl (Nat.le_of_ble_eq_true rfl)]
  simp
  repeat' (split <;> rename_i hq <;> (try simp only [Bool.not_eq_true] at hq) <;> simp [hq, *])
  all_goals simp [spOk, *]
theorem ev_spec_SpanOk (m : M) (s : Sp) : ev E 73 [.v m true (spL s)] = some (rB (spOk s)) := by
  rw [ev_fn Tryd.f73 rfl Tryd.func73 rfl rfl rfl (Nat.le_of_ble_eq_true rfl)]
  simp
  repeat' (split <;> rename_i hq <;> (try simp only [Bool.not_eq_true] at hq) <;> simp [hq, *])
  all_goals simp [spOk, *]
theorem ev_spec_l1Min (m m' : M) (a b : Int) : ev E 86 [.v m false [.int .i64 a], .v m' false [.int .i64 b]] = some (rI (minI a b)) := by
  rw [ev_fn Tryd.f86 rfl Tryd.func86 rfl rfl rfl (Nat.le_of_ble_eq_true rfl)]
  simp
  repeat' (split <;> rename_i hq <;> (try simp only [Bool.not_eq_true] at hq) <;> simp [hq, *])
  all_goals simp [minI, *]
theorem ev_spec_l1Max (m m' : M) (a b : Int) : ev E 78 [.v m false [.int .i64 a], .v m' false [.int .i64 b]] = some (rI (maxI a b)) := by
  rw [ev_fn Tryd.f78 rfl Tryd.func78 rfl rfl rfl (Nat.le_of_ble_eq_true rfl)]
  simp
  repeat' (split <;> rename_i hq <;> (try simp only [Bool.not_eq_true] at hq) <;> simp [hq, *])
  all_goals simp [maxI, *]
theorem ev_l2Byte (m : M) (b : UInt8) : ev E 83 [.v m false [.int .u8 b.toNat]] = some (rB (okB b)) := by
  rw [ev_fn Tryd.f83 rfl Tryd.func83 rfl rfl rfl (Nat.le_of_ble_eq_true rfl)]
  simp
  repeat' (split <;> rename_i hq <;> (try simp only [Bool.not_eq_true] at hq) <;> simp [hq, *])
  all_goals simp [okB, *]
end Go.Ev

/- Answers: loops over strings and ranges that only read. -/
set_option linter.unusedSimpArgs false
set_option linter.unusedVariables false
set_option maxRecDepth 100000
namespace Go.Ev
open Go.Proofs
/-- The last step of a loop by its rest. -/
theorem all_drop {α : Type} {p : α → Bool} {xs : List α} {i : Nat} (h : i < xs.length) : (xs.drop i).all p = (p xs[i] && (xs.drop (i + 1)).all p) := by
  rw [List.drop_eq_getElem_cons h]; rfl
theorem any_drop {α : Type} {p : α → Bool} {xs : List α} {i : Nat} (h : i < xs.length) : (xs.drop i).any p = (p xs[i] || (xs.drop (i + 1)).any p) := by
  rw [List.drop_eq_getElem_cons h]; rfl
theorem lp_TextOk (m : M) (bs : List UInt8) (hb : bs.length ≤ 1099511627776) (a : Code) (ha : a = lp Tryd.f66 0) : ∀ (n i : Nat), i + n = bs.length →
    loopC E (ev E) 66 a { V := [(0, .v m false [.str bs]), (6, vi bs.length), (7, vi i)], H := [], ps := [] } =
      if (bs.drop i).all okB then some (.exit 0, { V := [(0, .v m false [.str bs]), (6, vi bs.length), (7, vi bs.length), (8, vb false)], H := [], ps := [] })
      else some (.ret, { V := [(2, vb false)], H := [], ps := [] })
  | 0, i, h => by
    rw [loopC_of _ _ _ _ ha]
    obtain rfl : i = bs.length := by omega
    simp [lp, loopsOf, Tryd.f66]
  | n + 1, i, h => by
    have hlt : i < bs.length := by omega
    have ih := lp_TextOk m bs hb a ha n (i + 1) (by omega)
    push_cast at ih
    have hw := wrapN i (by omega)
    rw [loopC_of _ _ _ _ ha, all_drop hlt]
    clear ha
    generalize (bs.drop (i + 1)).all okB = r at ih ⊢
    generalize hR : (if (okB bs[i] && r) = true then _ else _) = R
    simp [lp, loopsOf, Tryd.f66, hlt, hw]
    repeat' (split <;> rename_i hq <;> (try simp only [Bool.not_eq_true] at hq) <;> simp [hq, *])
    all_goals (subst hR; simp [okB, *])
theorem ev_impl_TextOk (m : M) (bs : List UInt8) (hb : bs.length ≤ 1099511627776) : ev E 66 [.v m false [.str bs]] = some (rB (bs.all okB && !ltI 48 bs.length)) := by
  rw [ev_fn Tryd.f66 rfl Tryd.func66 rfl rfl rfl (Nat.le_of_ble_eq_true rfl)]
  have hl := fun a ha => lp_TextOk m bs hb a ha bs.length 0 (by omega)
  push_cast at hl
  simp
  rw [hl _ ?_]
  · cases h : bs.all okB <;> simp [h]
  · rfl
theorem lp_sTextOk (m : M) (bs : List UInt8) (hb : bs.length ≤ 1099511627776) (a : Code) (ha : a = lp Tryd.f65 0) : ∀ (n i : Nat), i + n = bs.length →
    loopC E (ev E) 65 a { V := [(0, .v m false [.str bs]), (3, vi i)], H := [], ps := [] } =
      if (bs.drop i).all okB then some (.exit 0, { V := [(0, .v m false [.str bs]), (3, vi bs.length), (7, vb false)], H := [], ps := [] })
      else some (.ret, { V := [(2, vb false)], H := [], ps := [] })
  | 0, i, h => by
    rw [loopC_of _ _ _ _ ha]
    obtain rfl : i = bs.length := by omega
    simp [lp, loopsOf, Tryd.f65]
  | n + 1, i, h => by
    have hlt : i < bs.length := by omega
    have ih := lp_sTextOk m bs hb a ha n (i + 1) (by omega)
    push_cast at ih
    have hw := wrapN i (by omega)
    rw [loopC_of _ _ _ _ ha, all_drop hlt]
    clear ha
    generalize (bs.drop (i + 1)).all okB = r at ih ⊢
    generalize hR : (if (okB bs[i] && r) = true then _ else _) = R
    simp [lp, loopsOf, Tryd.f65, hlt, hw, ev_l2Byte]
    repeat' (split <;> rename_i hq <;> (try simp only [Bool.not_eq_true] at hq) <;> simp [hq, *, ev_l2Byte])
    all_goals (subst hR; simp [*])
theorem ev_spec_TextOk (m : M) (bs : List UInt8) (hb : bs.length ≤ 1099511627776) : ev E 65 [.v m false [.str bs]] = some (rB (bs.all okB && !ltI 48 bs.length)) := by
  rw [ev_fn Tryd.f65 rfl Tryd.func65 rfl rfl rfl (Nat.le_of_ble_eq_true rfl)]
  have hl := fun a ha => lp_sTextOk m bs hb a ha bs.length 0 (by omega)
  push_cast at hl
  simp
  rw [hl _ ?_]
  · cases h : bs.all okB <;> simp [h]
  · rfl
def inSp (at' : Int) (s : Sp) : Bool := !ltI at' s.1 && ltI at' s.2
end Go.Ev

/- Answers: valid lists of ranges. -/
set_option linter.unusedSimpArgs false
set_option linter.unusedVariables false
set_option maxRecDepth 100000
set_option maxHeartbeats 2000000
namespace Go.Ev
open Go.Proofs
def stepOk (xs : List Sp) (i : Nat) : Bool := spOk (xs.getD i (0, 0)) && (match i with | 0 => true | j + 1 => ltI (xs.getD j (0, 0)).2 (xs.getD (j + 1) (0, 0)).1)
def stepsOk (xs : List Sp) : Nat → Nat → Bool
  | 0, _ => true
  | n + 1, i => stepOk xs i && stepsOk xs n (i + 1)
def spsOk (xs : List Sp) : Bool := stepsOk xs xs.length 0 && !ltI 12 xs.length
theorem stepOk_0 {xs : List Sp} (h : 0 < xs.length) : stepOk xs 0 = spOk xs[0] := by simp [stepOk, h]
theorem stepOk_s {xs : List Sp} {i j : Nat} (hj : i = j + 1) (h : i < xs.length) : stepOk xs i = (spOk xs[i] && ltI (xs[j]'(by omega)).2 xs[i].1) := by
  subst hj
  simp [stepOk, h, show j < xs.length by omega]
end Go.Ev

/- Places: arrays of bools, as functions. -/
set_option linter.unusedSimpArgs false
set_option linter.unusedVariables false
set_option maxRecDepth 100000
set_option maxHeartbeats 2000000
namespace Go.Ev
open Go.Proofs
def pl (f : Nat → Bool) : List L := (List.range 48).map fun i => L.bool (f i)
def updB (f : Nat → Bool) (i : Nat) (v : Bool) : Nat → Bool := fun j => if j = i then v else f j
abbrev bx (r : Root) (ls : List L) : Root × HC := (r, { box := true, wr := true, m := .own, ls, e0 := 0, e1 := 0 })
@[simp] theorem pl_length (f : Nat → Bool) : (pl f).length = 48 := by simp [pl]
theorem pl_get (f : Nat → Bool) {i : Nat} (h : i < 48) : (pl f)[i]? = some (.bool (f i)) := by simp [pl, h]
theorem pl_take (f : Nat → Bool) {i : Nat} (h : i < 48) : ((pl f).drop i).take 1 = [.bool (f i)] := by
  have hl : i < (pl f).length := by simpa using h
  rw [List.drop_eq_getElem_cons hl]
  have := pl_get f h
  rw [List.getElem?_eq_getElem hl] at this
  simp only [Option.some.injEq] at this
  simp [this]
theorem pl_set (f : Nat → Bool) (i : Nat) (v : Bool) (h : i < 48) : (pl f).set i (.bool v) = pl (updB f i v) := by
  refine List.ext_getElem? fun j => ?_
  by_cases hj : j < 48
  · rw [pl_get _ hj, List.getElem?_set]
    by_cases e : i = j
    · subst e; simp [updB, h]
    · simp [e, updB, Ne.symm e, pl_get f hj]
  · rw [List.getElem?_eq_none (by simp; omega), List.getElem?_eq_none (by simp; omega)]
@[simp] theorem pl_flat (f : Nat → Bool) : (pl f).all L.flat = true := by simp [pl]
@[simp] theorem pl_all (f : Nat → Bool) : (pl f).take 48 = pl f := List.take_of_length_le (by simp)
theorem pl_ff : List.replicate 48 (L.bool false) = pl fun _ => false := rfl
theorem pl_congr {f g : Nat → Bool} (h : ∀ i, i < 48 → f i = g i) : pl f = pl g := by
  unfold pl
  exact List.map_congr_left fun i hi => by rw [h i (List.mem_range.1 hi)]
@[simp] theorem wrap_i (i : Nat) : ((i : Int)).toNat = i := Int.toNat_natCast i
theorem setRange_app : ∀ (xs pre ls : List L), xs.length = ls.length → setRange (pre ++ ls) pre.length xs = pre ++ xs
  | [], pre, [], _ => rfl
  | [], pre, _ :: _, h => by simp at h
  | _ :: _, pre, [], h => by simp at h
  | x :: xs, pre, l :: ls, h => by
    have := setRange_app xs (pre ++ [x]) ls (by simpa using h)
    simp only [setRange]
    rw [show (pre ++ l :: ls).set pre.length x = (pre ++ [x]) ++ ls by simp, show pre.length + 1 = (pre ++ [x]).length by simp, this]
    simp
@[simp] theorem pl_over (f g : Nat → Bool) : setRange (pl f) 0 (pl g) = pl g := by
  have := setRange_app (pl g) [] (pl f) (by simp)
  simpa using this
def fillF (f : Nat → Bool) : Nat → Nat → (Nat → Bool)
  | 0, _ => f
  | n + 1, i => fillF (updB f i true) n (i + 1)
theorem fillF_get (n : Nat) : ∀ (f : Nat → Bool) (i j : Nat), fillF f n i j = (f j || (decide (i ≤ j) && decide (j < i + n))) := by
  induction n with
  | zero =>
    intro f i j
    have : (decide (i ≤ j) && decide (j < i + 0)) = false := by simp
    rw [this, Bool.or_false]; rfl
  | succ n ih =>
    intro f i j
    simp only [fillF, ih, updB]
    by_cases h : j = i
    · subst h; simp
    · simp only [if_neg h]
      congr 1
      rw [Bool.eq_iff_iff]
      simp only [Bool.and_eq_true, decide_eq_true_eq]
      omega
end Go.Ev

/- Answers: places put together; lists compared. -/
set_option linter.unusedSimpArgs false
set_option linter.unusedVariables false
set_option maxRecDepth 100000
set_option maxHeartbeats 2000000
namespace Go.Ev
open Go.Proofs
abbrev adc (t : Nat) : AV := .ad (.c t) 0 0 0 []
def eqSp (s t : Sp) : Bool := eqI s.1 t.1 && eqI s.2 t.2
theorem eqSp_iff {s t : Sp} : eqSp s t = true ↔ s = t := by
  obtain ⟨a, b⟩ := s
  obtain ⟨c, d⟩ := t
  simp [eqSp, eqI]
def eqFrom (xs ys : List Sp) : Nat → Nat → Bool
  | 0, _ => true
  | n + 1, i => eqSp (xs.getD i (0, 0)) (ys.getD i (0, 0)) && eqFrom xs ys n (i + 1)
theorem eqFrom_iff (xs ys : List Sp) : ∀ (n i : Nat), eqFrom xs ys n i = true ↔ ∀ j, i ≤ j → j < i + n → xs.getD j (0, 0) = ys.getD j (0, 0)
  | 0, i => by simp [eqFrom]; omega
  | n + 1, i => by
    simp only [eqFrom, Bool.and_eq_true, eqSp_iff, eqFrom_iff xs ys n (i + 1)]
    constructor
    · intro ⟨h1, h2⟩ j hj hk
      by_cases e : j = i
      · subst e; exact h1
      · exact h2 j (by omega) (by omega)
    · intro h
      exact ⟨h i (by omega) (by omega), fun j hj hk => h j (by omega) (by omega)⟩
theorem eqFrom_all {xs ys : List Sp} (h : xs.length = ys.length) : eqFrom xs ys xs.length 0 = decide (xs = ys) := by
  rw [Bool.eq_iff_iff, eqFrom_iff]
  simp only [decide_eq_true_eq]
  constructor
  · intro hj
    refine List.ext_getElem h fun i h1 h2 => ?_
    have := hj i (by omega) (by omega)
    simpa [h1, h2] using this
  · rintro rfl
    intros; rfl
@[simp] theorem eqAgg_Span : eqAgg Tryd.prog 38 = true := by kernel_rfl
@[simp] theorem shape_Span (a b : Int) : shapeT Tryd.prog 8 38 [.int .i64 a, .int .i64 b] = true := by simp [shapeT, shapeFs]
end Go.Ev

/- Answers: the ranges of a set. -/
set_option linter.unusedSimpArgs false
set_option linter.unusedVariables false
set_option maxRecDepth 100000
set_option maxHeartbeats 2000000
namespace Go.Ev
open Go.Proofs
abbrev at1 (t : Nat) : AV := .at (.c t) 0 0 0 [] 1 false
abbrev ow (r : Root) (ls : List L) : Root × HC := (r, { box := false, wr := true, m := .own, ls, e0 := 0, e1 := 0 })
def runEnd (f : Nat → Bool) : Nat → Nat → Nat
  | 0, i => i
  | n + 1, i => if f i = true then runEnd f n (i + 1) else i
theorem runEnd_le (f : Nat → Bool) : ∀ n i, i ≤ runEnd f n i ∧ runEnd f n i ≤ i + n
  | 0, i => by simp [runEnd]
  | n + 1, i => by
    have := runEnd_le f n (i + 1)
    simp only [runEnd]
    split <;> omega
def spansF (f : Nat → Bool) : Nat → Nat → List Sp
  | 0, _ => []
  | n + 1, i => if i < 48 then (if f i = true then ((i : Int), (runEnd f (48 - i) i : Int)) :: spansF f n (runEnd f (48 - i) i + 1) else spansF f n (i + 1)) else []
end Go.Ev

/- Answers: the reference's places and parts. -/
set_option linter.unusedSimpArgs false
set_option linter.unusedVariables false
set_option maxRecDepth 100000
set_option maxHeartbeats 2000000
namespace Go.Ev
open Go.Proofs
def plR (f : Nat → Bool) (n : Nat) : List (List L) := (List.range n).map fun i => [L.bool (f i)]
@[simp] theorem plR_length (f : Nat → Bool) (n : Nat) : (plR f n).length = n := by simp [plR]
theorem plR_succ (f : Nat → Bool) (n : Nat) : plR f n ++ [[.bool (f n)]] = plR f (n + 1) := by simp [plR, List.range_succ]
theorem plR_get (f : Nat → Bool) {n i : Nat} (h : i < n) : (plR f n)[i]? = some [.bool (f i)] := by simp [plR, h]
@[simp] theorem plR_getE (f : Nat → Bool) {n i : Nat} (h : i < (plR f n).length) : (plR f n)[i] = [.bool (f i)] := by simp [plR]
@[simp] theorem plR_rows (f : Nat → Bool) (n : Nat) : ((plR f n).all fun r => decide (r.length = 1)) = true := by simp [plR]
@[simp] theorem plR_zero (f : Nat → Bool) : plR f 0 = [] := rfl
theorem plR_congr {f g : Nat → Bool} {n : Nat} (h : ∀ i, i < n → f i = g i) : plR f n = plR g n := by
  unfold plR
  exact List.map_congr_left fun i hi => by rw [h i (List.mem_range.1 hi)]
theorem plR_set (f : Nat → Bool) (n i : Nat) (v : Bool) (h : i < n) : (plR f n).set i [.bool v] = plR (updB f i v) n := by
  refine List.ext_getElem? fun j => ?_
  by_cases hj : j < n
  · rw [plR_get _ hj, List.getElem?_set]
    by_cases e : i = j
    · subst e; simp [updB, h]
    · simp [e, updB, Ne.symm e, plR_get f hj]
  · rw [List.getElem?_eq_none (by simp; omega), List.getElem?_eq_none (by simp; omega)]
def ofStep (out : List Sp) (i : Nat) (b : Bool) : List Sp :=
  if b = true then
    match out.getLast? with
    | some (lo, hi) => if eqI hi i = true then out.dropLast ++ [(lo, (i : Int) + 1)] else out ++ [((i : Int), (i : Int) + 1)]
    | none => [((i : Int), (i : Int) + 1)]
  else out
def ofL (f : Nat → Bool) : Nat → Nat → List Sp → List Sp
  | 0, _, out => out
  | n + 1, i, out => ofL f n (i + 1) (ofStep out i (f i))
theorem ofStep_len (out : List Sp) (i : Nat) (b : Bool) : (ofStep out i b).length ≤ out.length + 1 := by
  unfold ofStep
  rcases List.eq_nil_or_concat out with rfl | ⟨pre, x, rfl⟩
  · cases b <;> simp
  · cases b
    · simp
    · simp only [if_true, List.concat_eq_append, List.getLast?_append, List.getLast?_singleton, Option.or_some, Option.some_or]
      split <;> simp
end Go.Ev

/- Answers: parts put in and cut, valid caches. -/
set_option linter.unusedSimpArgs false
set_option linter.unusedVariables false
set_option maxRecDepth 100000
set_option maxHeartbeats 4000000
namespace Go.Ev
open Go.Proofs
def fillV (v : Bool) (f : Nat → Bool) : Nat → Nat → (Nat → Bool)
  | 0, _ => f
  | n + 1, i => fillV v (updB f i v) n (i + 1)
theorem fillV_get (v : Bool) (n : Nat) : ∀ (f : Nat → Bool) (i j : Nat), fillV v f n i j = if i ≤ j ∧ j < i + n then v else f j := by
  induction n with
  | zero => intro f i j; rw [if_neg (by omega)]; rfl
  | succ n ih =>
    intro f i j
    simp only [fillV, ih, updB]
    by_cases h : j = i
    · subst h; simp
    · by_cases h2 : i ≤ j ∧ j < i + (n + 1)
      · rw [if_pos h2, if_pos (by omega)]
      · rw [if_neg h2, if_neg (by omega), if_neg h]
end Go.Ev

/- Answers: parts in common, caches compared and copied. -/
set_option linter.unusedSimpArgs false
set_option linter.unusedVariables false
set_option maxRecDepth 100000
set_option maxHeartbeats 4000000
namespace Go.Ev
open Go.Proofs
def meetS (a b : Sp) : Sp := (maxI a.1 b.1, minI a.2 b.2)
abbrev rSB (s : Sp) (b : Bool) : Out := { rs := [.v .own true (spL s), .v .own false [.bool b]], outs := [] }
theorem maxJ (a b : Int) : (if a < b then b else a) = maxI a b := by
  simp only [maxI, ltI, decide_eq_true_eq]
  split <;> split <;> omega
theorem minJ (a b : Int) : (if b < a then b else a) = minI a b := by
  simp only [minI, ltI, decide_eq_true_eq]
  split <;> split <;> omega
def meetO (a b : Sp) : Bool := spOk a && spOk b && spOk (meetS a b)
abbrev owL (t : List UInt8) (h d : List Sp) : List L := [.str t, .sl (h.map spL), .sl (d.map spL)]
abbrev rOw (t : List UInt8) (h d : List Sp) : RV := .v .own true (owL t h d)
end Go.Ev

/- Answers: valid caches. -/
set_option linter.unusedSimpArgs false
set_option linter.unusedVariables false
set_option maxRecDepth 100000
set_option maxHeartbeats 4000000
namespace Go.Ev
open Go.Proofs
abbrev bxm (r : Root) (m : M) (ls : List L) : Root × HC := (r, { box := true, wr := true, m, ls, e0 := 0, e1 := 0 })
def allTo (p : Nat → Bool) : Nat → Nat → Bool
  | 0, _ => true
  | n + 1, i => p i && allTo p n (i + 1)
theorem allTo_iff (p : Nat → Bool) : ∀ (n i : Nat), allTo p n i = true ↔ ∀ j, i ≤ j → j < i + n → p j = true
  | 0, i => by simp [allTo]; omega
  | n + 1, i => by
    simp only [allTo, Bool.and_eq_true, allTo_iff p n (i + 1)]
    constructor
    · intro ⟨h1, h2⟩ j hj hk
      by_cases e : j = i
      · subst e; exact h1
      · exact h2 j (by omega) (by omega)
    · intro h
      exact ⟨h i (by omega) (by omega), fun j hj hk => h j (by omega) (by omega)⟩
def okAt (t : List UInt8) (hf df : Nat → Bool) (i : Nat) : Bool := hf i || (eqI (t.getD i 0).toNat 46 && !df i)
def inF (xs : List Sp) : Nat → Bool := fun j => xs.any (inSp j)
def ownOk (t : List UInt8) (h d : List Sp) : Bool := t.all okB && eqI t.length 48 && spsOk h && spsOk d && allTo (okAt t (inF h) (inF d)) 48 0
theorem spOk_iff {s : Sp} : spOk s = true ↔ 0 ≤ s.1 ∧ s.1 < s.2 ∧ s.2 ≤ 48 := by
  simp [spOk, ltI, and_assoc]
theorem stepsOk_sp {xs : List Sp} : ∀ (n i : Nat), stepsOk xs n i = true → ∀ j, i ≤ j → j < i + n → j < xs.length → spOk (xs.getD j (0, 0)) = true
  | 0, i, _, j, h1, h2, _ => by omega
  | n + 1, i, h, j, h1, h2, h3 => by
    simp only [stepsOk, Bool.and_eq_true] at h
    by_cases e : j = i
    · subst e
      simp only [stepOk, Bool.and_eq_true] at h
      exact h.1.1
    · exact stepsOk_sp n (i + 1) h.2 j (by omega) (by omega) h3
theorem spsOk_sp {xs : List Sp} (h : spsOk xs = true) : ∀ s ∈ xs, 0 ≤ s.1 ∧ s.1 < s.2 ∧ s.2 ≤ 48 := by
  intro s hs
  simp only [spsOk, Bool.and_eq_true] at h
  obtain ⟨j, hj, rfl⟩ := List.mem_iff_getElem.1 hs
  have := stepsOk_sp _ _ h.1 j (by omega) (by omega) hj
  simp only [List.getD_eq_getElem?_getD, List.getElem?_eq_getElem hj, Option.getD_some] at this
  exact spOk_iff.1 this
theorem spsOk_len {xs : List Sp} (h : spsOk xs = true) : xs.length ≤ 12 := by
  simp only [spsOk, Bool.and_eq_true, Bool.not_eq_true', ltI_not] at h
  omega
end Go.Ev

/- Answers: the reference's caches. -/
set_option linter.unusedSimpArgs false
set_option linter.unusedVariables false
set_option maxRecDepth 100000
set_option maxHeartbeats 4000000
namespace Go.Ev
open Go.Proofs
abbrev rOB (t : List UInt8) (h d : List Sp) (b : Bool) : Out := { rs := [rOw t h d, .v .own false [.bool b]], outs := [] }
def cutS (xs : List Sp) (s : Sp) : List Sp := ofL (fun j => if inSp j s = true then false else xs.any (inSp j)) 48 0 []
def addS (xs : List Sp) (s : Sp) : List Sp := ofL (fun j => if inSp j s = true then true else xs.any (inSp j)) 48 0 []
theorem ofL_len (f : Nat → Bool) : ∀ (n i : Nat) (out : List Sp), (ofL f n i out).length ≤ out.length + n
  | 0, i, out => by simp [ofL]
  | n + 1, i, out => by
    have := ofL_len f n (i + 1) (ofStep out i (f i))
    have := ofStep_len out i (f i)
    simp only [ofL]
    omega
theorem cutS_len (xs : List Sp) (s : Sp) : (cutS xs s).length ≤ 48 := by
  exact ofL_len (fun j => if inSp j s = true then false else xs.any (inSp j)) 48 0 []
theorem addS_len (xs : List Sp) (s : Sp) : (addS xs s).length ≤ 48 := by
  exact ofL_len (fun j => if inSp j s = true then true else xs.any (inSp j)) 48 0 []
structure OwB (t : List UInt8) (h d : List Sp) : Prop where
  t : t.length ≤ 4000000
  h : h.length ≤ 4000000
  d : d.length ≤ 4000000
def cleanS (t : List UInt8) (h d : List Sp) (p : Sp) : Out :=
  if ownOk t h d = true then
    if spOk p = true then (if ownOk t h (cutS d p) = true then rOB t h (cutS d p) true else rOB t h d false)
    else rOB t h d false
  else rOB [] [] [] false
theorem lp_l2Long (m : M) (N : Nat) (hN : N ≤ 4000000) (a : Code) (ha : a = lp Tryd.f85 0) : ∀ (n : Nat) (m0 : M) (s : List UInt8), N ≤ s.length + n → s.length ≤ 4000000 →
    ∃ m', loopC E (ev E) 85 a { V := [(0, .v m0 false [.str s]), (1, .v m false [.int .i64 N])], H := [], ps := [] } =
      some (.exit 0, { V := [(0, .v m' false [.str (s ++ List.replicate (N - s.length) 46)]), (1, .v m false [.int .i64 N]), (8, vb false)], H := [], ps := [] })
  | 0, m0, s, h, hs => by
    refine ⟨m0, ?_⟩
    rw [loopC_of _ _ _ _ ha]
    have h1 : N ≤ s.length := by omega
    have h2 : N - s.length = 0 := by omega
    simp [lp, loopsOf, Tryd.f85, h1, h2]
  | n + 1, m0, s, h, hs => by
    by_cases hlt : s.length < N
    · obtain ⟨m', ih⟩ := lp_l2Long m N hN a ha n .ro (s ++ [46]) (by simp; omega) (by simp; omega)
      refine ⟨m', ?_⟩
      rw [loopC_of _ _ _ _ ha]
      clear ha
      have h2 : N - s.length = (N - (s.length + 1)) + 1 := by omega
      have h3 : s.length + 1 ≤ 4611686018427387904 := by omega
      rw [h2, List.replicate_succ]
      simp at ih
      simp [lp, loopsOf, Tryd.f85, hlt, h3]
      exact ih
    · refine ⟨m0, ?_⟩
      rw [loopC_of _ _ _ _ ha]
      have h1 : N ≤ s.length := by omega
      have h2 : N - s.length = 0 := by omega
      simp [lp, loopsOf, Tryd.f85, h1, h2]
theorem ev_l2Long (m m' : M) (s : List UInt8) (N : Nat) (hN : N ≤ 4000000) (hs : s.length ≤ 4000000) :
    ev E 85 [.v m' false [.str s], .v m false [.int .i64 N]] = some { rs := [.v .own false [.str (s ++ List.replicate (N - s.length) 46)]], outs := [] } := by
  obtain ⟨m0, hl⟩ := lp_l2Long m N hN _ rfl N m' s (by omega) hs
  rw [ev_fn Tryd.f85 rfl Tryd.func85 rfl rfl rfl (Nat.le_of_ble_eq_true rfl)]
  simp
  rw [loopC_at ?_ hl]
  · simp
  · rfl
def overS (s : List UInt8) (p : Sp) (x : List UInt8) : List UInt8 := s.take p.1.toNat ++ x ++ s.drop p.2.toNat
end Go.Ev

/- Answers: the reference's patches, drops, fills and writes. -/
set_option linter.unusedSimpArgs false
set_option linter.unusedVariables false
set_option maxRecDepth 100000
set_option maxHeartbeats 4000000
namespace Go.Ev
open Go.Proofs
abbrev Pt := Int × List UInt8
abbrev ptL (q : Pt) : List L := [.int .i64 q.1, .str q.2]
def subS (t : List UInt8) (s : Sp) : List UInt8 := (t.take s.2.toNat).drop s.1.toNat
def patF (t : List UInt8) (p : Sp) : List Sp → List Pt
  | [] => []
  | s :: d => if ltI (meetS s p).1 (meetS s p).2 = true then ((meetS s p).1, subS t (meetS s p)) :: patF t p d else patF t p d
theorem patF_len (t : List UInt8) (p : Sp) : ∀ d, (patF t p d).length ≤ d.length
  | [] => by simp [patF]
  | s :: d => by
    have := patF_len t p d
    simp only [patF]
    split <;> simp <;> omega
theorem meet_bd {s p : Sp} (hs : 0 ≤ s.1 ∧ s.1 < s.2 ∧ s.2 ≤ 48) (hp : 0 ≤ p.1 ∧ p.1 < p.2 ∧ p.2 ≤ 48) : 0 ≤ (meetS s p).1 ∧ (meetS s p).2 ≤ 48 ∧ 0 ≤ (meetS s p).2 ∧ (meetS s p).1 ≤ 48 := by
  simp only [meetS, maxI, minI]
  split <;> split <;> refine ⟨?_, ?_, ?_, ?_⟩ <;> (try dsimp only) <;> omega
end Go.Ev

/- Answers: the reference's drops, fills and writes. -/
set_option linter.unusedSimpArgs false
set_option linter.unusedVariables false
set_option maxRecDepth 100000
set_option maxHeartbeats 4000000
namespace Go.Ev
open Go.Proofs
theorem ownOk_t {t : List UInt8} {h d : List Sp} (e : ownOk t h d = true) : t.length = 48 ∧ spsOk h = true ∧ spsOk d = true ∧ t.all okB = true := by
  simp only [ownOk, Bool.and_eq_true, eqI_iff] at e
  exact ⟨by omega, e.1.1.2, e.1.2, e.1.1.1.1⟩
theorem overS_len (s x : List UInt8) (p : Sp) (h1 : 0 ≤ p.1) (h2 : p.1 ≤ p.2) (h4 : p.2 ≤ s.length) : (overS s p x).length = s.length - (p.2.toNat - p.1.toNat) + x.length := by
  simp only [overS, List.length_append, List.length_take, List.length_drop]
  omega
def dropS (t : List UInt8) (h d : List Sp) (p : Sp) : Out :=
  if ownOk t h d = true then
    if spOk p = true then
      if ltI 0 (patF t p d).length = true then rOB t h d false
      else if ownOk (overS t p (List.replicate (p.2 - p.1).toNat 46)) (cutS h p) d = true then rOB (overS t p (List.replicate (p.2 - p.1).toNat 46)) (cutS h p) d true else rOB t h d false
    else rOB t h d false
  else rOB [] [] [] false
def wrOk (k : Int) (x : List UInt8) : Bool := !ltI k 0 && !ltI 48 k && (x.all okB && !ltI 48 x.length) && !eqS x [] && !ltI 48 (k + x.length)
def writeS (t : List UInt8) (h d : List Sp) (k : Int) (x : List UInt8) : Out :=
  if ownOk t h d = true then
    if wrOk k x = true then
      if ownOk (overS t (k, k + x.length) x) (addS h (k, k + x.length)) (addS d (k, k + x.length)) = true then rOB (overS t (k, k + x.length) x) (addS h (k, k + x.length)) (addS d (k, k + x.length)) true else rOB t h d false
    else rOB t h d false
  else rOB [] [] [] false
end Go.Ev

/- Answers: the program's file contents. -/
set_option linter.unusedSimpArgs false
set_option linter.unusedVariables false
set_option maxRecDepth 100000
set_option maxHeartbeats 4000000
namespace Go.Ev
open Go.Proofs
theorem repeatL_dot : ∀ n, Lib.repeatL [46] n = List.replicate n 46
  | 0 => rfl
  | n + 1 => by rw [Lib.repeatL, repeatL_dot n]; rfl
theorem ev_Repeat (m m' : M) (k : Nat) (hk : k ≤ 8200000) : ev E 84 [.v m false [.str [46]], .v m' false [.int .i64 (k : Int)]] = some { rs := [.v .own false [.str (List.replicate k 46)]], outs := [] } := by
  rw [ev_eq]
  have q0 : (0 : Int) ≤ (k : Int) := by omega
  have q4 : (k : Int) ≤ 9223372036854775807 := by omega
  have q2 : k ≤ 140737488355328 := by omega
  simp [repK, q0, q4, q2, repeatL_dot, leafOut]
def txtOk (s : List UInt8) : Bool := s.all okB && !ltI 48 s.length
theorem txtOk_len {s : List UInt8} (h : txtOk s = true) : s.length ≤ 48 := by
  simp only [txtOk, Bool.and_eq_true, Bool.not_eq_true', ltI_not] at h
  omega
def sizedS (s : List UInt8) (n : Nat) : List UInt8 := if ltI s.length n = true then s ++ List.replicate (n - s.length) 46 else s.take n
theorem ev_sized (m m' : M) (s : List UInt8) (n : Nat) (hn : n ≤ 8200000) (hs : s.length ≤ 4000000) : ev E 69 [.v m false [.str s], .v m' false [.int .i64 n]] = some { rs := [.v .own false [.str (sizedS s n)]], outs := [] } := by
  rw [ev_fn Tryd.f69 rfl Tryd.func69 rfl rfl rfl (Nat.le_of_ble_eq_true rfl)]
  cases e : ltI s.length n
  · have h1 := ltI_not.1 e
    have h2 : n ≤ s.length := by omega
    simp [e, sizedS, h2]
  · have h1 := ltI_iff.1 e
    have hw : IntKind.i64.wrap ((n : Int) - s.length) = ((n - s.length : Nat) : Int) := by rw [wrap64] <;> omega
    have q1 : n - s.length ≤ 9223372036854775807 := by omega
    have q3 : s.length + (n - s.length) ≤ 4611686018427387904 := by omega
    have c := fun m m' => ev_Repeat m m' (n - s.length) (by omega)
    generalize hk : n - s.length = k at *
    simp [e, sizedS, hw, c, q3, hk]
def wrS (s : List UInt8) (k : Nat) (x : List UInt8) : List UInt8 := (s ++ List.replicate (k - s.length) 46).take k ++ x ++ s.drop (k + x.length)
theorem wrS_sized (s x : List UInt8) (k : Nat) : (sizedS s (max s.length (k + x.length))).take k ++ x ++ s.drop (min (k + x.length) s.length) = wrS s k x := by
  unfold wrS sizedS
  congr 1
  · congr 1
    split
    · rename_i h
      rw [ltI_iff] at h
      apply List.ext_getElem?
      intro j
      simp only [List.getElem?_take, List.getElem?_append, List.getElem?_replicate]
      grind
    · rename_i h
      rw [Bool.not_eq_true, ltI_not] at h
      apply List.ext_getElem?
      intro j
      simp only [List.getElem?_take, List.getElem?_append, List.getElem?_replicate]
      grind
  · apply List.ext_getElem?
    intro j
    simp only [List.getElem?_drop]
    by_cases h : k + x.length ≤ s.length
    · rw [Nat.min_eq_left h]
    · rw [Nat.min_eq_right (by omega), List.getElem?_eq_none (by omega), List.getElem?_eq_none (by omega)]
theorem wrS_len (s x : List UInt8) (k : Nat) : (wrS s k x).length = max s.length (k + x.length) := by
  simp [wrS]
  omega
def twS (s : List UInt8) (k : Int) (x : List UInt8) : List UInt8 × Bool := if txtOk s = true then (if wrOk k x = true then (wrS s k.toNat x, true) else (s, false)) else ([], false)
theorem ev_impl_TextWrite (m m' m'' : M) (s x : List UInt8) (k : Int) (hs : s.length ≤ 4000000) (hx : x.length ≤ 4000000) : ev E 37 [.v m false [.str s], .v m' false [.int .i64 k], .v m'' false [.str x]] = some { rs := [.v .own false [.str (twS s k x).1], .v .own false [.bool (twS s k x).2]], outs := [] } := by
  have c1 : ∀ m, ev E 66 [.v m false [.str s]] = some (rB (txtOk s)) := fun m => ev_impl_TextOk m s (by omega)
  have c2 : ∀ m, ev E 66 [.v m false [.str x]] = some (rB (txtOk x)) := fun m => ev_impl_TextOk m x (by omega)
  have hwr : wrOk k x = (!ltI k 0 && !ltI 48 k && txtOk x && !eqS x [] && !ltI 48 (k + x.length)) := rfl
  by_cases hk : 0 ≤ k ∧ k ≤ 48
  · obtain ⟨n, rfl⟩ : ∃ n : Nat, k = n := ⟨k.toNat, by omega⟩
    have f1 : ltI n 0 = false := ltI_not.2 (by omega)
    have f2 : ltI 48 n = false := ltI_not.2 (by omega)
    have hw : IntKind.i64.wrap ((n : Int) + x.length) = ((n + x.length : Nat) : Int) := by rw [wrap64] <;> omega
    have hm : maxI s.length ((n : Int) + x.length) = ((max s.length (n + x.length) : Nat) : Int) := by simp only [maxI, ltI, decide_eq_true_eq]; split <;> omega
    have hmi : minI ((n : Int) + x.length) s.length = ((min (n + x.length) s.length : Nat) : Int) := by simp only [minI, ltI, decide_eq_true_eq]; split <;> omega
    have c3 := fun m m' => ev_sized m m' s (max s.length (n + x.length)) (by omega) hs
    have hl : (sizedS s (max s.length (n + x.length))).length = max s.length (n + x.length) := by
      unfold sizedS
      split
      · rename_i h; rw [ltI_iff] at h; simp; omega
      · rename_i h; rw [Bool.not_eq_true, ltI_not] at h; simp; omega
    have hws := wrS_sized s x n
    generalize sizedS s (max s.length (n + x.length)) = z at c3 hl hws
    rw [ev_fn Tryd.f37 rfl Tryd.func37 rfl rfl rfl (Nat.le_of_ble_eq_true rfl)]
    cases e1 : txtOk s
    · simp [c1, e1, twS]
    · cases e5 : eqS x []
      · cases e4 : txtOk x
        · simp [c1, c2, f1, f2, e1, e4, e5, twS, hwr]
        · have hx48 := txtOk_len e4
          have hs48 := txtOk_len e1
          have g1 : (n : Int) ≤ (max s.length (n + x.length) : Nat) := by omega
          have g2 : n ≤ max s.length (n + x.length) := by omega
          have g3 : min (n + x.length) s.length ≤ s.length := by omega
          have g4 : n + x.length ≤ 4611686018427387904 := by omega
          have g5 : n + (x.length + (s.length - min (n + x.length) s.length)) ≤ 4611686018427387904 := by omega
          have g6 : n + x.length + (s.length - min (n + x.length) s.length) ≤ 4611686018427387904 := by omega
          generalize hmx : max s.length (n + x.length) = mx at *
          generalize hmn : min (n + x.length) s.length = mn at *
          cases e6 : ltI 48 (n + x.length)
          · simp [c1, c2, f1, f2, e1, e4, e5, e6, hw, maxJ, minJ, hm, hmi, c3, hl, twS, hwr, g1, g2, g3, g4, g5, g6, ← hws]
          · simp [c1, c2, f1, f2, e1, e4, e5, e6, hw, twS, hwr]
      · simp [c1, f1, f2, e1, e5, twS, hwr]
  · have hb : wrOk k x = false := by
      rw [hwr]
      by_cases h0 : 0 ≤ k
      · rw [(ltI_iff.2 (by omega) : ltI 48 k = true)]; simp
      · rw [(ltI_iff.2 (by omega) : ltI k 0 = true)]; simp
    rw [ev_fn Tryd.f37 rfl Tryd.func37 rfl rfl rfl (Nat.le_of_ble_eq_true rfl)]
    cases e1 : txtOk s
    · simp [c1, e1, twS]
    · cases e2 : ltI k 0
      · have e3 : ltI 48 k = true := ltI_iff.2 (by have := ltI_not.1 e2; omega)
        simp [c1, e1, e2, e3, twS, hb]
      · simp [c1, e1, e2, twS, hb]
end Go.Ev

/- Plain laws: ranges in their one form. -/
set_option linter.unusedSimpArgs false
set_option linter.unusedVariables false
namespace Go.Ev
theorem inSp_iff {j : Int} {s : Sp} : inSp j s = true ↔ s.1 ≤ j ∧ j < s.2 := by
  simp [inSp, ltI]
theorem inF_iff {xs : List Sp} {j : Nat} : inF xs j = true ↔ ∃ s ∈ xs, s.1 ≤ (j : Int) ∧ (j : Int) < s.2 := by
  simp [inF, List.any_eq_true, inSp_iff]
theorem inF_false {xs : List Sp} {j : Nat} : inF xs j = false ↔ ∀ s ∈ xs, ¬ (s.1 ≤ (j : Int) ∧ (j : Int) < s.2) := by
  rw [← Bool.not_eq_true, inF_iff]
  simp
/-- In order, apart, none empty, all up to N. -/
structure Can (N : Int) (xs : List Sp) : Prop where
  ok : ∀ s ∈ xs, 0 ≤ s.1 ∧ s.1 < s.2 ∧ s.2 ≤ N
  pw : xs.Pairwise fun a b => a.2 < b.1
theorem Can.tail {N : Int} {s : Sp} {xs : List Sp} (h : Can N (s :: xs)) : Can N xs := ⟨fun u hu => h.ok u (by simp [hu]), (List.pairwise_cons.1 h.pw).2⟩
theorem can_uniq {N : Int} : ∀ (xs ys : List Sp) (a : Int), Can N xs → Can N ys → 0 ≤ a → (∀ s ∈ xs, a ≤ s.1) → (∀ s ∈ ys, a ≤ s.1) → (∀ j : Int, a ≤ j → ((∃ s ∈ xs, s.1 ≤ j ∧ j < s.2) ↔ (∃ s ∈ ys, s.1 ≤ j ∧ j < s.2))) → xs = ys
  | [], [], _, _, _, _, _, _, _ => rfl
  | [], u :: v, a, hx, hy, h0, h1, h2, hj => by
    have := (hj u.1 (h2 u (by simp))).2 ⟨u, by simp, by omega, (hy.ok u (by simp)).2.1⟩
    simp at this
  | s :: r, [], a, hx, hy, h0, h1, h2, hj => by
    have := (hj s.1 (h1 s (by simp))).1 ⟨s, by simp, by omega, (hx.ok s (by simp)).2.1⟩
    simp at this
  | s :: r, u :: v, a, hx, hy, h0, h1, h2, hj => by
    have hs := hx.ok s (by simp)
    have hu := hy.ok u (by simp)
    have pr := (List.pairwise_cons.1 hx.pw).1
    have pv := (List.pairwise_cons.1 hy.pw).1
    have l1 : u.1 ≤ s.1 := by
      obtain ⟨q, hq, q1, q2⟩ := (hj s.1 (h1 s (by simp))).1 ⟨s, by simp, by omega, hs.2.1⟩
      rcases List.mem_cons.1 hq with rfl | hq
      · exact q1
      · have := pv q hq; omega
    have l2 : s.1 ≤ u.1 := by
      obtain ⟨q, hq, q1, q2⟩ := (hj u.1 (h2 u (by simp))).2 ⟨u, by simp, by omega, hu.2.1⟩
      rcases List.mem_cons.1 hq with rfl | hq
      · exact q1
      · have := pr q hq; omega
    have e1 : s.1 = u.1 := by omega
    have n1 : ¬ ∃ q ∈ s :: r, q.1 ≤ s.2 ∧ s.2 < q.2 := by
      rintro ⟨q, hq, q1, q2⟩
      rcases List.mem_cons.1 hq with rfl | hq
      · omega
      · have := pr q hq; omega
    have n2 : ¬ ∃ q ∈ u :: v, q.1 ≤ u.2 ∧ u.2 < q.2 := by
      rintro ⟨q, hq, q1, q2⟩
      rcases List.mem_cons.1 hq with rfl | hq
      · omega
      · have := pv q hq; omega
    have m1 : ¬ s.2 < u.2 := fun hlt => n1 ((hj s.2 (by have := h1 s (by simp); omega)).2 ⟨u, by simp, by omega, hlt⟩)
    have m2 : ¬ u.2 < s.2 := fun hlt => n2 ((hj u.2 (by have := h2 u (by simp); omega)).1 ⟨s, by simp, by omega, hlt⟩)
    have e2 : s.2 = u.2 := by omega
    have e : s = u := Prod.ext e1 e2
    subst e
    congr 1
    refine can_uniq r v (s.2 + 1) hx.tail hy.tail (by omega) (fun q hq => by have := pr q hq; omega) (fun q hq => by have := pv q hq; omega) fun j hjj => ?_
    have := hj j (by have := h1 s (by simp); omega)
    constructor
    · rintro ⟨q, hq, q1, q2⟩
      obtain ⟨q', hq', w1, w2⟩ := this.1 ⟨q, by simp [hq], q1, q2⟩
      rcases List.mem_cons.1 hq' with rfl | hq'
      · omega
      · exact ⟨q', hq', w1, w2⟩
    · rintro ⟨q, hq, q1, q2⟩
      obtain ⟨q', hq', w1, w2⟩ := this.2 ⟨q, by simp [hq], q1, q2⟩
      rcases List.mem_cons.1 hq' with rfl | hq'
      · omega
      · exact ⟨q', hq', w1, w2⟩
theorem can_eq {xs ys : List Sp} (hx : Can 48 xs) (hy : Can 48 ys) (h : ∀ j : Nat, j < 48 → inF xs j = inF ys j) : xs = ys := by
  refine can_uniq xs ys 0 hx hy (by omega) (fun s hs => (hx.ok s hs).1) (fun s hs => (hy.ok s hs).1) fun j hj => ?_
  obtain ⟨n, rfl⟩ : ∃ n : Nat, j = n := ⟨j.toNat, by omega⟩
  by_cases hn : n < 48
  · have := h n hn
    rw [← inF_iff, ← inF_iff, this]
  · constructor
    · rintro ⟨s, hs, h1, h2⟩
      have := hx.ok s hs
      omega
    · rintro ⟨s, hs, h1, h2⟩
      have := hy.ok s hs
      omega
theorem ofL_can (f : Nat → Bool) : ∀ (n i : Nat) (out : List Sp), Can i out → (∀ j, j < i → inF out j = f j) → Can ((i + n : Nat) : Int) (ofL f n i out) ∧ ∀ j, j < i + n → inF (ofL f n i out) j = f j
  | 0, i, out, h, hj => ⟨h, hj⟩
  | n + 1, i, out, h, hj => by
    have step : Can ((i + 1 : Nat) : Int) (ofStep out i (f i)) ∧ ∀ j, j < i + 1 → inF (ofStep out i (f i)) j = f j := by
      cases hf : f i with
      | false =>
        simp only [ofStep]
        refine ⟨⟨fun s hs => by have := h.ok s hs; omega, h.pw⟩, fun j hjj => ?_⟩
        by_cases e : j = i
        · subst e
          rw [hf]
          simp only [Bool.false_eq_true, if_false]
          rw [inF_false]
          intro s hs
          have := h.ok s hs
          omega
        · exact hj j (by omega)
      | true =>
        rcases List.eq_nil_or_concat out with rfl | ⟨pre, ⟨lo, hi⟩, rfl⟩
        · simp only [ofStep, if_true, List.getLast?_nil]
          refine ⟨⟨fun s hs => by simp only [List.mem_singleton] at hs; subst hs; dsimp only; omega, by simp⟩, fun j hjj => ?_⟩
          by_cases e : j = i
          · subst e
            rw [hf, inF_iff]
            exact ⟨((j : Int), (j : Int) + 1), by simp, by dsimp only; omega, by dsimp only; omega⟩
          · rw [← hj j (by omega)]
            have : inF ([] : List Sp) j = false := rfl
            rw [this, inF_false]
            intro s hs
            simp only [List.mem_singleton] at hs
            subst hs
            dsimp only
            omega
        · rw [List.concat_eq_append] at h hj ⊢
          have hl := h.ok (lo, hi) (by simp)
          dsimp only at hl
          have hp := List.pairwise_append.1 h.pw
          have hpl : ∀ s ∈ pre, s.2 < lo := fun s hs => hp.2.2 s hs (lo, hi) (by simp)
          simp only [ofStep, if_true, List.getLast?_append, List.getLast?_singleton, Option.or_some, Option.some_or]
          cases e : eqI hi i with
          | true =>
            have e := eqI_iff.1 e
            simp only [if_true, List.dropLast_concat]
            refine ⟨⟨fun s hs => ?_, List.pairwise_append.2 ⟨hp.1, by simp, fun a ha b hb => ?_⟩⟩, fun j hjj => ?_⟩
            · rcases List.mem_append.1 hs with hs | hs
              · have := h.ok s (by simp [hs]); omega
              · simp only [List.mem_singleton] at hs; subst hs; dsimp only; omega
            · simp only [List.mem_singleton] at hb
              subst hb
              exact hpl a ha
            · by_cases ej : j = i
              · subst ej
                rw [hf, inF_iff]
                exact ⟨(lo, (j : Int) + 1), by simp, by dsimp only; omega, by dsimp only; omega⟩
              · rw [← hj j (by omega), Bool.eq_iff_iff, inF_iff, inF_iff]
                constructor
                · rintro ⟨s, hs, h1, h2⟩
                  rcases List.mem_append.1 hs with hs | hs
                  · exact ⟨s, by simp [hs], h1, h2⟩
                  · simp only [List.mem_singleton] at hs; subst hs; dsimp only at h1 h2
                    exact ⟨(lo, hi), by simp, by dsimp only; omega, by dsimp only; omega⟩
                · rintro ⟨s, hs, h1, h2⟩
                  rcases List.mem_append.1 hs with hs | hs
                  · exact ⟨s, by simp [hs], h1, h2⟩
                  · simp only [List.mem_singleton] at hs; subst hs; dsimp only at h1 h2
                    exact ⟨(lo, (i : Int) + 1), by simp, by dsimp only; omega, by dsimp only; omega⟩
          | false =>
            have e := eqI_not.1 e
            simp only [Bool.false_eq_true, if_false]
            refine ⟨⟨fun s hs => ?_, List.pairwise_append.2 ⟨h.pw, by simp, fun a ha b hb => ?_⟩⟩, fun j hjj => ?_⟩
            · rcases List.mem_append.1 hs with hs | hs
              · have := h.ok s hs; omega
              · simp only [List.mem_singleton] at hs; subst hs; dsimp only; omega
            · simp only [List.mem_singleton] at hb
              subst hb
              dsimp only
              rcases List.mem_append.1 ha with ha | ha
              · have := hpl a ha; omega
              · simp only [List.mem_singleton] at ha; subst ha; dsimp only; omega
            · by_cases ej : j = i
              · subst ej
                rw [hf, inF_iff]
                exact ⟨((j : Int), (j : Int) + 1), by simp, by dsimp only; omega, by dsimp only; omega⟩
              · rw [← hj j (by omega), Bool.eq_iff_iff, inF_iff, inF_iff]
                constructor
                · rintro ⟨s, hs, h1, h2⟩
                  rcases List.mem_append.1 hs with hs | hs
                  · exact ⟨s, hs, h1, h2⟩
                  · simp only [List.mem_singleton] at hs; subst hs; dsimp only at h1 h2; omega
                · rintro ⟨s, hs, h1, h2⟩
                  exact ⟨s, List.mem_append.2 (.inl hs), h1, h2⟩
    have := ofL_can f n (i + 1) (ofStep out i (f i)) step.1 step.2
    rw [show i + 1 + n = i + (n + 1) by omega] at this
    exact this
theorem of_can (f : Nat → Bool) : Can 48 (ofL f 48 0 []) ∧ ∀ j, j < 48 → inF (ofL f 48 0 []) j = f j := by
  have := ofL_can f 48 0 [] ⟨by simp, by simp⟩ (fun j hj => by omega)
  simpa using this
theorem runEnd_spec (f : Nat → Bool) : ∀ n i, (∀ j, i ≤ j → j < runEnd f n i → f j = true) ∧ (runEnd f n i = i + n ∨ f (runEnd f n i) = false)
  | 0, i => ⟨fun j h1 h2 => by simp [runEnd] at h2; omega, .inl rfl⟩
  | n + 1, i => by
    have := runEnd_spec f n (i + 1)
    simp only [runEnd]
    split
    · rename_i hf
      refine ⟨fun j h1 h2 => ?_, this.2.imp (fun h => by omega) id⟩
      by_cases e : j = i
      · subst e; exact hf
      · exact this.1 j (by omega) h2
    · rename_i hf
      exact ⟨fun j h1 h2 => by omega, .inr (by simpa using hf)⟩
theorem spansF_can (f : Nat → Bool) : ∀ (n i : Nat), 48 ≤ i + n → Can 48 (spansF f n i) ∧ (∀ s ∈ spansF f n i, (i : Int) ≤ s.1) ∧ ∀ j, i ≤ j → j < 48 → inF (spansF f n i) j = f j
  | 0, i, h => ⟨⟨by simp [spansF], by simp [spansF]⟩, by simp [spansF], fun j h1 h2 => by omega⟩
  | n + 1, i, h => by
    simp only [spansF]
    split
    · rename_i hi
      split
      · rename_i hf
        have hs := runEnd_spec f (48 - i) i
        have hl := runEnd_le f (48 - i) i
        have hgt : i < runEnd f (48 - i) i := by
          have : 48 - i = (47 - i) + 1 := by omega
          rw [this, runEnd, if_pos hf]
          have := (runEnd_le f (47 - i) (i + 1)).1
          omega
        generalize runEnd f (48 - i) i = e at hs hl hgt
        obtain ⟨c, lo, hm⟩ := spansF_can f n (e + 1) (by omega)
        refine ⟨⟨fun s hs => ?_, List.pairwise_cons.2 ⟨fun s hs => ?_, c.pw⟩⟩, fun s hs => ?_, fun j h1 h2 => ?_⟩
        · rcases List.mem_cons.1 hs with rfl | hs
          · dsimp only; omega
          · exact c.ok s hs
        · have := lo s hs
          dsimp only
          omega
        · rcases List.mem_cons.1 hs with rfl | hs
          · dsimp only; omega
          · have := lo s hs; omega
        · by_cases hje : j < e
          · rw [hs.1 j h1 hje, inF_iff]
            exact ⟨((i : Int), (e : Int)), by simp, by dsimp only; omega, by dsimp only; omega⟩
          · have hc : inF (((i : Int), (e : Int)) :: spansF f n (e + 1)) j = inF (spansF f n (e + 1)) j := by
              rw [Bool.eq_iff_iff, inF_iff, inF_iff]
              constructor
              · rintro ⟨s, hs, q1, q2⟩
                rcases List.mem_cons.1 hs with rfl | hs
                · dsimp only at q1 q2; omega
                · exact ⟨s, hs, q1, q2⟩
              · rintro ⟨s, hs, q1, q2⟩
                exact ⟨s, by simp [hs], q1, q2⟩
            rw [hc]
            by_cases hje2 : j = e
            · subst hje2
              rcases hs.2 with h | h
              · omega
              · rw [h, inF_false]
                intro s hs
                have := lo s hs
                omega
            · exact hm j (by omega) h2
      · rename_i hf
        obtain ⟨c, lo, hm⟩ := spansF_can f n (i + 1) (by omega)
        refine ⟨c, fun s hs => by have := lo s hs; omega, fun j h1 h2 => ?_⟩
        by_cases e : j = i
        · subst e
          have : f j = false := by simpa using hf
          rw [this, inF_false]
          intro s hs
          have := lo s hs
          omega
        · exact hm j (by omega) h2
    · exact ⟨⟨by simp, by simp⟩, by simp, fun j h1 h2 => by omega⟩
/-- Both ways of telling the ranges of a set come to the same. -/
theorem spans_of {f g : Nat → Bool} (h : ∀ j, j < 48 → f j = g j) : spansF f 48 0 = ofL g 48 0 [] := by
  obtain ⟨c1, _, m1⟩ := spansF_can f 48 0 (by omega)
  obtain ⟨c2, m2⟩ := of_can g
  exact can_eq c1 c2 fun j hj => by rw [m1 j (by omega) hj, m2 j hj, h j hj]
theorem stepsOk_at {xs : List Sp} : ∀ (n i : Nat), stepsOk xs n i = true → ∀ j, i ≤ j → j < i + n → stepOk xs j = true
  | 0, i, _, j, h1, h2 => by omega
  | n + 1, i, h, j, h1, h2 => by
    simp only [stepsOk, Bool.and_eq_true] at h
    by_cases e : j = i
    · subst e; exact h.1
    · exact stepsOk_at n (i + 1) h.2 j (by omega) (by omega)
theorem spsOk_can {xs : List Sp} (h : spsOk xs = true) : Can 48 xs := by
  have hok := spsOk_sp h
  refine ⟨hok, ?_⟩
  simp only [spsOk, Bool.and_eq_true] at h
  have hst := stepsOk_at _ _ h.1
  have hc : ∀ i, (hi : i + 1 < xs.length) → (xs[i]'(by omega)).2 < xs[i + 1].1 := fun i hi => by
    have := hst (i + 1) (by omega) (by omega)
    simp only [stepOk, Bool.and_eq_true, ltI_iff] at this
    have h2 := this.2
    rw [List.getD_eq_getElem?_getD, List.getD_eq_getElem?_getD, List.getElem?_eq_getElem (by omega : i < xs.length), List.getElem?_eq_getElem hi] at h2
    exact h2
  rw [List.pairwise_iff_getElem]
  intro i j hi hj hij
  obtain ⟨k, rfl⟩ : ∃ k, j = i + 1 + k := ⟨j - i - 1, by omega⟩
  induction k with
  | zero => exact hc i hj
  | succ k ih =>
    have h1 := ih (by omega) (by omega)
    have h2 := hc (i + 1 + k) hj
    have h3 := hok (xs[i + 1 + k]'(by omega)) (List.getElem_mem _)
    have : xs[i + 1 + (k + 1)] = xs[i + 1 + k + 1] := rfl
    rw [this]
    omega
theorem of_self {xs : List Sp} (h : spsOk xs = true) {f : Nat → Bool} (hf : ∀ j, j < 48 → f j = inF xs j) : ofL f 48 0 [] = xs := by
  obtain ⟨c, m⟩ := of_can f
  exact can_eq c (spsOk_can h) fun j hj => by rw [m j hj, hf j hj]
end Go.Ev

/- Answers: the program's caches: changes that keep the bytes. -/
set_option linter.unusedSimpArgs false
set_option linter.unusedVariables false
set_option maxRecDepth 100000
set_option maxHeartbeats 4000000
namespace Go.Ev
open Go.Proofs
theorem spansF_len (f : Nat → Bool) : ∀ (n i : Nat), (spansF f n i).length ≤ n
  | 0, i => by simp [spansF]
  | n + 1, i => by
    have h1 := spansF_len f n (runEnd f (48 - i) i + 1)
    have h2 := spansF_len f n (i + 1)
    simp only [spansF]
    split
    · split
      · simp only [List.length_cons]; omega
      · omega
    · simp
theorem bytes_rows : ∀ (bs : List UInt8), bytesOfRows (rowsOfBytes bs) = some bs
  | [] => rfl
  | b :: bs => by
    have := bytes_rows bs
    simp only [rowsOfBytes] at this
    simp [rowsOfBytes, bytesOfRows, this]
def chgI (t : List UInt8) (h d : List Sp) (may : Bool) (f g : Nat → Bool) : Out :=
  if ownOk t h d = true then
    if may = true then (if ownOk t (spansF f 48 0) (spansF g 48 0) = true then rOB t (spansF f 48 0) (spansF g 48 0) true else rOB t h d false)
    else rOB t h d false
  else rOB [] [] [] false
end Go.Ev

/- Answers: the program's caches read and told. -/
set_option linter.unusedSimpArgs false
set_option linter.unusedVariables false
set_option maxRecDepth 100000
set_option maxHeartbeats 4000000
namespace Go.Ev
open Go.Proofs
theorem meetO_eq {s p : Sp} (hs : 0 ≤ s.1 ∧ s.1 < s.2 ∧ s.2 ≤ 48) (hp : 0 ≤ p.1 ∧ p.1 < p.2 ∧ p.2 ≤ 48) : meetO s p = ltI (meetS s p).1 (meetS s p).2 := by
  have hb := meet_bd hs hp
  have h1 : spOk s = true := spOk_iff.2 hs
  have h2 : spOk p = true := spOk_iff.2 hp
  simp only [meetO, h1, h2, Bool.true_and]
  rw [Bool.eq_iff_iff, spOk_iff, ltI_iff]
  omega
def patI (t : List UInt8) (h d : List Sp) (p : Sp) : List Pt := if ownOk t h d = true then (if spOk p = true then patF t p d else []) else []
def eqP (f g : Nat → Bool) : Bool := (List.range 48).all fun j => f j == g j
theorem cellsEq_bools (f g : Nat → Bool) : ∀ (xs : List Nat), cellsEq (xs.map fun i => L.bool (f i)) (xs.map fun i => L.bool (g i)) = some (xs.all fun j => f j == g j)
  | [] => rfl
  | x :: xs => by
    have := cellsEq_bools f g xs
    simp only [List.map_cons, cellsEq, leafEq, this, List.all_cons]
theorem cellsEq_pl (f g : Nat → Bool) : cellsEq (pl f) (pl g) = some (eqP f g) := cellsEq_bools f g (List.range 48)
theorem eqP_iff {f g : Nat → Bool} : eqP f g = true ↔ ∀ j, j < 48 → f j = g j := by
  simp [eqP, List.all_eq_true]
def haveS (h : List Sp) (s : Sp) : Bool := spsOk h && spOk s && eqP (fun j => inF h j && inF [s] j) (inF [s])
def readS (t : List UInt8) (h d : List Sp) (s : Sp) : List UInt8 × Bool := if ownOk t h d = true then (if haveS h s = true then (subS t s, true) else ([], false)) else ([], false)
end Go.Ev

/- Answers: the reference's fills. -/
set_option linter.unusedSimpArgs false
set_option linter.unusedVariables false
set_option maxRecDepth 100000
set_option maxHeartbeats 4000000
namespace Go.Ev
open Go.Proofs
def fillT (d : List Sp) (x : List UInt8) (lo : Nat) : Nat → Nat → List UInt8 → List UInt8
  | 0, _, s => s
  | n + 1, i, s => fillT d x lo n (i + 1) (if inF d i = true then s else overS s ((i : Int), (i : Int) + 1) ((x.take (i - lo + 1)).drop (i - lo)))
def fillOk (p : Sp) (x : List UInt8) : Bool := spOk p && (x.all okB && !ltI 48 x.length) && eqI x.length (p.2 - p.1)
def fillS (t : List UInt8) (h d : List Sp) (p : Sp) (x : List UInt8) : Out :=
  if ownOk t h d = true then
    if fillOk p x = true then
      if ownOk (fillT d x p.1.toNat (p.2 - p.1).toNat p.1.toNat t) (addS h p) d = true then rOB (fillT d x p.1.toNat (p.2 - p.1).toNat p.1.toNat t) (addS h p) d true else rOB t h d false
    else rOB t h d false
  else rOB [] [] [] false
end Go.Ev
