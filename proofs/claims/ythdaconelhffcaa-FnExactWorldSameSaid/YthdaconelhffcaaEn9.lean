/- My texts joined: EvT24, EvT14, EvT15, EvT16, EvT17, EvT18, EvT19, EvT20. No condition. -/
import Derived.Test.YthdaconelhffcaaEn8
/- Answers: the program's caches read and told. -/
set_option linter.unusedSimpArgs false
set_option linter.unusedVariables false
set_option maxRecDepth 100000
set_option maxHeartbeats 4000000
namespace Go.Ev
open Go.Proofs
theorem meetO_eq {s p : Sp} (hs : 0 ≤ s.1 ∧ s.1 < s.2 ∧ s.2 ≤ 48) (hp : 0 ≤ p.1 ∧ p.1 < p.2 ∧ p.2 ≤ 48) : meetO s p = ltI (meetS s p).1 (meetS s p).2 := by
  have hb := meet_bd hs hp
  have h1 : spOk s = true := spOk_iff.2 hs
  have h2 : spOk p = true := spOk_iff.2 hp
  simp only [meetO, h1, h2, Bool.true_and]
  rw [Bool.eq_iff_iff, spOk_iff, ltI_iff]
  omega
theorem lp_OwnPatches (m : M) (hm : m.isOwn = false) (t : List UInt8) (h d : List Sp) (p : Sp) (ht : t.length = 48) (hd : ∀ s ∈ d, 0 ≤ s.1 ∧ s.1 < s.2 ∧ s.2 ≤ 48) (hp : 0 ≤ p.1 ∧ p.1 < p.2 ∧ p.2 ≤ 48) (hdl : d.length ≤ 4000000) (a : Code) (ha : a = lp Try.f18 0) : ∀ (n i : Nat) (out : List Pt), i + n = d.length → out.length ≤ i →
    loopC E (ev E) 18 a { V := [(2, adc 2), (3, adc 3), (5, at1 5), (20, .v m false [.sl (d.map spL)]), (21, vi d.length), (22, vi i)], H := [bxm (.c 2) m (owL t h d), bx (.c 3) (spL p), ow (.c 5) [.sl (out.map ptL)]], ps := [] } =
      some (.exit 0, { V := [(2, adc 2), (3, adc 3), (5, at1 5), (20, .v m false [.sl (d.map spL)]), (21, vi d.length), (22, vi d.length), (23, vb false)], H := [bxm (.c 2) m (owL t h d), bx (.c 3) (spL p), ow (.c 5) [.sl ((out ++ patF t p (d.drop i)).map ptL)]], ps := [] })
  | 0, i, out, h0, ho => by
    rw [loopC_of _ _ _ _ ha]
    obtain rfl : i = d.length := by omega
    simp [lp, loopsOf, Try.f18, patF, hm]
  | n + 1, i, out, h0, ho => by
    have hlt : i < d.length := by omega
    have hw := wrapN i (by omega)
    have hs := hd d[i] (List.getElem_mem hlt)
    have hb := meet_bd hs hp
    have hc := fun m m' => ev_SpanMeet m m' d[i] p
    rw [meetO_eq hs hp] at hc
    have hsz : (out.length + 1) * 24 ≤ 17592186044416 := by omega
    have hsz2 : out.length + 1 ≤ 17592186044416 := by omega
    rw [List.drop_eq_getElem_cons hlt, patF]
    cases e : ltI (meetS d[i] p).1 (meetS d[i] p).2
    · have ih := lp_OwnPatches m hm t h d p ht hd hp hdl a ha n (i + 1) out (by omega) (by omega)
      push_cast at ih
      rw [loopC_of _ _ _ _ ha]
      clear ha
      simp [lp, loopsOf, Try.f18, hlt, hw, hm, hc, e]
      simpa using ih
    · have ih := lp_OwnPatches m hm t h d p ht hd hp hdl a ha n (i + 1) (out ++ [((meetS d[i] p).1, subS t (meetS d[i] p))]) (by omega) (by simp; omega)
      push_cast at ih
      rw [loopC_of _ _ _ _ ha]
      clear ha
      have e' := ltI_iff.1 e
      have q1 : (meetS d[i] p).1 ≤ ((meetS d[i] p).2.toNat : Int) := by omega
      have q2 : (meetS d[i] p).2 ≤ (48 : Int) := by omega
      have q3 : (meetS d[i] p).1.toNat ≤ (meetS d[i] p).2.toNat := by omega
      have q4 : max (meetS d[i] p).2 0 = (meetS d[i] p).2 := by omega
      simp [lp, loopsOf, Try.f18, hlt, hw, hm, hc, e, ht, hb, q1, q2, q3, q4, hsz, hsz2, Int.le_of_lt e']
      simpa [subS] using ih
def patI (t : List UInt8) (h d : List Sp) (p : Sp) : List Pt := if ownOk t h d = true then (if spOk p = true then patF t p d else []) else []
theorem ev_OwnPatches (m m' : M) (hm : m.isOwn = false) (t : List UInt8) (h d : List Sp) (p : Sp) (b : OwB t h d) :
    ev E 18 [.v m true (owL t h d), .v m' true (spL p)] = some { rs := [.v .own false [.sl ((patI t h d p).map ptL)]], outs := [] } := by
  have bt := b.t
  have bh := b.h
  have bd := b.d
  have c1 := fun m hm => ev_impl_OwnOk m hm t h d (by omega) (by omega) (by omega)
  have c2 := fun m => ev_impl_SpanOk m p
  rw [ev_fn Try.f18 rfl Try.func18 rfl rfl rfl (Nat.le_of_ble_eq_true rfl)]
  cases e1 : ownOk t h d
  · simp [c1, e1, hm, patI]
  · cases e2 : spOk p
    · simp [c1, c2, e1, e2, hm, patI]
    · obtain ⟨ht, hsh, hsd, _⟩ := ownOk_t e1
      have hl := lp_OwnPatches m hm t h d p ht (spsOk_sp hsd) (spOk_iff.1 e2) (by omega) _ rfl d.length 0 [] (by omega) (by simp)
      push_cast at hl
      simp [c1, c2, e1, e2, hm, patI]
      rw [loopC_at ?_ (by simpa using hl)]
      · simp
      · rfl
def eqP (f g : Nat → Bool) : Bool := (List.range 48).all fun j => f j == g j
theorem cellsEq_bools (f g : Nat → Bool) : ∀ (xs : List Nat), cellsEq (xs.map fun i => L.bool (f i)) (xs.map fun i => L.bool (g i)) = some (xs.all fun j => f j == g j)
  | [] => rfl
  | x :: xs => by
    have := cellsEq_bools f g xs
    simp only [List.map_cons, cellsEq, leafEq, this, List.all_cons]
theorem cellsEq_pl (f g : Nat → Bool) : cellsEq (pl f) (pl g) = some (eqP f g) := cellsEq_bools f g (List.range 48)
theorem eqP_iff {f g : Nat → Bool} : eqP f g = true ↔ ∀ j, j < 48 → f j = g j := by
  simp [eqP, List.all_eq_true]
@[simp] theorem eqAgg_places : eqAgg Try.prog 83 = true := by kernel_rfl
@[simp] theorem shape_places (f : Nat → Bool) : shapeT Try.prog 8 83 (pl f) = true := by
  have : (pl f).all (leafFits TD.bool) = true := by simp [pl, leafFits]
  simp [shapeT, this]
def haveS (h : List Sp) (s : Sp) : Bool := spsOk h && spOk s && eqP (fun j => inF h j && inF [s] j) (inF [s])
theorem ev_SpansHave (m m' : M) (h : List Sp) (s : Sp) (hb : h.length ≤ 1099511627776) : ev E 60 [.v m false [.sl (h.map spL)], .v m' true (spL s)] = some (rB (haveS h s)) := by
  have c1 := fun m => ev_impl_SpansOk m h hb
  have c2 := fun m => ev_impl_SpanOk m s
  rw [ev_fn Try.f60 rfl Try.func60 rfl rfl rfl (Nat.le_of_ble_eq_true rfl)]
  cases e1 : spsOk h
  · simp [c1, e1, haveS]
  · cases e2 : spOk s
    · simp [c1, c2, e1, e2, haveS]
    · have hs := spOk_iff.1 e2
      have c3 : ∀ m, ev E 42 [.v m false [.sl (h.map spL)]] = some { rs := [.v .own true (pl (inF h))], outs := [] } := fun m => ev_impl_of m h (by omega) fun s hs => by have := spsOk_sp e1 s hs; omega
      have c4 : ∀ m, ev E 42 [.v m false [.sl [spL s]]] = some { rs := [.v .own true (pl (inF [s]))], outs := [] } := fun m => ev_impl_of m [s] (by simp) fun q hq => by simp only [List.mem_singleton] at hq; subst hq; omega
      have c5 := fun m m' => ev_meet m m' (inF h) (inF [s])
      simp [-shapeT, c1, c2, c3, c4, c5, e1, e2, haveS, cellsEq_pl]
def readS (t : List UInt8) (h d : List Sp) (s : Sp) : List UInt8 × Bool := if ownOk t h d = true then (if haveS h s = true then (subS t s, true) else ([], false)) else ([], false)
theorem ev_OwnRead (m m' : M) (hm : m.isOwn = false) (t : List UInt8) (h d : List Sp) (s : Sp) (b : OwB t h d) :
    ev E 22 [.v m true (owL t h d), .v m' true (spL s)] = some { rs := [.v .own false [.str (readS t h d s).1], .v .own false [.bool (readS t h d s).2]], outs := [] } := by
  have bt := b.t
  have bh := b.h
  have bd := b.d
  have c1 := fun m hm => ev_impl_OwnOk m hm t h d (by omega) (by omega) (by omega)
  have c2 := fun m m' => ev_SpansHave m m' h s (by omega)
  rw [ev_fn Try.f22 rfl Try.func22 rfl rfl rfl (Nat.le_of_ble_eq_true rfl)]
  cases e1 : ownOk t h d
  · simp [c1, e1, hm, readS]
  · cases e2 : haveS h s
    · simp [c1, c2, e1, e2, hm, readS]
    · obtain ⟨ht, hsh, hsd, _⟩ := ownOk_t e1
      have hs : 0 ≤ s.1 ∧ s.1 < s.2 ∧ s.2 ≤ 48 := by
        simp only [haveS, Bool.and_eq_true] at e2
        exact spOk_iff.1 e2.1.2
      have q1 : s.1 ≤ (s.2.toNat : Int) := by omega
      have q3 : s.1.toNat ≤ s.2.toNat := by omega
      have q4 : max s.2 0 = s.2 := by omega
      have q5 : 0 ≤ s.2 := by omega
      have q6 : s.1 ≤ s.2 := by omega
      simp [c1, c2, e1, e2, hm, readS, ht, hs, q1, q3, q4, q5, q6, subS]
theorem lp_wpOwnKeeps (m m' : M) (hm : m.isOwn = false) (hm' : m'.isOwn = false) (t : List UInt8) (h d : List Sp) (t' : List UInt8) (h' d' : List Sp) (p : Sp) (b : OwB t h d) (b' : OwB t' h' d')
    (hk : ∀ i : Nat, i < 48 → ¬ (p.1 ≤ i ∧ (i : Int) < p.2) → readS t h d ((i : Int), (i : Int) + 1) = readS t' h' d' ((i : Int), (i : Int) + 1) ∧ inF d i = inF d' i)
    (a : Code) (ha : a = lp Try.f23 0) : ∀ (n i : Nat), i + n = 48 →
    loopC E (ev E) 23 a { V := [(3, adc 3), (4, adc 4), (5, adc 5), (7, vi i)], H := [bxm (.c 3) m (owL t h d), bxm (.c 4) m' (owL t' h' d'), bx (.c 5) (spL p)], ps := [] } =
      some (.exit 0, { V := [(3, adc 3), (4, adc 4), (5, adc 5), (7, vi 48), (13, vb false)], H := [bxm (.c 3) m (owL t h d), bxm (.c 4) m' (owL t' h' d'), bx (.c 5) (spL p)], ps := [] })
  | 0, i, h0 => by
    rw [loopC_of _ _ _ _ ha]
    obtain rfl : i = 48 := by omega
    simp [lp, loopsOf, Try.f23, hm, hm']
  | n + 1, i, h0 => by
    have hI : (i : Int) < 48 := by omega
    have hw := wrapN i (by omega)
    have bd := b.d
    have bd' := b'.d
    have ih := lp_wpOwnKeeps m m' hm hm' t h d t' h' d' p b b' hk a ha n (i + 1) (by omega)
    push_cast at ih
    rw [loopC_of _ _ _ _ ha]
    clear ha
    by_cases hin : p.1 ≤ i ∧ (i : Int) < p.2
    · simp [lp, loopsOf, Try.f23, hI, hw, hm, hm', hin]
      simpa using ih
    · obtain ⟨r1, r2⟩ := hk i (by omega) hin
      have c1 := fun m => ev_wpAt m (i : Int) (by omega)
      have c2 := fun m m' hm => ev_OwnRead m m' hm t h d ((i : Int), (i : Int) + 1) b
      have c3 := fun m m' hm => ev_OwnRead m m' hm t' h' d' ((i : Int), (i : Int) + 1) b'
      rw [← r1] at c3
      have c4 : ∀ m m', ev E 62 [.v m false [.sl (d.map spL)], .v m' false [.int .i64 i]] = some (rB (inF d i)) := fun m m' => ev_laws_wpIn m m' d i (by omega)
      have c5 : ∀ m m', ev E 62 [.v m false [.sl (d'.map spL)], .v m' false [.int .i64 i]] = some (rB (inF d i)) := fun m m' => by rw [r2]; exact ev_laws_wpIn m m' d' i (by omega)
      generalize readS t h d ((i : Int), (i : Int) + 1) = r at c2 c3
      simp only [spL] at c1 c2 c3
      cases e1 : ltI i p.1
      · have e2 : ltI i p.2 = false := by
          have := ltI_not.1 e1
          rw [ltI_not]
          omega
        simp [lp, loopsOf, Try.f23, hI, hw, hm, hm', e1, e2, c1, c2, c3, c4, c5]
        simpa using ih
      · simp [lp, loopsOf, Try.f23, hI, hw, hm, hm', e1, c1, c2, c3, c4, c5]
        simpa using ih
theorem ev_wpOwnKeeps (m m' m'' : M) (hm : m.isOwn = false) (hm' : m'.isOwn = false) (t : List UInt8) (h d : List Sp) (t' : List UInt8) (h' d' : List Sp) (p : Sp) (b : OwB t h d) (b' : OwB t' h' d')
    (hk : ∀ i : Nat, i < 48 → ¬ (p.1 ≤ i ∧ (i : Int) < p.2) → readS t h d ((i : Int), (i : Int) + 1) = readS t' h' d' ((i : Int), (i : Int) + 1) ∧ inF d i = inF d' i) :
    ev E 23 [.v m true (owL t h d), .v m' true (owL t' h' d'), .v m'' true (spL p)] = some (rB true) := by
  have hl := lp_wpOwnKeeps m m' hm hm' t h d t' h' d' p b b' hk _ rfl 48 0 (by omega)
  push_cast at hl
  rw [ev_fn Try.f23 rfl Try.func23 rfl rfl rfl (Nat.le_of_ble_eq_true rfl)]
  simp [hm, hm']
  rw [loopC_at ?_ hl]
  · simp
  · rfl
end Go.Ev

/- Answers: the reference's fills. -/
set_option linter.unusedSimpArgs false
set_option linter.unusedVariables false
set_option maxRecDepth 100000
set_option maxHeartbeats 4000000
namespace Go.Ev
open Go.Proofs
def fillT (d : List Sp) (x : List UInt8) (lo : Nat) : Nat → Nat → List UInt8 → List UInt8
  | 0, _, s => s
  | n + 1, i, s => fillT d x lo n (i + 1) (if inF d i = true then s else overS s ((i : Int), (i : Int) + 1) ((x.take (i - lo + 1)).drop (i - lo)))
theorem lp_sFill (m md : M) (hm : m.isOwn = false) (t : List UInt8) (h d : List Sp) (x : List UInt8) (lo hi : Nat) (hlh : lo ≤ hi) (hhi : hi ≤ 48) (hx : x.length = hi - lo) (hb : d.length ≤ 1099511627776) (a : Code) (ha : a = lp Try.f120 0) : ∀ (n i : Nat) (m0 : M) (s : List UInt8), i + n = hi → lo ≤ i → s.length = 48 →
    ∃ m', loopC E (ev E) 120 a { V := [(2, .v md false [.str x]), (3, adc 3), (4, adc 4), (6, adc 6), (8, .v m0 false [.str s]), (9, vi i)], H := [bxm (.c 3) m (owL t h d), bx (.c 4) [.int .i64 lo, .int .i64 hi], bx (.c 6) [.str [], .sl [], .sl []]], ps := [] } =
      some (.exit 0, { V := [(2, .v md false [.str x]), (3, adc 3), (4, adc 4), (6, adc 6), (8, .v m' false [.str (fillT d x lo n i s)]), (9, vi hi), (41, vb false)], H := [bxm (.c 3) m (owL t h d), bx (.c 4) [.int .i64 lo, .int .i64 hi], bx (.c 6) [.str [], .sl [], .sl []]], ps := [] }) ∧ (fillT d x lo n i s).length = 48
  | 0, i, m0, s, h0, h1, hs => by
    refine ⟨m0, ?_, by simpa [fillT] using hs⟩
    rw [loopC_of _ _ _ _ ha]
    obtain rfl : i = hi := by omega
    simp [lp, loopsOf, Try.f120, fillT, hm]
  | n + 1, i, m0, s, h0, h1, hs => by
    have hlt : i < hi := by omega
    have hw := wrapN i (by omega)
    have c1 : ∀ m m', ev E 56 [.v m false [.sl (d.map spL)], .v m' false [.int .i64 i]] = some (rB (inF d i)) := fun m m' => ev_spec_l1In m m' d i hb
    cases e : inF d i
    · have hol := overS_len s ((x.take (i - lo + 1)).drop (i - lo)) ((i : Int), (i : Int) + 1) (by dsimp only; omega) (by dsimp only; omega) (by dsimp only; omega)
      have hxl : ((x.take (i - lo + 1)).drop (i - lo)).length = 1 := by simp; omega
      obtain ⟨m', ih, hl⟩ := lp_sFill m md hm t h d x lo hi hlh hhi hx hb a ha n (i + 1) .own (overS s ((i : Int), (i : Int) + 1) ((x.take (i - lo + 1)).drop (i - lo))) (by omega) (by omega) (by rw [hol, hxl]; dsimp only; omega)
      refine ⟨m', ?_, by simpa [fillT, e] using hl⟩
      push_cast at ih
      rw [loopC_of _ _ _ _ ha]
      clear ha
      have w2 : IntKind.i64.wrap ((i : Int) - lo) = ((i - lo : Nat) : Int) := by rw [wrap64] <;> omega
      have w3 : IntKind.i64.wrap (((i - lo : Nat) : Int) + 1) = ((i - lo + 1 : Nat) : Int) := by rw [wrap64] <;> omega
      have c2 := fun m m' m'' => ev_l6Over m m' m'' s ((x.take (i - lo + 1)).drop (i - lo)) ((i : Int), (i : Int) + 1) (by dsimp only; omega) (by dsimp only; omega) (by dsimp only; omega) (by dsimp only; omega) (by omega) (by omega)
      simp only [spL] at c2
      generalize hj : i - lo = j at *
      have q1 : (j : Int) + 1 ≤ (x.length : Int) := by omega
      have q2 : j + 1 ≤ x.length := by omega
      have q3 : (0 : Int) ≤ (j : Int) + 1 := by omega
      have q4 : (j : Int) ≤ (j : Int) + 1 := by omega
      simp [lp, loopsOf, Try.f120, hlt, hw, hm, c1, e, w2, w3, fillT, q1, q2, q3, q4, c2]
      rw [hj]
      simpa using ih
    · obtain ⟨m', ih, hl⟩ := lp_sFill m md hm t h d x lo hi hlh hhi hx hb a ha n (i + 1) m0 s (by omega) (by omega) hs
      refine ⟨m', ?_, by simpa [fillT, e] using hl⟩
      push_cast at ih
      rw [loopC_of _ _ _ _ ha]
      clear ha
      simp [lp, loopsOf, Try.f120, hlt, hw, hm, c1, e, fillT]
      simpa using ih
def fillOk (p : Sp) (x : List UInt8) : Bool := spOk p && (x.all okB && !ltI 48 x.length) && eqI x.length (p.2 - p.1)
def fillS (t : List UInt8) (h d : List Sp) (p : Sp) (x : List UInt8) : Out :=
  if ownOk t h d = true then
    if fillOk p x = true then
      if ownOk (fillT d x p.1.toNat (p.2 - p.1).toNat p.1.toNat t) (addS h p) d = true then rOB (fillT d x p.1.toNat (p.2 - p.1).toNat p.1.toNat t) (addS h p) d true else rOB t h d false
    else rOB t h d false
  else rOB [] [] [] false
theorem ev_spec_OwnFill (m m' m'' : M) (hm : m.isOwn = false) (t : List UInt8) (h d : List Sp) (p : Sp) (x : List UInt8) (b : OwB t h d) (hx : x.length ≤ 4000000) :
    ev E 120 [.v m true (owL t h d), .v m' true (spL p), .v m'' false [.str x]] = some (fillS t h d p x) := by
  have bt := b.t
  have bh := b.h
  have bd := b.d
  have c1 := fun m hm => ev_spec_OwnOk m hm t h d (by omega) (by omega) (by omega)
  have c2 := fun m => ev_spec_SpanOk m p
  have c3 := fun m hm => ev_l6Copy m hm t h d (by omega) (by omega)
  have c4 := fun m => ev_spec_TextOk m x (by omega)
  rw [ev_fn Try.f120 rfl Try.func120 rfl rfl rfl (Nat.le_of_ble_eq_true rfl)]
  cases e1 : ownOk t h d
  · simp [c1, e1, hm, fillS]
  · obtain ⟨ht, hsh, hsd, _⟩ := ownOk_t e1
    cases e2 : spOk p
    · simp [c1, c2, c3, e1, e2, hm, fillS, fillOk]
    · have hp := spOk_iff.1 e2
      cases e4 : (x.all okB && !ltI 48 x.length)
      · simp [c1, c2, c3, c4, e1, e2, e4, hm, fillS, fillOk, -Bool.and_eq_false_imp, -List.all_eq_true, -List.all_eq_false, -Bool.and_eq_true]
      · have hw : IntKind.i64.wrap (p.2 - p.1) = p.2 - p.1 := by rw [wrap64] <;> omega
        cases e5 : eqI x.length (p.2 - p.1)
        · simp [c1, c2, c3, c4, e1, e2, e4, e5, hw, hm, fillS, fillOk, -Bool.and_eq_false_imp, -List.all_eq_true, -List.all_eq_false, -Bool.and_eq_true]
        · obtain ⟨lo', hi'⟩ := p
          obtain ⟨lo, rfl⟩ : ∃ lo : Nat, lo' = lo := ⟨lo'.toNat, by dsimp only at hp; omega⟩
          obtain ⟨hi, rfl⟩ : ∃ hi : Nat, hi' = hi := ⟨hi'.toNat, by dsimp only at hp; omega⟩
          have e5' := eqI_iff.1 e5
          dsimp only at hp e5' hw
          obtain ⟨mm, hl, hlen⟩ := lp_sFill m m'' hm t h d x lo hi (by omega) (by omega) (by omega) (by omega) _ rfl (hi - lo) lo .ro t (by omega) (by omega) ht
          have hT : fillT d x ((lo : Int), (hi : Int)).1.toNat (((lo : Int), (hi : Int)).2 - ((lo : Int), (hi : Int)).1).toNat ((lo : Int), (hi : Int)).1.toNat t = fillT d x lo (hi - lo) lo t := by
            have : ((hi : Int) - (lo : Int)).toNat = hi - lo := by omega
            simp only [this, wrap_i]
          have c5 : ∀ m m', ev E 48 [.v m false [.sl (h.map spL)], .v m' true [.int .i64 lo, .int .i64 hi]] = some { rs := [.v .own false [.sl ((addS h ((lo : Int), (hi : Int))).map spL)]], outs := [] } := fun m m' => ev_spec_l1Add m m' h (lo, hi) (by omega) (by dsimp only; omega) (by dsimp only; omega) (by dsimp only; omega)
          have hl1 := addS_len h ((lo : Int), (hi : Int))
          rw [fillS, hT]
          generalize htt : fillT d x lo (hi - lo) lo t = t' at *
          have c8 := fun m m' hm hm' => ev_l6Put m m' hm hm' t h d t' (addS h ((lo : Int), (hi : Int))) d (by omega) (by omega) (by omega) (by omega) (by omega)
          have f1 : fillOk ((lo : Int), (hi : Int)) x = true := by simp only [fillOk, e2, e4, e5]; rfl
          rw [if_pos e1, if_pos f1]
          have c2' : ∀ m, ev E 130 [.v m true [.int .i64 lo, .int .i64 hi]] = some (rB true) := fun m => by have := c2 m; rw [e2] at this; exact this
          simp [c1, c2', c3, c4, e1, e4, e5, hw, hm, -Bool.and_eq_false_imp, -List.all_eq_true, -List.all_eq_false, -Bool.and_eq_true]
          rw [loopC_at ?_ hl]
          · simp [c5, hm]
            rw [c8 m m hm hm]
            cases e7 : ownOk t' (addS h ((lo : Int), (hi : Int))) d <;> simp
          · rfl
end Go.Ev

/- Draws: a number, one of a list. -/
set_option linter.unusedSimpArgs false
set_option linter.unusedVariables false
set_option maxRecDepth 100000
set_option maxHeartbeats 4000000
namespace Go.Ev
open Go.Proofs
abbrev rdL (bs : List UInt8) (p : Nat) : List L := [.sl (rowsOfBytes bs), .int .i64 p]
abbrev rdA (bs : List UInt8) (p : Nat) : Arg := .ptr .ro (rdL bs p)
abbrev rdO (bs : List UInt8) (p : Nat) : M × List L := (.ro, rdL bs p)
structure RdB (bs : List UInt8) (p : Nat) : Prop where
  b : bs.length ≤ 2000
  p : p ≤ 1099511627776
theorem rows_get {bs : List UInt8} {i : Nat} (h : i < bs.length) : (rowsOfBytes bs)[i]? = some [.int .u8 bs[i].toNat] := by simp [rowsOfBytes, h]
@[simp] theorem rows_len (bs : List UInt8) : (rowsOfBytes bs).length = bs.length := by simp [rowsOfBytes]
@[simp] theorem rows_getE {bs : List UInt8} {i : Nat} (h : i < (rowsOfBytes bs).length) : (rowsOfBytes bs)[i] = [.int .u8 (bs[i]'(by simpa using h)).toNat] := by simp [rowsOfBytes]
theorem xor64 (a b : Nat) (ha : a < 4611686018427387904) (hb : b < 4611686018427387904) : IntKind.i64.wrap ((BitVec.ofInt IntKind.i64.bits a ^^^ BitVec.ofInt IntKind.i64.bits b).toNat : Int) = ((a ^^^ b : Nat) : Int) := by
  have h1 : (BitVec.ofInt IntKind.i64.bits a ^^^ BitVec.ofInt IntKind.i64.bits b).toNat = a ^^^ b := by
    have e : IntKind.i64.bits = 64 := rfl
    rw [e, BitVec.toNat_xor, BitVec.toNat_ofInt, BitVec.toNat_ofInt]
    congr 1 <;> omega
  rw [h1]
  have h2 : a ^^^ b < 2 ^ 62 := Nat.xor_lt_two_pow (by omega) (by omega)
  rw [wrap64]
  omega
theorem ev_pick (m : M) (bs : List UInt8) (p : Nat) (n : Int) (b : RdB bs p) (hn : n ≤ 1099511627776) :
    ∃ k : Nat, (1 ≤ n → (k : Int) < n) ∧ ev E 112 [rdA bs p, .v m false [.int .i64 n]] = some { rs := [.v .own false [.int .i64 k]], outs := [rdO bs (p + 1)] } := by
  have bb := b.b
  have bp := b.p
  have hw := wrapN p (by omega)
  have hw2 : IntKind.i64.wrap (p : Int) = p := by rw [wrap64]; omega
  cases e1 : ltI n 1
  · have hn1 := ltI_not.1 e1
    obtain ⟨N, rfl⟩ : ∃ N : Nat, n = N := ⟨n.toNat, by omega⟩
    have hN0 : eqI (N : Int) 0 = false := eqI_not.2 (by omega)
    by_cases h0 : bs.length = 0
    · refine ⟨0, fun _ => by omega, ?_⟩
      rw [ev_fn Try.f112 rfl Try.func112 rfl rfl rfl (Nat.le_of_ble_eq_true rfl)]
      simp [hw, e1, h0]
    · have e2 : eqI bs.length 0 = false := eqI_not.2 (by omega)
      by_cases hlt : p < bs.length
      · refine ⟨bs[p].toNat % N, fun h => by
          have : bs[p].toNat % N < N := Nat.mod_lt _ (by omega)
          omega, ?_⟩
        have hbl : bs[p].toNat < 256 := bs[p].toNat_lt
        have w3 : IntKind.i64.wrap (bs[p].toNat : Int) = bs[p].toNat := by rw [wrap64]; omega
        have w4 : ((bs[p].toNat : Nat) : Int).tmod (N : Int) = ((bs[p].toNat % N : Nat) : Int) := (Int.ofNat_tmod _ _).symm
        rw [ev_fn Try.f112 rfl Try.func112 rfl rfl rfl (Nat.le_of_ble_eq_true rfl)]
        simp [hw, hw2, e1, e2, hlt, w3, w4, hN0]
      · have hlt' : bs.length ≤ p := by omega
        obtain ⟨q1, hq1⟩ : ∃ q, q = p % bs.length := ⟨_, rfl⟩
        obtain ⟨q2, hq2⟩ : ∃ q, q = (p * 7 + 3) % bs.length := ⟨_, rfl⟩
        obtain ⟨q3, hq3⟩ : ∃ q, q = p / bs.length := ⟨_, rfl⟩
        have hi : q1 < bs.length := by rw [hq1]; exact Nat.mod_lt _ (by omega)
        have hj : q2 < bs.length := by rw [hq2]; exact Nat.mod_lt _ (by omega)
        have hd : q3 ≤ p := by rw [hq3]; exact Nat.div_le_self _ _
        obtain ⟨A, hA⟩ : ∃ A, bs[q1].toNat = A := ⟨_, rfl⟩
        obtain ⟨B, hB⟩ : ∃ B, bs[q2].toNat = B := ⟨_, rfl⟩
        have hAl : A < 256 := by rw [← hA]; exact UInt8.toNat_lt _
        have hBl : B < 256 := by rw [← hB]; exact UInt8.toNat_lt _
        obtain ⟨X, hX⟩ : ∃ X, X = A * 131 + B * 1117 + p * 29 + q3 * 53 := ⟨_, rfl⟩
        obtain ⟨q4, hq4⟩ : ∃ q, q = X / 64 := ⟨_, rfl⟩
        have hq4l : q4 ≤ X := by rw [hq4]; exact Nat.div_le_self _ _
        obtain ⟨Y, hY⟩ : ∃ Y, Y = X ^^^ q4 := ⟨_, rfl⟩
        obtain ⟨Z, hZ⟩ : ∃ Z, Z = Y % N := ⟨_, rfl⟩
        refine ⟨Z, fun h => by
          have : Y % N < N := Nat.mod_lt _ (by omega)
          omega, ?_⟩
        have hx := xor64 X q4 (by omega) (by omega)
        rw [← hY] at hx
        have t1 : ((p : Nat) : Int).tmod (bs.length : Int) = (q1 : Int) := by rw [hq1]; exact (Int.ofNat_tmod _ _).symm
        have t2 : IntKind.i64.wrap ((p : Int) * 7) = (p : Int) * 7 := by rw [wrap64]; omega
        have t3 : IntKind.i64.wrap ((p : Int) * 7 + 3) = (p : Int) * 7 + 3 := by rw [wrap64]; omega
        have t4 : ((p : Int) * 7 + 3).tmod (bs.length : Int) = (q2 : Int) := by rw [hq2]; exact (Int.ofNat_tmod (p * 7 + 3) _).symm
        have t5 : IntKind.i64.wrap (A : Int) = A := by rw [wrap64]; omega
        have t6 : IntKind.i64.wrap (B : Int) = B := by rw [wrap64]; omega
        have t7 : IntKind.i64.wrap ((A : Int) * 131) = (A : Int) * 131 := by rw [wrap64]; omega
        have t8 : IntKind.i64.wrap ((B : Int) * 1117) = (B : Int) * 1117 := by rw [wrap64]; omega
        have t9 : IntKind.i64.wrap ((A : Int) * 131 + (B : Int) * 1117) = (A : Int) * 131 + (B : Int) * 1117 := by rw [wrap64]; omega
        have u1 : IntKind.i64.wrap ((p : Int) * 29) = (p : Int) * 29 := by rw [wrap64]; omega
        have u2 : IntKind.i64.wrap ((A : Int) * 131 + (B : Int) * 1117 + (p : Int) * 29) = (A : Int) * 131 + (B : Int) * 1117 + (p : Int) * 29 := by rw [wrap64]; omega
        have u3 : ((p : Nat) : Int).tdiv (bs.length : Int) = (q3 : Int) := by rw [hq3]; exact (Int.ofNat_tdiv _ _).symm
        have u4 : IntKind.i64.wrap (q3 : Int) = q3 := by rw [wrap64]; omega
        have u5 : IntKind.i64.wrap ((q3 : Int) * 53) = (q3 : Int) * 53 := by rw [wrap64]; omega
        have u6 : IntKind.i64.wrap ((A : Int) * 131 + (B : Int) * 1117 + (p : Int) * 29 + (q3 : Int) * 53) = (X : Int) := by rw [wrap64] <;> omega
        have u7 : ((X : Nat) : Int).tdiv 64 = (q4 : Int) := by rw [hq4]; exact (Int.ofNat_tdiv X 64).symm
        have u8 : IntKind.i64.wrap (q4 : Int) = q4 := by rw [wrap64]; omega
        have u9 : ((Y : Nat) : Int).tmod (N : Int) = (Z : Int) := by rw [hZ]; exact (Int.ofNat_tmod _ _).symm
        have hx2 : IntKind.i64.wrap ((X ^^^ q4 : Nat) : Int) = (Y : Int) := by
          have e : (BitVec.ofInt IntKind.i64.bits X ^^^ BitVec.ofInt IntKind.i64.bits q4).toNat = X ^^^ q4 := by
            have e : IntKind.i64.bits = 64 := rfl
            rw [e, BitVec.toNat_xor, BitVec.toNat_ofInt, BitVec.toNat_ofInt]
            congr 1 <;> omega
          rw [← e]; exact hx
        have m1 : X % 2 ^ IntKind.i64.bits = X := Nat.mod_eq_of_lt (by show X < 2 ^ 64; omega)
        have m2 : q4 % 2 ^ IntKind.i64.bits = q4 := Nat.mod_eq_of_lt (by show q4 < 2 ^ 64; omega)
        rw [ev_fn Try.f112 rfl Try.func112 rfl rfl rfl (Nat.le_of_ble_eq_true rfl)]
        simp [m1, m2, hw, hw2, e1, e2, hlt', hN0, hi, hj, hA, hB, t1, t2, t3, t4, t5, t6, t7, t8, t9, u1, u2, u3, u4, u5, u6, u7, u8, u9, hx, hx2, eqI_false]
  · refine ⟨0, fun h => by have := ltI_iff.1 e1; omega, ?_⟩
    rw [ev_fn Try.f112 rfl Try.func112 rfl rfl rfl (Nat.le_of_ble_eq_true rfl)]
    simp [hw, e1]
theorem ev_num (m : M) (bs : List UInt8) (p : Nat) (xs : List Int) (b : RdB bs p) (hx : 0 < xs.length) (hx2 : xs.length ≤ 4000000) :
    ∃ v ∈ xs, ev E 117 [rdA bs p, .v m false [.sl (xs.map fun x => [L.int .i64 x])]] = some { rs := [.v .own false [.int .i64 v]], outs := [rdO bs (p + 1)] } := by
  obtain ⟨k, hk, hc⟩ := ev_pick .ro bs p xs.length b (by omega)
  have hk := hk (by omega)
  have hkl : k < xs.length := by omega
  refine ⟨xs[k], List.getElem_mem hkl, ?_⟩
  rw [ev_fn Try.f117 rfl Try.func117 rfl rfl rfl (Nat.le_of_ble_eq_true rfl)]
  simp [hc, hkl]
theorem ev_ofS (m : M) (bs : List UInt8) (p : Nat) (xs : List (List UInt8)) (b : RdB bs p) (hx : 0 < xs.length) (hx2 : xs.length ≤ 4000000) :
    ∃ v ∈ xs, ev E 116 [rdA bs p, .v m false [.sl (xs.map fun x => [L.str x])]] = some { rs := [.v .own false [.str v]], outs := [rdO bs (p + 1)] } := by
  obtain ⟨k, hk, hc⟩ := ev_pick .ro bs p xs.length b (by omega)
  have hk := hk (by omega)
  have hkl : k < xs.length := by omega
  refine ⟨xs[k], List.getElem_mem hkl, ?_⟩
  rw [ev_fn Try.f116 rfl Try.func116 rfl rfl rfl (Nat.le_of_ble_eq_true rfl)]
  simp [hc, hkl]
end Go.Ev

/- Draws: parts and bytes. -/
set_option linter.unusedSimpArgs false
set_option linter.unusedVariables false
set_option maxRecDepth 100000
set_option maxHeartbeats 4000000
namespace Go.Ev
open Go.Proofs
theorem RdB.add {bs : List UInt8} {p q : Nat} (b : RdB bs p) (h : p + q ≤ 1099511627776) : RdB bs (p + q) := ⟨b.b, h⟩
theorem ev_l1Span (bs : List UInt8) (p : Nat) (b : RdB bs p) (hp : p + 2 ≤ 1099511627776) :
    ∃ s : Sp, (0 ≤ s.1 ∧ s.1 < s.2 ∧ s.2 ≤ 48) ∧ ev E 115 [rdA bs p] = some { rs := [.v .own true (spL s)], outs := [rdO bs (p + 2)] } := by
  obtain ⟨k, hk, c1⟩ := ev_pick .ro bs p 47 b (by omega)
  have hk := hk (by omega)
  obtain ⟨v, hv, c2⟩ := ev_num .tn bs (p + 1) [0, 1, 3, 5, 9, 20, 47] (b.add (by omega)) (by simp) (by simp)
  have hv2 : 0 ≤ v ∧ v ≤ 47 := by
    simp at hv
    omega
  have w1 : IntKind.i64.wrap ((k : Int) + 1) = (k : Int) + 1 := by rw [wrap64]; omega
  have w2 : IntKind.i64.wrap ((k : Int) + 1 + v) = (k : Int) + 1 + v := by rw [wrap64]; omega
  have c3 := fun m m' => ev_spec_l1Min m m' 48 ((k : Int) + 1 + v)
  refine ⟨((k : Int), minI 48 ((k : Int) + 1 + v)), ⟨by dsimp only; omega, ?_, ?_⟩, ?_⟩
  · dsimp only [minI]; split <;> omega
  · dsimp only [minI]; split <;> rename_i h <;> simp [ltI] at h <;> omega
  · simp at c2
    rw [ev_fn Try.f115 rfl Try.func115 rfl rfl rfl (Nat.le_of_ble_eq_true rfl)]
    simp [c1, c2, c3, w1, w2]
end Go.Ev

/- Draws: bytes. -/
set_option linter.unusedSimpArgs false
set_option linter.unusedVariables false
set_option maxRecDepth 100000
set_option maxHeartbeats 4000000
namespace Go.Ev
open Go.Proofs
abbrev adp (i : Nat) : AV := .ad (.p i) 0 0 0 []
abbrev rdH (bs : List UInt8) (p : Nat) : Root × HC := bxm (.p 0) .ro (rdL bs p)
theorem lp_l6Fit (bs : List UInt8) (hb : bs.length ≤ 2000) (lo hi : Int) (h1 : 0 ≤ lo) (h2 : lo ≤ hi) (h3 : hi ≤ 48) (a : Code) (ha : a = lp Try.f121 0) : ∀ (n p : Nat) (m0 : M) (out : List UInt8), out.length + n = (hi - lo).toNat → p + n ≤ 1099511627776 →
    ∃ m' x, x.length = (hi - lo).toNat ∧ loopC E (ev E) 121 a { V := [(0, adp 0), (3, adc 3), (5, .v m0 false [.str out])], H := [rdH bs p, bx (.c 3) [.int .i64 lo, .int .i64 hi]], ps := [0] } =
      some (.exit 0, { V := [(0, adp 0), (3, adc 3), (5, .v m' false [.str x]), (13, vb false)], H := [rdH bs (p + n), bx (.c 3) [.int .i64 lo, .int .i64 hi]], ps := [0] })
  | 0, p, m0, out, h, hp => by
    refine ⟨m0, out, by omega, ?_⟩
    have hw : IntKind.i64.wrap (hi - lo) = hi - lo := by rw [wrap64]; omega
    have hle : hi - lo ≤ (out.length : Int) := by omega
    rw [loopC_of _ _ _ _ ha]
    simp [lp, loopsOf, Try.f121, hw, hle]
  | n + 1, p, m0, out, h, hp => by
    obtain ⟨v, hv, c⟩ := ev_ofS .tn bs p [[97], [98], [99], [55], [46]] ⟨hb, by omega⟩ (by simp) (by simp)
    have hvl : v.length = 1 := by simp at hv; rcases hv with rfl | rfl | rfl | rfl | rfl <;> rfl
    obtain ⟨m', x, hx, ih⟩ := lp_l6Fit bs hb lo hi h1 h2 h3 a ha n (p + 1) .ro (out ++ v) (by simp [hvl]; omega) (by omega)
    refine ⟨m', x, hx, ?_⟩
    have hw : IntKind.i64.wrap (hi - lo) = hi - lo := by rw [wrap64]; omega
    have hlt : (out.length : Int) < hi - lo := by omega
    have hsz : out.length + v.length ≤ 4611686018427387904 := by omega
    simp at c
    rw [loopC_of _ _ _ _ ha]
    clear ha
    simp [lp, loopsOf, Try.f121, hw, hlt, c, hsz]
    simp only [show p + 1 + n = p + (n + 1) by omega] at ih
    simpa using ih
theorem ev_l6Fit (bs : List UInt8) (p : Nat) (m : M) (s : Sp) (b : RdB bs p) (h1 : 0 ≤ s.1) (h2 : s.1 ≤ s.2) (h3 : s.2 ≤ 48) (hp : p + 48 ≤ 1099511627776) :
    ∃ x : List UInt8, x.length = (s.2 - s.1).toNat ∧ ev E 121 [rdA bs p, .v m true (spL s)] = some { rs := [.v .own false [.str x]], outs := [rdO bs (p + (s.2 - s.1).toNat)] } := by
  obtain ⟨m', x, hx, hl⟩ := lp_l6Fit bs b.b s.1 s.2 h1 h2 h3 _ rfl (s.2 - s.1).toNat p .ro [] (by simp) (by omega)
  refine ⟨x, hx, ?_⟩
  rw [ev_fn Try.f121 rfl Try.func121 rfl rfl rfl (Nat.le_of_ble_eq_true rfl)]
  simp
  rw [loopC_at ?_ hl]
  · simp
  · rfl
theorem lp_l2Text (mm : M) (bs : List UInt8) (hb : bs.length ≤ 2000) (a : Code) (ha : a = lp Try.f123 0) : ∀ (n p : Nat) (m0 m1 : M) (out : List UInt8), n ≤ 100 → out.length + n ≤ 1000 → p + n ≤ 1099511627776 →
    ∃ m' m'' x, x.length = out.length + n ∧ loopC E (ev E) 123 a { V := [(0, adp 0), (5, .v m0 false [.str out]), (6, .v m1 false [.int .i64 n])], H := [rdH bs p], ps := [0] } =
      some (.exit 0, { V := [(0, adp 0), (5, .v m' false [.str x]), (6, .v m'' false [.int .i64 0]), (12, vb false)], H := [rdH bs (p + n)], ps := [0] })
  | 0, p, m0, m1, out, hn, ho, hp => by
    refine ⟨m0, m1, out, by omega, ?_⟩
    rw [loopC_of _ _ _ _ ha]
    simp [lp, loopsOf, Try.f123]
  | n + 1, p, m0, m1, out, hn, ho, hp => by
    obtain ⟨v, hv, c⟩ := ev_ofS .tn bs p [[97], [98], [99], [55], [46], [122]] ⟨hb, by omega⟩ (by simp) (by simp)
    have hvl : v.length = 1 := by simp at hv; rcases hv with rfl | rfl | rfl | rfl | rfl | rfl <;> rfl
    have hsz : out.length + v.length ≤ 4611686018427387904 := by omega
    have hol : (out ++ v).length = out.length + 1 := by simp [hvl]
    obtain ⟨m', m'', x, hx, ih⟩ := lp_l2Text mm bs hb a ha n (p + 1) .ro .ro (out ++ v) (by omega) (by omega) (by omega)
    refine ⟨m', m'', x, by omega, ?_⟩
    have hw : IntKind.i64.wrap (n : Int) = n := by rw [wrap64]; omega
    have hlt : (0 : Int) < (n : Int) + 1 := by omega
    simp at c
    rw [loopC_of _ _ _ _ ha]
    clear ha
    simp [lp, loopsOf, Try.f123, hw, hlt, c, hsz]
    simp only [show p + 1 + n = p + (n + 1) by omega] at ih
    simpa using ih
theorem ev_l2Text (m : M) (bs : List UInt8) (p : Nat) (N : Nat) (hN : N ≤ 90) (b : RdB bs p) (hp : p + 100 ≤ 1099511627776) :
    ∃ (x : List UInt8) (q : Nat), x.length ≤ 100 ∧ q ≤ 100 ∧ ev E 123 [rdA bs p, .v m false [.int .i64 N]] = some { rs := [.v .own false [.str x]], outs := [rdO bs (p + q)] } := by
  obtain ⟨k, hk, c1⟩ := ev_pick .ro bs p ((N : Int) + 1) b (by omega)
  have hk := hk (by omega)
  obtain ⟨m', m'', x, hx, hl⟩ := lp_l2Text .ro bs b.b _ rfl k (p + 1) .ro .own [] (by omega) (by simp; omega) (by omega)
  have hw := wrapN N (by omega)
  refine ⟨x, 1 + k, by simp at hx; omega, by omega, ?_⟩
  rw [ev_fn Try.f123 rfl Try.func123 rfl rfl rfl (Nat.le_of_ble_eq_true rfl)]
  simp [hw, c1]
  rw [loopC_at ?_ hl]
  · simp
    omega
  · rfl
theorem ev_l2Data (bs : List UInt8) (p : Nat) (b : RdB bs p) (hp : p + 200 ≤ 1099511627776) :
    ∃ (x : List UInt8) (q : Nat), x.length ≤ 200 ∧ q ≤ 200 ∧ ev E 38 [rdA bs p] = some { rs := [.v .own false [.str x]], outs := [rdO bs (p + q)] } := by
  obtain ⟨k, hk, c1⟩ := ev_pick .ro bs p 24 b (by omega)
  have b1 : RdB bs (p + 1) := b.add (by omega)
  by_cases hk0 : k = 0
  · subst hk0
    have c2 := fun m m' => ev_l2Long m m' [97] 49 (by omega) (by simp)
    obtain ⟨v, hv, c3⟩ := ev_ofS .tn bs (p + 1) [[], [65], [97, 32, 98], 97 :: List.replicate 48 46] b1 (by simp) (by simp)
    refine ⟨v, 2, ?_, by omega, ?_⟩
    · simp only [List.mem_cons, List.not_mem_nil, or_false] at hv
      rcases hv with rfl | rfl | rfl | rfl <;> simp
    · simp at c2 c3
      rw [ev_fn Try.f38 rfl Try.func38 rfl rfl rfl (Nat.le_of_ble_eq_true rfl)]
      simp [c1, c2, c3]
  · have e : eqI k 0 = false := eqI_not.2 (by omega)
    obtain ⟨v, hv, c3⟩ := ev_ofS .tn bs (p + 1) [[120], [120, 121], [113, 57, 46], [48, 49, 50, 51, 52, 53, 54], [109]] b1 (by simp) (by simp)
    have hvl : v.length ≤ 7 := by
      simp only [List.mem_cons, List.not_mem_nil, or_false] at hv
      rcases hv with rfl | rfl | rfl | rfl | rfl <;> simp
    obtain ⟨x, q, hx, hq, c4⟩ := ev_l2Text .ro bs (p + 1 + 1) 6 (by omega) (b.add (q := 2) (by omega)) (by omega)
    refine ⟨v ++ x, 2 + q, by simp; omega, by omega, ?_⟩
    have hsz : v.length + x.length ≤ 4611686018427387904 := by omega
    push_cast at c4
    simp at c3
    rw [ev_fn Try.f38 rfl Try.func38 rfl rfl rfl (Nat.le_of_ble_eq_true rfl)]
    simp [c1, c3, c4, e, hsz]
    omega
end Go.Ev

/- Draws: bent bytes, bent parts, lists of parts. -/
set_option linter.unusedSimpArgs false
set_option linter.unusedVariables false
set_option maxRecDepth 100000
set_option maxHeartbeats 4000000
namespace Go.Ev
open Go.Proofs
theorem ev_l2Some (bs : List UInt8) (p : Nat) (b : RdB bs p) (hp : p + 200 ≤ 1099511627776) :
    ∃ (x : List UInt8) (q : Nat), x.length ≤ 200 ∧ q ≤ 200 ∧ ev E 113 [rdA bs p] = some { rs := [.v .own false [.str x]], outs := [rdO bs (p + q)] } := by
  obtain ⟨v, hv, c1⟩ := ev_num .tn bs p [6, 12, 20, 30, 48] b (by simp) (by simp)
  obtain ⟨N, rfl⟩ : ∃ N : Nat, v = N := ⟨v.toNat, by simp at hv; omega⟩
  have hN : N ≤ 48 := by simp at hv; omega
  obtain ⟨x, q, hx, hq, c2⟩ := ev_l2Text .own bs (p + 1) N (by omega) ⟨b.b, by omega⟩ (by omega)
  obtain ⟨k, hk, c3⟩ := ev_pick .ro bs (p + 1 + q) 60 ⟨b.b, by omega⟩ (by omega)
  simp at c1
  have hx1 : x.length + 1 ≤ 4611686018427387904 := by omega
  by_cases k0 : k = 0
  · subst k0
    refine ⟨x ++ [65], 2 + q, by simp; omega, by omega, ?_⟩
    rw [ev_fn Try.f113 rfl Try.func113 rfl rfl rfl (Nat.le_of_ble_eq_true rfl)]
    simp [c1, c2, c3, hx1]
    omega
  · have e0 : eqI k 0 = false := eqI_not.2 (by omega)
    by_cases k1 : k = 1
    · subst k1
      refine ⟨x ++ [32], 2 + q, by simp; omega, by omega, ?_⟩
      push_cast at c3
      rw [ev_fn Try.f113 rfl Try.func113 rfl rfl rfl (Nat.le_of_ble_eq_true rfl)]
      simp [c1, c2, c3, hx1, eqI]
      omega
    · have e1 : eqI k 1 = false := eqI_not.2 (by omega)
      by_cases k2 : k = 2
      · subst k2
        have c4 := fun m m' => ev_l2Long m m' x 49 (by omega) (by omega)
        push_cast at c3 c4
        refine ⟨x ++ List.replicate (49 - x.length) 46, 2 + q, by simp; omega, by omega, ?_⟩
        rw [ev_fn Try.f113 rfl Try.func113 rfl rfl rfl (Nat.le_of_ble_eq_true rfl)]
        simp [c1, c2, c3, c4, eqI]
        omega
      · have e2 : eqI k 2 = false := eqI_not.2 (by omega)
        refine ⟨x, 2 + q, by omega, by omega, ?_⟩
        rw [ev_fn Try.f113 rfl Try.func113 rfl rfl rfl (Nat.le_of_ble_eq_true rfl)]
        simp [c1, c2, c3, e0, e1, e2]
        omega
theorem ev_l1Some (bs : List UInt8) (p : Nat) (b : RdB bs p) (hp : p + 3 ≤ 1099511627776) :
    ∃ s : Sp, ev E 156 [rdA bs p] = some { rs := [.v .own true (spL s)], outs := [rdO bs (p + 3)] } := by
  obtain ⟨s, hs, c1⟩ := ev_l1Span bs p b (by omega)
  obtain ⟨k, hk, c2⟩ := ev_pick .ro bs (p + 2) 48 ⟨b.b, by omega⟩ (by omega)
  by_cases k0 : k = 0
  · subst k0
    refine ⟨(s.1, s.1), ?_⟩
    rw [ev_fn Try.f156 rfl Try.func156 rfl rfl rfl (Nat.le_of_ble_eq_true rfl)]
    simp [c1, c2]
  · have e0 : eqI k 0 = false := eqI_not.2 (by omega)
    by_cases k1 : k = 1
    · subst k1
      refine ⟨(-1, s.2), ?_⟩
      push_cast at c2
      rw [ev_fn Try.f156 rfl Try.func156 rfl rfl rfl (Nat.le_of_ble_eq_true rfl)]
      simp [c1, c2, eqI]
    · have e1 : eqI k 1 = false := eqI_not.2 (by omega)
      by_cases k2 : k = 2
      · subst k2
        refine ⟨(s.1, 49), ?_⟩
        push_cast at c2
        rw [ev_fn Try.f156 rfl Try.func156 rfl rfl rfl (Nat.le_of_ble_eq_true rfl)]
        simp [c1, c2, eqI]
      · have e2 : eqI k 2 = false := eqI_not.2 (by omega)
        by_cases k3 : k = 3
        · subst k3
          refine ⟨(9223372036854775807, -9223372036854775808), ?_⟩
          push_cast at c2
          rw [ev_fn Try.f156 rfl Try.func156 rfl rfl rfl (Nat.le_of_ble_eq_true rfl)]
          simp [c1, c2, eqI]
        · have e3 : eqI k 3 = false := eqI_not.2 (by omega)
          refine ⟨s, ?_⟩
          rw [ev_fn Try.f156 rfl Try.func156 rfl rfl rfl (Nat.le_of_ble_eq_true rfl)]
          simp [c1, c2, e0, e1, e2, e3]
theorem lp_l1List0 (bs : List UInt8) (hb : bs.length ≤ 2000) (a : Code) (ha : a = lp Try.f155 0) : ∀ (n p : Nat) (m0 : M) (out : List Sp), n ≤ 100 → out.length ≤ 48 → p + 5 * n ≤ 1099511627776 →
    ∃ (m' : M) (q : Nat) (x : List Sp), x.length ≤ 48 ∧ q ≤ 5 * n ∧ loopC E (ev E) 155 a { V := [(0, adp 0), (3, at1 3), (4, .v m0 false [.int .i64 n])], H := [rdH bs p, ow (.c 3) [.sl (out.map spL)]], ps := [0] } =
      some (.exit 0, { V := [(0, adp 0), (3, at1 3), (4, .v m' false [.int .i64 0]), (12, vb false)], H := [rdH bs (p + q), ow (.c 3) [.sl (x.map spL)]], ps := [0] })
  | 0, p, m0, out, hn, ho, hp => by
    refine ⟨m0, 0, out, by omega, by omega, ?_⟩
    rw [loopC_of _ _ _ _ ha]
    simp [lp, loopsOf, Try.f155]
  | n + 1, p, m0, out, hn, ho, hp => by
    have b : RdB bs p := ⟨hb, by omega⟩
    obtain ⟨s, hs, c1⟩ := ev_l1Span bs p b (by omega)
    have c2 : ∀ m m', ev E 48 [.v m false [.sl (out.map spL)], .v m' true (spL s)] = some { rs := [.v .own false [.sl ((addS out s).map spL)]], outs := [] } := fun m m' => ev_spec_l1Add m m' out s (by omega) (by omega) (by omega) (by omega)
    have hl2 := addS_len out s
    obtain ⟨k, hk, c3⟩ := ev_pick .ro bs (p + 2) 3 ⟨b.b, by omega⟩ (by omega)
    have hw : IntKind.i64.wrap (n : Int) = n := by rw [wrap64]; omega
    have hlt : (0 : Int) < (n : Int) + 1 := by omega
    by_cases k0 : k = 0
    · subst k0
      obtain ⟨s', hs', c4⟩ := ev_l1Span bs (p + 2 + 1) ⟨b.b, by omega⟩ (by omega)
      have c5 : ∀ m m', ev E 158 [.v m false [.sl ((addS out s).map spL)], .v m' true (spL s')] = some { rs := [.v .own false [.sl ((cutS (addS out s) s').map spL)]], outs := [] } := fun m m' => ev_spec_l1Cut m m' (addS out s) s' (by omega) (by omega) (by omega) (by omega)
      have hl3 := cutS_len (addS out s) s'
      have c6 := fun m => ev_spec_SpansOk m (cutS (addS out s) s') (by omega)
      cases e : spsOk (cutS (addS out s) s')
      · obtain ⟨m', q, x, hx, hq, ih⟩ := lp_l1List0 bs hb a ha n (p + 5) .ro out (by omega) (by omega) (by omega)
        refine ⟨m', q + 5, x, hx, by omega, ?_⟩
        rw [loopC_of _ _ _ _ ha]
        clear ha
        simp [lp, loopsOf, Try.f155, hw, hlt, c1, c2, c3, c4, c5, c6, e]
        simp only [show p + 5 + q = p + (q + 5) by omega] at ih
        simpa using ih
      · obtain ⟨m', q, x, hx, hq, ih⟩ := lp_l1List0 bs hb a ha n (p + 5) .ro (cutS (addS out s) s') (by omega) (by omega) (by omega)
        refine ⟨m', q + 5, x, hx, by omega, ?_⟩
        rw [loopC_of _ _ _ _ ha]
        clear ha
        simp [lp, loopsOf, Try.f155, hw, hlt, c1, c2, c3, c4, c5, c6, e]
        simp only [show p + 5 + q = p + (q + 5) by omega] at ih
        simpa using ih
    · have e0 : eqI k 0 = false := eqI_not.2 (by omega)
      have c6 := fun m => ev_spec_SpansOk m (addS out s) (by omega)
      cases e : spsOk (addS out s)
      · obtain ⟨m', q, x, hx, hq, ih⟩ := lp_l1List0 bs hb a ha n (p + 3) .ro out (by omega) (by omega) (by omega)
        refine ⟨m', q + 3, x, hx, by omega, ?_⟩
        rw [loopC_of _ _ _ _ ha]
        clear ha
        simp [lp, loopsOf, Try.f155, hw, hlt, c1, c2, c3, c6, e, e0]
        simp only [show p + 3 + q = p + (q + 3) by omega] at ih
        simpa using ih
      · obtain ⟨m', q, x, hx, hq, ih⟩ := lp_l1List0 bs hb a ha n (p + 3) .ro (addS out s) (by omega) (by omega) (by omega)
        refine ⟨m', q + 3, x, hx, by omega, ?_⟩
        rw [loopC_of _ _ _ _ ha]
        clear ha
        simp [lp, loopsOf, Try.f155, hw, hlt, c1, c2, c3, c6, e, e0]
        simp only [show p + 3 + q = p + (q + 3) by omega] at ih
        simpa using ih
end Go.Ev

/- Draws: lists of parts. -/
set_option linter.unusedSimpArgs false
set_option linter.unusedVariables false
set_option maxRecDepth 100000
set_option maxHeartbeats 4000000
namespace Go.Ev
open Go.Proofs
theorem lp_l1List1 (bs : List UInt8) (hb : bs.length ≤ 2000) (a : Code) (ha : a = lp Try.f155 1) : ∀ (n i p : Nat) (out : List Sp), i + n = 12 → out.length = i → p + n + 1 ≤ 1099511627776 →
    ∃ (q : Nat) (x : List Sp) (k : Nat), x.length ≤ 12 ∧ q ≤ n + 1 ∧ loopC E (ev E) 155 a { V := [(0, adp 0), (3, at1 3), (6, vi i)], H := [rdH bs p, ow (.c 3) [.sl (out.map spL)]], ps := [0] } =
      some (.exit 2, { V := [(0, adp 0), (3, at1 3), (6, vi k), (37, vb false)], H := [rdH bs (p + q), ow (.c 3) [.sl (x.map spL)]], ps := [0] })
  | n, i, p, out, hn, ho, hp => by
    obtain ⟨k, hk, c1⟩ := ev_pick .ro bs p 2 ⟨hb, by omega⟩ (by omega)
    have hk := hk (by omega)
    have hw : IntKind.i64.wrap (12 - (k : Int)) = 12 - (k : Int) := by rw [wrap64]; omega
    by_cases hlt : (i : Int) < 12 - (k : Int)
    · match n, hn, hp with
      | 0, hn, hp => omega
      | n + 1, hn, hp =>
        obtain ⟨q, x, k', hx, hq, ih⟩ := lp_l1List1 bs hb a ha n (i + 1) (p + 1) (out ++ [((3 : Int) * i, (3 : Int) * i + 1)]) (by omega) (by simp; omega) (by omega)
        refine ⟨q + 1, x, k', hx, by omega, ?_⟩
        have w1 := wrapN i (by omega)
        have w2 : IntKind.i64.wrap (3 * (i : Int)) = 3 * (i : Int) := by rw [wrap64]; omega
        have w3 : IntKind.i64.wrap (3 * (i : Int) + 1) = 3 * (i : Int) + 1 := by rw [wrap64]; omega
        have hsz : (i + 1) * 16 ≤ 17592186044416 := by omega
        have hsz2 : i + 1 ≤ 17592186044416 := by omega
        rw [loopC_of _ _ _ _ ha]
        clear ha
        simp [lp, loopsOf, Try.f155, c1, hw, hlt, w1, w2, w3, ho, hsz, hsz2]
        simp only [show p + 1 + q = p + (q + 1) by omega] at ih
        simpa using ih
    · refine ⟨1, out, i, by omega, by omega, ?_⟩
      have hle : 12 - (k : Int) ≤ (i : Int) := by omega
      rw [loopC_of _ _ _ _ ha]
      simp [lp, loopsOf, Try.f155, c1, hw, hle]
theorem ev_l1List (bs : List UInt8) (p : Nat) (b : RdB bs p) (hp : p + 100 ≤ 1099511627776) :
    ∃ (q : Nat) (x : List Sp), x.length ≤ 48 ∧ q ≤ 100 ∧ ev E 155 [rdA bs p] = some { rs := [.v .own false [.sl (x.map spL)]], outs := [rdO bs (p + q)] } := by
  obtain ⟨v, hv, c1⟩ := ev_num .tn bs p [1, 2, 3, 5, 0, 9] b (by simp) (by simp)
  obtain ⟨N, rfl⟩ : ∃ N : Nat, v = N := ⟨v.toNat, by simp at hv; omega⟩
  have hN : N ≤ 9 := by simp at hv; omega
  obtain ⟨m', q, x, hx, hq, hl⟩ := lp_l1List0 bs b.b _ rfl N (p + 1) .own [] (by omega) (by simp) (by omega)
  obtain ⟨k, hk, c2⟩ := ev_pick .ro bs (p + 1 + q) 10 ⟨b.b, by omega⟩ (by omega)
  simp at c1 hl
  by_cases k0 : k = 0
  · subst k0
    obtain ⟨q', x', k', hx', hq', hl'⟩ := lp_l1List1 bs b.b _ rfl 12 0 (p + 1 + q + 1) [] (by omega) (by simp) (by omega)
    refine ⟨q + q' + 2, x', by omega, by omega, ?_⟩
    push_cast at hl'
    rw [List.map_nil] at hl'
    rw [ev_fn Try.f155 rfl Try.func155 rfl rfl rfl (Nat.le_of_ble_eq_true rfl)]
    simp [c1]
    rw [loopC_at ?_ hl]
    · simp [c2]
      rw [loopC_at ?_ hl']
      · simp
        omega
      · rfl
    · rfl
  · have e0 : eqI k 0 = false := eqI_not.2 (by omega)
    refine ⟨q + 2, x, by omega, by omega, ?_⟩
    rw [ev_fn Try.f155 rfl Try.func155 rfl rfl rfl (Nat.le_of_ble_eq_true rfl)]
    simp [c1]
    rw [loopC_at ?_ hl]
    · simp [c2, e0]
      omega
    · rfl
end Go.Ev

/- Draws: bent lists of parts, caches. -/
set_option linter.unusedSimpArgs false
set_option linter.unusedVariables false
set_option maxRecDepth 100000
set_option maxHeartbeats 4000000
namespace Go.Ev
open Go.Proofs
theorem lp_l1Lists (bs : List UInt8) (p N : Nat) (hN : 1 ≤ N) (hN2 : N ≤ 48) (m4 : M) (a : Code) (ha : a = lp Try.f114 0) : ∀ (n : Nat) (V0 : List (Nat × AV)) (out : List Sp), look V0 3 = at1 3 → look V0 4 = .v m4 false [.int .i64 N] → 13 ≤ out.length + n → N ≤ out.length → out.length ≤ 60 →
    ∃ (x : List Sp), x.length ≤ 60 ∧ loopC E (ev E) 114 a { V := V0, H := [rdH bs p, ow (.c 3) [.sl (out.map spL)]], ps := [0] } =
      some (.exit 1, { V := [(3, at1 3), (4, .v m4 false [.int .i64 N]), (25, vb false)], H := [rdH bs p, ow (.c 3) [.sl (x.map spL)]], ps := [0] })
  | n, V0, out, v3, v4, h, hl, h60 => by
    by_cases hlt : (out.length : Int) ≤ 12
    · match n, h with
      | 0, h => omega
      | n + 1, h =>
        obtain ⟨j, hj⟩ : ∃ j, N = j + 1 := ⟨N - 1, by omega⟩
        have hjl : j < out.length := by omega
        obtain ⟨x, hx, ih⟩ := lp_l1Lists bs p N hN hN2 m4 a ha n [(3, at1 3), (4, .v m4 false [.int .i64 N])] (out ++ [out[j]]) rfl rfl (by simp; omega) (by simp; omega) (by simp; omega)
        refine ⟨x, hx, ?_⟩
        have w1 : IntKind.i64.wrap ((N : Int) - 1) = (j : Int) := by rw [wrap64] <;> omega
        have hsz : (out.length + 1) * 16 ≤ 17592186044416 := by omega
        have hsz2 : out.length + 1 ≤ 17592186044416 := by omega
        rw [loopC_of _ _ _ _ ha]
        clear ha hj
        simp [lp, loopsOf, Try.f114, v3, v4, hlt, w1, hjl, hsz, hsz2]
        simpa using ih
    · have hle : (12 : Int) < out.length := by omega
      refine ⟨out, h60, ?_⟩
      rw [loopC_of _ _ _ _ ha]
      simp [lp, loopsOf, Try.f114, v3, v4, hle]
theorem ev_l1Lists (bs : List UInt8) (p : Nat) (b : RdB bs p) (hp : p + 120 ≤ 1099511627776) :
    ∃ (q : Nat) (x : List Sp), x.length ≤ 60 ∧ q ≤ 120 ∧ ev E 114 [rdA bs p] = some { rs := [.v .own false [.sl (x.map spL)]], outs := [rdO bs (p + q)] } := by
  obtain ⟨q, x, hx, hq, c1⟩ := ev_l1List bs p b (by omega)
  by_cases h0 : x.length = 0
  · obtain rfl : x = [] := List.length_eq_zero_iff.1 h0
    refine ⟨q, [], by simp, by omega, ?_⟩
    rw [ev_fn Try.f114 rfl Try.func114 rfl rfl rfl (Nat.le_of_ble_eq_true rfl)]
    simp at c1
    simp [c1]
  · have e0 : eqI x.length 0 = false := eqI_not.2 (by omega)
    obtain ⟨k8, hk8, c2⟩ := ev_pick .ro bs (p + q) 8 ⟨b.b, by omega⟩ (by omega)
    cases e8 : ltI 0 k8
    · obtain ⟨k, hk, c3⟩ := ev_pick .ro bs (p + q + 1) x.length ⟨b.b, by omega⟩ (by omega)
      have hk := hk (by omega)
      have hkl : k < x.length := by omega
      obtain ⟨j, hj, c4⟩ := ev_pick .ro bs (p + q + 1 + 1) 4 ⟨b.b, by omega⟩ (by omega)
      have hsz : (x.length + 1) * 16 ≤ 17592186044416 := by omega
      have hsz2 : x.length + 1 ≤ 17592186044416 := by omega
      by_cases j0 : j = 0
      · subst j0
        obtain ⟨s, c5⟩ := ev_l1Some bs (p + q + 1 + 1 + 1) ⟨b.b, by omega⟩ (by omega)
        refine ⟨q + 6, x.set k s, by simp; omega, by omega, ?_⟩
        rw [ev_fn Try.f114 rfl Try.func114 rfl rfl rfl (Nat.le_of_ble_eq_true rfl)]
        simp [c1, c2, c3, c4, c5, e0, e8, hkl]
        omega
      · have f0 : eqI j 0 = false := eqI_not.2 (by omega)
        by_cases j1 : j = 1
        · subst j1
          refine ⟨q + 3, x ++ [x[k]], by simp; omega, by omega, ?_⟩
          push_cast at c4
          rw [ev_fn Try.f114 rfl Try.func114 rfl rfl rfl (Nat.le_of_ble_eq_true rfl)]
          simp [c1, c2, c3, c4, e0, e8, hkl, hsz, hsz2, show eqI 1 0 = false from rfl]
          omega
        · have f1 : eqI j 1 = false := eqI_not.2 (by omega)
          by_cases j2 : j = 2
          · subst j2
            refine ⟨q + 3, x.set k (x[k].1, IntKind.i64.wrap (x[k].2 + 1)), by simp; omega, by omega, ?_⟩
            push_cast at c4
            rw [ev_fn Try.f114 rfl Try.func114 rfl rfl rfl (Nat.le_of_ble_eq_true rfl)]
            simp [c1, c2, c3, c4, e0, e8, hkl, show eqI 2 0 = false from rfl, show eqI 2 1 = false from rfl]
            omega
          · have f2 : eqI j 2 = false := eqI_not.2 (by omega)
            obtain ⟨y, hy, hl⟩ := lp_l1Lists bs (p + q + 1 + 1 + 1) x.length (by omega) (by omega) .ro _ rfl 13 [(3, at1 3), (4, vi x.length), (5, .v .own false [.int .i64 k]), (50, vb false)] x rfl rfl (by omega) (by omega) (by omega)
            refine ⟨q + 3, y, by omega, by omega, ?_⟩
            rw [ev_fn Try.f114 rfl Try.func114 rfl rfl rfl (Nat.le_of_ble_eq_true rfl)]
            simp [c1, c2, c3, c4, e0, e8, f0, f1, f2]
            rw [loopC_at ?_ hl]
            · simp
              omega
            · rfl
    · refine ⟨q + 1, x, by omega, by omega, ?_⟩
      rw [ev_fn Try.f114 rfl Try.func114 rfl rfl rfl (Nat.le_of_ble_eq_true rfl)]
      simp [c1, c2, e0, e8]
      omega
theorem ev_l6BentB (B : Nat) (hB : 1000 ≤ B ∧ B ≤ 100000) (bs : List UInt8) (p : Nat) (m : M) (hm : m.isOwn = false) (t : List UInt8) (h d : List Sp) (b : RdB bs p) (hp : p + 300 ≤ 1099511627776) (bt : t.length ≤ B) (bh : h.length ≤ B) (bd : d.length ≤ B) :
    ∃ (q : Nat) (t' : List UInt8) (h' d' : List Sp), t'.length ≤ B + 1000 ∧ h'.length ≤ B + 1000 ∧ d'.length ≤ B + 1000 ∧ q ≤ 300 ∧ ev E 35 [rdA bs p, .v m true (owL t h d)] = some { rs := [rOw t' h' d'], outs := [rdO bs (p + q)] } := by
  have c0 := fun m hm => ev_l6Copy m hm t h d (by omega) (by omega)
  obtain ⟨k, hk, c1⟩ := ev_pick .ro bs p 60 b (by omega)
  have b1 : RdB bs (p + 1) := ⟨b.b, by omega⟩
  by_cases k0 : k = 0
  · subst k0
    obtain ⟨x, q, hx, hq, c2⟩ := ev_l2Some bs (p + 1) b1 (by omega)
    refine ⟨1 + q, x, h, d, by omega, by omega, by omega, by omega, ?_⟩
    rw [ev_fn Try.f35 rfl Try.func35 rfl rfl rfl (Nat.le_of_ble_eq_true rfl)]
    simp [c0, c1, c2, hm]
    omega
  · have e0 : eqI k 0 = false := eqI_not.2 (by omega)
    by_cases k1 : k = 1
    · subst k1
      obtain ⟨q, x, hx, hq, c2⟩ := ev_l1Lists bs (p + 1) b1 (by omega)
      push_cast at c1
      refine ⟨1 + q, t, x, d, by omega, by omega, by omega, by omega, ?_⟩
      rw [ev_fn Try.f35 rfl Try.func35 rfl rfl rfl (Nat.le_of_ble_eq_true rfl)]
      simp [c0, c1, c2, hm, show eqI 1 0 = false from rfl]
      omega
    · have e1 : eqI k 1 = false := eqI_not.2 (by omega)
      by_cases k2 : k = 2
      · subst k2
        obtain ⟨s, hs, c2⟩ := ev_l1Span bs (p + 1) b1 (by omega)
        push_cast at c1
        have hsz : (d.length + 1) * 16 ≤ 17592186044416 := by omega
        have hsz2 : d.length + 1 ≤ 17592186044416 := by omega
        refine ⟨3, t, h, d ++ [s], by omega, by omega, by simp; omega, by omega, ?_⟩
        rw [ev_fn Try.f35 rfl Try.func35 rfl rfl rfl (Nat.le_of_ble_eq_true rfl)]
        simp [c0, c1, c2, hm, hsz, hsz2, show eqI 2 0 = false from rfl, show eqI 2 1 = false from rfl]
      · have e2 : eqI k 2 = false := eqI_not.2 (by omega)
        by_cases k3 : k = 3
        · subst k3
          obtain ⟨q, x, hx, hq, c2⟩ := ev_l1Lists bs (p + 1) b1 (by omega)
          push_cast at c1
          refine ⟨1 + q, t, h, x, by omega, by omega, by omega, by omega, ?_⟩
          rw [ev_fn Try.f35 rfl Try.func35 rfl rfl rfl (Nat.le_of_ble_eq_true rfl)]
          simp [c0, c1, c2, hm, show eqI 3 0 = false from rfl, show eqI 3 1 = false from rfl, show eqI 3 2 = false from rfl]
          omega
        · have e3 : eqI k 3 = false := eqI_not.2 (by omega)
          by_cases k4 : k = 4
          · subst k4
            push_cast at c1
            cases e : ltI 0 t.length
            · refine ⟨1, t, h, d, by omega, by omega, by omega, by omega, ?_⟩
              rw [ev_fn Try.f35 rfl Try.func35 rfl rfl rfl (Nat.le_of_ble_eq_true rfl)]
              simp [c0, c1, hm, e, show eqI 4 0 = false from rfl, show eqI 4 1 = false from rfl, show eqI 4 2 = false from rfl, show eqI 4 3 = false from rfl]
            · have e' := ltI_iff.1 e
              obtain ⟨v, hv, c2⟩ := ev_ofS .tn bs (p + 1) [[65], [113]] b1 (by simp) (by simp)
              have hvl : v.length = 1 := by simp at hv; rcases hv with rfl | rfl <;> rfl
              have c3 := fun m m' m'' => ev_l6Over m m' m'' t v (0, 1) (by dsimp only; omega) (by dsimp only; omega) (by dsimp only; omega) (by dsimp only; omega) (by omega) (by omega)
              have hol := overS_len t v (0, 1) (by dsimp only; omega) (by dsimp only; omega) (by dsimp only; omega)
              simp only [spL] at c3
              refine ⟨2, overS t (0, 1) v, h, d, by rw [hol]; omega, by omega, by omega, by omega, ?_⟩
              simp at c2
              rw [ev_fn Try.f35 rfl Try.func35 rfl rfl rfl (Nat.le_of_ble_eq_true rfl)]
              simp [c0, c1, c2, c3, hm, e, show eqI 4 0 = false from rfl, show eqI 4 1 = false from rfl, show eqI 4 2 = false from rfl, show eqI 4 3 = false from rfl]
          · have e4 : eqI k 4 = false := eqI_not.2 (by omega)
            refine ⟨1, t, h, d, by omega, by omega, by omega, by omega, ?_⟩
            rw [ev_fn Try.f35 rfl Try.func35 rfl rfl rfl (Nat.le_of_ble_eq_true rfl)]
            simp [c0, c1, hm, e0, e1, e2, e3, e4]
theorem ev_l6Bent (bs : List UInt8) (p : Nat) (m : M) (hm : m.isOwn = false) (t : List UInt8) (h d : List Sp) (b : RdB bs p) (hp : p + 300 ≤ 1099511627776) (bt : t.length ≤ 1000) (bh : h.length ≤ 1000) (bd : d.length ≤ 1000) :
    ∃ (q : Nat) (t' : List UInt8) (h' d' : List Sp), t'.length ≤ 2000 ∧ h'.length ≤ 2000 ∧ d'.length ≤ 2000 ∧ q ≤ 300 ∧ ev E 35 [rdA bs p, .v m true (owL t h d)] = some { rs := [rOw t' h' d'], outs := [rdO bs (p + q)] } :=
  ev_l6BentB 1000 (by omega) bs p m hm t h d b hp bt bh bd
end Go.Ev
