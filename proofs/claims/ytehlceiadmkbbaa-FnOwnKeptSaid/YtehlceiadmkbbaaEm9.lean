/- My texts joined: EvT23, EvT24, EvT25. -/
import Derived.Test.YtehlceiadmkbbaaEm8
/- Answers: the program's caches: changes that keep the bytes. -/
set_option linter.unusedSimpArgs false
set_option linter.unusedVariables false
set_option maxRecDepth 100000
set_option maxHeartbeats 4000000
namespace Go.Ev
open Go.Proofs
theorem ev_Clone (m : M) (xs : List Sp) (hb : xs.length ≤ 100000) : ev E 81 [.v m false [.sl (xs.map spL)]] = some { rs := [.v .own false [.sl (xs.map spL)]], outs := [] } := by
  have h1 : xs.length * 16 ≤ 17592186044416 := by omega
  have h2 : xs.length ≤ 17592186044416 := by omega
  rw [ev_eq]
  simp [cloneK, h1, h2]
theorem ev_kept (m : M) (hm : m.isOwn = false) (t : List UInt8) (h d : List Sp) (b : OwB t h d) : ev E 70 [.v m true (owL t h d)] = some { rs := [rOw t h d], outs := [] } := by
  have c1 := fun m => ev_Clone m h b.h
  have c2 := fun m => ev_Clone m d b.d
  rw [ev_fn Try.f70 rfl Try.func70 rfl rfl rfl (Nat.le_of_ble_eq_true rfl)]
  simp [hm, c1, c2]
theorem spansF_len (f : Nat → Bool) : ∀ (n i : Nat), (spansF f n i).length ≤ n
  | 0, i => by simp [spansF]
  | n + 1, i => by
    have h1 := spansF_len f n (runEnd f (48 - i) i + 1)
    have h2 := spansF_len f n (i + 1)
    simp only [spansF]
    split
    · split
      · simp only [List.length_cons]; omega
      · omega
    · simp
theorem bytes_rows : ∀ (bs : List UInt8), bytesOfRows (rowsOfBytes bs) = some bs
  | [] => rfl
  | b :: bs => by
    have := bytes_rows bs
    simp only [rowsOfBytes] at this
    simp [rowsOfBytes, bytesOfRows, this]
def chgI (t : List UInt8) (h d : List Sp) (may : Bool) (f g : Nat → Bool) : Out :=
  if ownOk t h d = true then
    if may = true then (if ownOk t (spansF f 48 0) (spansF g 48 0) = true then rOB t (spansF f 48 0) (spansF g 48 0) true else rOB t h d false)
    else rOB t h d false
  else rOB [] [] [] false
theorem ev_changed (m mb mf : M) (hm : m.isOwn = false) (t : List UInt8) (h d : List Sp) (may : Bool) (cl : FuncId) (l : L) (f g : Nat → Bool) (b : OwB t h d) (hsig : E.sig cl = [])
    (hcl : may = true → ownOk t h d = true → ∀ m0 m1 m2, ev E cl (.v m0 false [.sl (rowsOfBytes t)] :: .v m1 true (pl (inF h)) :: .v m2 true (pl (inF d)) :: [.v mf false [l]]) = some { rs := [.v .own true (pl f), .v .own true (pl g)], outs := [] }) :
    ev E 39 [.v m true (owL t h d), .v mb false [.bool may], .v mf false [.fn cl [l]]] = some (chgI t h d may f g) := by
  have bt := b.t
  have bh := b.h
  have bd := b.d
  have c1 := fun m hm => ev_impl_OwnOk m hm t h d (by omega) (by omega) (by omega)
  have c3 := fun m hm => ev_kept m hm t h d b
  rw [ev_fn Try.f39 rfl Try.func39 rfl rfl rfl (Nat.le_of_ble_eq_true rfl)]
  cases e1 : ownOk t h d
  · simp [c1, e1, hm, chgI]
  · cases may with
    | false => simp [c1, c3, e1, hm, chgI]
    | true =>
      have hcl := hcl rfl e1
      obtain ⟨ht, hsh, hsd, _⟩ : t.length = 48 ∧ spsOk h = true ∧ spsOk d = true ∧ t.all okB = true := by
        simp only [ownOk, Bool.and_eq_true, eqI_iff] at e1
        exact ⟨by omega, e1.1.1.2, e1.1.2, e1.1.1.1.1⟩
      have hne : t ≠ [] := by intro e; rw [e] at ht; simp at ht
      have c4 : ∀ m, ev E 42 [.v m false [.sl (h.map spL)]] = some { rs := [.v .own true (pl (inF h))], outs := [] } := fun m => ev_impl_of m h (by omega) fun s hs => by have := spsOk_sp hsh s hs; omega
      have c5 : ∀ m, ev E 42 [.v m false [.sl (d.map spL)]] = some { rs := [.v .own true (pl (inF d))], outs := [] } := fun m => ev_impl_of m d (by omega) fun s hs => by have := spsOk_sp hsd s hs; omega
      have l1 := spansF_len f 48 0
      have l2 := spansF_len g 48 0
      have c6 := fun m => ev_spans m f
      have c7 := fun m => ev_spans m g
      have hbr := bytes_rows t
      have hlr : (rowsOfBytes t).length = 48 := by simp [rowsOfBytes, ht]
      simp only [chgI, e1, if_true]
      generalize spansF f 48 0 = h' at *
      generalize spansF g 48 0 = d' at *
      have c8 := fun m hm => ev_impl_OwnOk m hm t h' d' (by omega) (by omega) (by omega)
      cases e3 : ownOk t h' d' <;> simp [c1, e1, e3, hm, hne, ht, c3, c4, c5, c6, c7, c8, hcl, hsig, hbr, pl_ff]
theorem ev_cleanFn (m m1 m2 m3 : M) (rows : List (List L)) (f g : Nat → Bool) (p : Sp) (hp : 0 ≤ p.1 ∧ p.1 < p.2 ∧ p.2 ≤ 48) :
    ev E 54 [.v m false [.sl rows], .v m1 true (pl f), .v m2 true (pl g), .v m3 false [.ref (spL p)]] = some { rs := [.v .own true (pl f), .v .own true (pl fun j => if inF [p] j = true then false else g j)], outs := [] } := by
  have c1 : ∀ m, ev E 42 [.v m false [.sl [spL p]]] = some { rs := [.v .own true (pl (inF [p]))], outs := [] } := fun m => ev_impl_of m [p] (by simp) fun s hs => by simp only [List.mem_singleton] at hs; subst hs; omega
  have c2 := fun m m' m'' f => ev_put m m' m'' f (inF [p]) false
  rw [ev_fn Try.f54 rfl Try.func54 rfl rfl rfl (Nat.le_of_ble_eq_true rfl)]
  simp [c1, c2, pl_ff]
theorem ev_impl_OwnClean (m m' : M) (hm : m.isOwn = false) (t : List UInt8) (h d : List Sp) (p : Sp) (b : OwB t h d) :
    ev E 19 [.v m true (owL t h d), .v m' true (spL p)] = some (chgI t h d (spOk p) (inF h) (fun j => if inF [p] j = true then false else inF d j)) := by
  have c1 := fun m => ev_impl_SpanOk m p
  have c2 := fun m mb mf hm hcl => ev_changed m mb mf hm t h d (spOk p) 54 (.ref (spL p)) (inF h) (fun j => if inF [p] j = true then false else inF d j) b rfl hcl
  have c3 := fun (mf : M) (h1 : spOk p = true) (_ : ownOk t h d = true) (m0 m1 m2 : M) => ev_cleanFn m0 m1 m2 mf (rowsOfBytes t) (inF h) (inF d) p (spOk_iff.1 h1)
  have c4 := fun m mb mf hm => c2 m mb mf hm (c3 mf)
  have hex : ∃ t' h' d' b', chgI t h d (spOk p) (inF h) (fun j => if inF [p] j = true then false else inF d j) = rOB t' h' d' b' := by
    unfold chgI
    split
    · split
      · split <;> exact ⟨_, _, _, _, rfl⟩
      · exact ⟨_, _, _, _, rfl⟩
    · exact ⟨_, _, _, _, rfl⟩
  obtain ⟨t', h', d', b', hr⟩ := hex
  rw [hr] at c4 ⊢
  rw [ev_fn Try.f19 rfl Try.func19 rfl rfl rfl (Nat.le_of_ble_eq_true rfl)]
  simp [c1, c4, hm]
end Go.Ev

/- Answers: the program's caches read and told. -/
set_option linter.unusedSimpArgs false
set_option linter.unusedVariables false
set_option maxRecDepth 100000
set_option maxHeartbeats 4000000
namespace Go.Ev
open Go.Proofs
theorem meetO_eq {s p : Sp} (hs : 0 ≤ s.1 ∧ s.1 < s.2 ∧ s.2 ≤ 48) (hp : 0 ≤ p.1 ∧ p.1 < p.2 ∧ p.2 ≤ 48) : meetO s p = ltI (meetS s p).1 (meetS s p).2 := by
  have hb := meet_bd hs hp
  have h1 : spOk s = true := spOk_iff.2 hs
  have h2 : spOk p = true := spOk_iff.2 hp
  simp only [meetO, h1, h2, Bool.true_and]
  rw [Bool.eq_iff_iff, spOk_iff, ltI_iff]
  omega
theorem lp_OwnPatches (m : M) (hm : m.isOwn = false) (t : List UInt8) (h d : List Sp) (p : Sp) (ht : t.length = 48) (hd : ∀ s ∈ d, 0 ≤ s.1 ∧ s.1 < s.2 ∧ s.2 ≤ 48) (hp : 0 ≤ p.1 ∧ p.1 < p.2 ∧ p.2 ≤ 48) (hdl : d.length ≤ 100000) (a : Code) (ha : a = lp Try.f21 0) : ∀ (n i : Nat) (out : List Pt), i + n = d.length → out.length ≤ i →
    loopC E (ev E) 21 a { V := [(2, adc 2), (3, adc 3), (5, at1 5), (20, .v m false [.sl (d.map spL)]), (21, vi d.length), (22, vi i)], H := [bxm (.c 2) m (owL t h d), bx (.c 3) (spL p), ow (.c 5) [.sl (out.map ptL)]], ps := [] } =
      some (.exit 0, { V := [(2, adc 2), (3, adc 3), (5, at1 5), (20, .v m false [.sl (d.map spL)]), (21, vi d.length), (22, vi d.length), (23, vb false)], H := [bxm (.c 2) m (owL t h d), bx (.c 3) (spL p), ow (.c 5) [.sl ((out ++ patF t p (d.drop i)).map ptL)]], ps := [] })
  | 0, i, out, h0, ho => by
    rw [loopC_of _ _ _ _ ha]
    obtain rfl : i = d.length := by omega
    simp [lp, loopsOf, Try.f21, patF, hm]
  | n + 1, i, out, h0, ho => by
    have hlt : i < d.length := by omega
    have hw := wrapN i (by omega)
    have hs := hd d[i] (List.getElem_mem hlt)
    have hb := meet_bd hs hp
    have hc := fun m m' => ev_SpanMeet m m' d[i] p
    rw [meetO_eq hs hp] at hc
    have hsz : (out.length + 1) * 24 ≤ 17592186044416 := by omega
    have hsz2 : out.length + 1 ≤ 17592186044416 := by omega
    rw [List.drop_eq_getElem_cons hlt, patF]
    cases e : ltI (meetS d[i] p).1 (meetS d[i] p).2
    · have ih := lp_OwnPatches m hm t h d p ht hd hp hdl a ha n (i + 1) out (by omega) (by omega)
      push_cast at ih
      rw [loopC_of _ _ _ _ ha]
      clear ha
      simp [lp, loopsOf, Try.f21, hlt, hw, hm, hc, e]
      simpa using ih
    · have ih := lp_OwnPatches m hm t h d p ht hd hp hdl a ha n (i + 1) (out ++ [((meetS d[i] p).1, subS t (meetS d[i] p))]) (by omega) (by simp; omega)
      push_cast at ih
      rw [loopC_of _ _ _ _ ha]
      clear ha
      have e' := ltI_iff.1 e
      have q1 : (meetS d[i] p).1 ≤ ((meetS d[i] p).2.toNat : Int) := by omega
      have q2 : (meetS d[i] p).2 ≤ (48 : Int) := by omega
      have q3 : (meetS d[i] p).1.toNat ≤ (meetS d[i] p).2.toNat := by omega
      have q4 : max (meetS d[i] p).2 0 = (meetS d[i] p).2 := by omega
      simp [lp, loopsOf, Try.f21, hlt, hw, hm, hc, e, ht, hb, q1, q2, q3, q4, hsz, hsz2, Int.le_of_lt e']
      simpa [subS] using ih
def patI (t : List UInt8) (h d : List Sp) (p : Sp) : List Pt := if ownOk t h d = true then (if spOk p = true then patF t p d else []) else []
theorem ev_OwnPatches (m m' : M) (hm : m.isOwn = false) (t : List UInt8) (h d : List Sp) (p : Sp) (b : OwB t h d) :
    ev E 21 [.v m true (owL t h d), .v m' true (spL p)] = some { rs := [.v .own false [.sl ((patI t h d p).map ptL)]], outs := [] } := by
  have bt := b.t
  have bh := b.h
  have bd := b.d
  have c1 := fun m hm => ev_impl_OwnOk m hm t h d (by omega) (by omega) (by omega)
  have c2 := fun m => ev_impl_SpanOk m p
  rw [ev_fn Try.f21 rfl Try.func21 rfl rfl rfl (Nat.le_of_ble_eq_true rfl)]
  cases e1 : ownOk t h d
  · simp [c1, e1, hm, patI]
  · cases e2 : spOk p
    · simp [c1, c2, e1, e2, hm, patI]
    · obtain ⟨ht, hsh, hsd, _⟩ := ownOk_t e1
      have hl := lp_OwnPatches m hm t h d p ht (spsOk_sp hsd) (spOk_iff.1 e2) (by omega) _ rfl d.length 0 [] (by omega) (by simp)
      push_cast at hl
      simp [c1, c2, e1, e2, hm, patI]
      rw [loopC_at ?_ (by simpa using hl)]
      · simp
      · rfl
def eqP (f g : Nat → Bool) : Bool := (List.range 48).all fun j => f j == g j
theorem cellsEq_bools (f g : Nat → Bool) : ∀ (xs : List Nat), cellsEq (xs.map fun i => L.bool (f i)) (xs.map fun i => L.bool (g i)) = some (xs.all fun j => f j == g j)
  | [] => rfl
  | x :: xs => by
    have := cellsEq_bools f g xs
    simp only [List.map_cons, cellsEq, leafEq, this, List.all_cons]
theorem cellsEq_pl (f g : Nat → Bool) : cellsEq (pl f) (pl g) = some (eqP f g) := cellsEq_bools f g (List.range 48)
theorem eqP_iff {f g : Nat → Bool} : eqP f g = true ↔ ∀ j, j < 48 → f j = g j := by
  simp [eqP, List.all_eq_true]
@[simp] theorem eqAgg_places : eqAgg Try.prog 62 = true := by kernel_rfl
@[simp] theorem shape_places (f : Nat → Bool) : shapeT Try.prog 8 62 (pl f) = true := by
  have : (pl f).all (leafFits TD.bool) = true := by simp [pl, leafFits]
  simp [shapeT, this]
def haveS (h : List Sp) (s : Sp) : Bool := spsOk h && spOk s && eqP (fun j => inF h j && inF [s] j) (inF [s])
theorem ev_SpansHave (m m' : M) (h : List Sp) (s : Sp) (hb : h.length ≤ 1099511627776) : ev E 50 [.v m false [.sl (h.map spL)], .v m' true (spL s)] = some (rB (haveS h s)) := by
  have c1 := fun m => ev_impl_SpansOk m h hb
  have c2 := fun m => ev_impl_SpanOk m s
  rw [ev_fn Try.f50 rfl Try.func50 rfl rfl rfl (Nat.le_of_ble_eq_true rfl)]
  cases e1 : spsOk h
  · simp [c1, e1, haveS]
  · cases e2 : spOk s
    · simp [c1, c2, e1, e2, haveS]
    · have hs := spOk_iff.1 e2
      have c3 : ∀ m, ev E 42 [.v m false [.sl (h.map spL)]] = some { rs := [.v .own true (pl (inF h))], outs := [] } := fun m => ev_impl_of m h (by omega) fun s hs => by have := spsOk_sp e1 s hs; omega
      have c4 : ∀ m, ev E 42 [.v m false [.sl [spL s]]] = some { rs := [.v .own true (pl (inF [s]))], outs := [] } := fun m => ev_impl_of m [s] (by simp) fun q hq => by simp only [List.mem_singleton] at hq; subst hq; omega
      have c5 := fun m m' => ev_meet m m' (inF h) (inF [s])
      simp [-shapeT, c1, c2, c3, c4, c5, e1, e2, haveS, cellsEq_pl]
def readS (t : List UInt8) (h d : List Sp) (s : Sp) : List UInt8 × Bool := if ownOk t h d = true then (if haveS h s = true then (subS t s, true) else ([], false)) else ([], false)
theorem ev_OwnRead (m m' : M) (hm : m.isOwn = false) (t : List UInt8) (h d : List Sp) (s : Sp) (b : OwB t h d) :
    ev E 12 [.v m true (owL t h d), .v m' true (spL s)] = some { rs := [.v .own false [.str (readS t h d s).1], .v .own false [.bool (readS t h d s).2]], outs := [] } := by
  have bt := b.t
  have bh := b.h
  have bd := b.d
  have c1 := fun m hm => ev_impl_OwnOk m hm t h d (by omega) (by omega) (by omega)
  have c2 := fun m m' => ev_SpansHave m m' h s (by omega)
  rw [ev_fn Try.f12 rfl Try.func12 rfl rfl rfl (Nat.le_of_ble_eq_true rfl)]
  cases e1 : ownOk t h d
  · simp [c1, e1, hm, readS]
  · cases e2 : haveS h s
    · simp [c1, c2, e1, e2, hm, readS]
    · obtain ⟨ht, hsh, hsd, _⟩ := ownOk_t e1
      have hs : 0 ≤ s.1 ∧ s.1 < s.2 ∧ s.2 ≤ 48 := by
        simp only [haveS, Bool.and_eq_true] at e2
        exact spOk_iff.1 e2.1.2
      have q1 : s.1 ≤ (s.2.toNat : Int) := by omega
      have q3 : s.1.toNat ≤ s.2.toNat := by omega
      have q4 : max s.2 0 = s.2 := by omega
      have q5 : 0 ≤ s.2 := by omega
      have q6 : s.1 ≤ s.2 := by omega
      simp [c1, c2, e1, e2, hm, readS, ht, hs, q1, q3, q4, q5, q6, subS]
theorem lp_wpOwnKeeps (m m' : M) (hm : m.isOwn = false) (hm' : m'.isOwn = false) (t : List UInt8) (h d : List Sp) (t' : List UInt8) (h' d' : List Sp) (p : Sp) (b : OwB t h d) (b' : OwB t' h' d')
    (hk : ∀ i : Nat, i < 48 → ¬ (p.1 ≤ i ∧ (i : Int) < p.2) → readS t h d ((i : Int), (i : Int) + 1) = readS t' h' d' ((i : Int), (i : Int) + 1) ∧ inF d i = inF d' i)
    (a : Code) (ha : a = lp Try.f15 0) : ∀ (n i : Nat), i + n = 48 →
    loopC E (ev E) 15 a { V := [(3, adc 3), (4, adc 4), (5, adc 5), (7, vi i)], H := [bxm (.c 3) m (owL t h d), bxm (.c 4) m' (owL t' h' d'), bx (.c 5) (spL p)], ps := [] } =
      some (.exit 0, { V := [(3, adc 3), (4, adc 4), (5, adc 5), (7, vi 48), (13, vb false)], H := [bxm (.c 3) m (owL t h d), bxm (.c 4) m' (owL t' h' d'), bx (.c 5) (spL p)], ps := [] })
  | 0, i, h0 => by
    rw [loopC_of _ _ _ _ ha]
    obtain rfl : i = 48 := by omega
    simp [lp, loopsOf, Try.f15, hm, hm']
  | n + 1, i, h0 => by
    have hI : (i : Int) < 48 := by omega
    have hw := wrapN i (by omega)
    have bd := b.d
    have bd' := b'.d
    have ih := lp_wpOwnKeeps m m' hm hm' t h d t' h' d' p b b' hk a ha n (i + 1) (by omega)
    push_cast at ih
    rw [loopC_of _ _ _ _ ha]
    clear ha
    by_cases hin : p.1 ≤ i ∧ (i : Int) < p.2
    · simp [lp, loopsOf, Try.f15, hI, hw, hm, hm', hin]
      simpa using ih
    · obtain ⟨r1, r2⟩ := hk i (by omega) hin
      have c1 := fun m => ev_wpAt m (i : Int) (by omega)
      have c2 := fun m m' hm => ev_OwnRead m m' hm t h d ((i : Int), (i : Int) + 1) b
      have c3 := fun m m' hm => ev_OwnRead m m' hm t' h' d' ((i : Int), (i : Int) + 1) b'
      rw [← r1] at c3
      have c4 : ∀ m m', ev E 13 [.v m false [.sl (d.map spL)], .v m' false [.int .i64 i]] = some (rB (inF d i)) := fun m m' => ev_laws_wpIn m m' d i (by omega)
      have c5 : ∀ m m', ev E 13 [.v m false [.sl (d'.map spL)], .v m' false [.int .i64 i]] = some (rB (inF d i)) := fun m m' => by rw [r2]; exact ev_laws_wpIn m m' d' i (by omega)
      generalize readS t h d ((i : Int), (i : Int) + 1) = r at c2 c3
      simp only [spL] at c1 c2 c3
      cases e1 : ltI i p.1
      · have e2 : ltI i p.2 = false := by
          have := ltI_not.1 e1
          rw [ltI_not]
          omega
        simp [lp, loopsOf, Try.f15, hI, hw, hm, hm', e1, e2, c1, c2, c3, c4, c5]
        simpa using ih
      · simp [lp, loopsOf, Try.f15, hI, hw, hm, hm', e1, c1, c2, c3, c4, c5]
        simpa using ih
theorem ev_wpOwnKeeps (m m' m'' : M) (hm : m.isOwn = false) (hm' : m'.isOwn = false) (t : List UInt8) (h d : List Sp) (t' : List UInt8) (h' d' : List Sp) (p : Sp) (b : OwB t h d) (b' : OwB t' h' d')
    (hk : ∀ i : Nat, i < 48 → ¬ (p.1 ≤ i ∧ (i : Int) < p.2) → readS t h d ((i : Int), (i : Int) + 1) = readS t' h' d' ((i : Int), (i : Int) + 1) ∧ inF d i = inF d' i) :
    ev E 15 [.v m true (owL t h d), .v m' true (owL t' h' d'), .v m'' true (spL p)] = some (rB true) := by
  have hl := lp_wpOwnKeeps m m' hm hm' t h d t' h' d' p b b' hk _ rfl 48 0 (by omega)
  push_cast at hl
  rw [ev_fn Try.f15 rfl Try.func15 rfl rfl rfl (Nat.le_of_ble_eq_true rfl)]
  simp [hm, hm']
  rw [loopC_at ?_ hl]
  · simp
  · rfl
end Go.Ev

/- The law: cleaning keeps the data. -/
set_option linter.unusedSimpArgs false
set_option linter.unusedVariables false
set_option maxRecDepth 100000
set_option maxHeartbeats 4000000
namespace Go.Ev
open Go.Proofs
structure OC (t : List UInt8) (h d : List Sp) : Prop where
  t : t.length ≤ 2000
  h : h.length ≤ 2000
  d : d.length ≤ 2000
theorem OC.w {t : List UInt8} {h d : List Sp} (o : OC t h d) : OwB t h d := ⟨by have := o.t; omega, by have := o.h; omega, by have := o.d; omega⟩
theorem ev_l6Both (bs : List UInt8) : ∃ (t : List UInt8) (h d : List Sp) (p : Sp), OC t h d ∧ ev E 52 [.v .ro false [.sl (rowsOfBytes bs)]] = some { rs := [rOw t h d, .v .own true (spL p)], outs := [] } := by
  have c0 := ev_l10Open bs
  have hb : (bs.take 2000).length ≤ 2000 := by simp; omega
  generalize bs.take 2000 = b2 at c0 hb
  obtain ⟨q, t, h, d, o, hq, c1⟩ := ev_l6Some b2 0 ⟨hb, by omega⟩ (by omega)
  obtain ⟨q2, t2, h2, d2, ht2, hh2, hd2, hq2, c2⟩ := ev_l6Bent b2 (0 + q) .tn rfl t h d ⟨hb, by omega⟩ (by omega) o.t o.h o.d
  obtain ⟨q3, s, hq3, c3⟩ := ev_l6Near b2 (0 + q + q2) .tn rfl t2 h2 d2 ⟨hb, by omega⟩ (by omega) hh2 hd2
  refine ⟨t2, h2, d2, s, ⟨ht2, hh2, hd2⟩, ?_⟩
  push_cast at c0
  simp only [Nat.zero_add] at c1 c2 c3
  rw [ev_fn Try.f52 rfl Try.func52 rfl rfl rfl (Nat.le_of_ble_eq_true rfl)]
  simp [c0, c1, c2, c3]
theorem ev_DrawOwnClean (bs : List UInt8) : ∃ (t : List UInt8) (h d : List Sp) (p : Sp), OC t h d ∧ ev E 16 [.v .ro false [.sl (rowsOfBytes bs)]] = some { rs := [rOw t h d, .v .own true (spL p)], outs := [] } := by
  obtain ⟨t, h, d, p, o, c⟩ := ev_l6Both bs
  refine ⟨t, h, d, p, o, ?_⟩
  rw [ev_fn Try.f16 rfl Try.func16 rfl rfl rfl (Nat.le_of_ble_eq_true rfl)]
  simp [c]
/-- The program's way and the reference's come to the same. -/
theorem clean_eq (t : List UInt8) (h d : List Sp) (p : Sp) : chgI t h d (spOk p) (inF h) (fun j => if inF [p] j = true then false else inF d j) = cleanS t h d p := by
  unfold chgI cleanS
  cases e : ownOk t h d with
  | false => rfl
  | true =>
    obtain ⟨_, hsh, _, _⟩ := ownOk_t e
    have h1 : spansF (inF h) 48 0 = h := by rw [spans_of (g := inF h) (fun j _ => rfl)]; exact of_self hsh fun j _ => rfl
    have h2 : spansF (fun j => if inF [p] j = true then false else inF d j) 48 0 = cutS d p := spans_of fun j _ => by simp [inF]
    rw [h1, h2]
theorem cutS_get (d : List Sp) (p : Sp) (j : Nat) (hj : j < 48) : inF (cutS d p) j = (!inSp j p && inF d j) := by
  have := (of_can fun j => if inSp j p = true then false else d.any (inSp j)).2 j hj
  rw [cutS, this]
  cases inSp j p <;> simp [inF]
theorem maxI_ge (a b : Int) : a ≤ maxI a b ∧ b ≤ maxI a b := by
  simp only [maxI, ltI, decide_eq_true_eq]
  split <;> omega
theorem minI_le (a b : Int) : minI a b ≤ a ∧ minI a b ≤ b := by
  simp only [minI, ltI, decide_eq_true_eq]
  split <;> omega
theorem patF_cut (t : List UInt8) (p : Sp) (hp : 0 ≤ p.1 ∧ p.1 < p.2 ∧ p.2 ≤ 48) : ∀ (d : List Sp), (∀ s ∈ d, (0 ≤ s.1 ∧ s.1 < s.2 ∧ s.2 ≤ 48) ∧ ∀ j : Nat, s.1 ≤ j → (j : Int) < s.2 → inSp j p = false) → patF t p d = []
  | [], _ => rfl
  | s :: d, h => by
    obtain ⟨hs, hj⟩ := h s (by simp)
    have e : ltI (meetS s p).1 (meetS s p).2 = false := by
      rw [ltI_not]
      apply Classical.byContradiction
      intro hn
      have hlt : (meetS s p).1 < (meetS s p).2 := by omega
      have hb := meet_bd hs hp
      obtain ⟨j, hj0⟩ : ∃ j : Nat, (meetS s p).1 = j := ⟨(meetS s p).1.toNat, by omega⟩
      have hm : s.1 ≤ (j : Int) ∧ p.1 ≤ (j : Int) ∧ (j : Int) < s.2 ∧ (j : Int) < p.2 := by
        have m1 := maxI_ge s.1 p.1
        have m2 := minI_le s.2 p.2
        simp only [meetS] at hj0 hlt
        omega
      have := hj j hm.1 hm.2.2.1
      simp [inSp, ltI] at this
      omega
    simp only [patF, e]
    exact patF_cut t p hp d fun q hq => h q (by simp [hq])
theorem OC.ok {t : List UInt8} {h d : List Sp} (e : ownOk t h d = true) : OC t h d := by
  obtain ⟨h1, h2, h3, _⟩ := ownOk_t e
  have := spsOk_len h2
  have := spsOk_len h3
  exact ⟨by omega, by omega, by omega⟩
theorem law_FnOwnClean (code : List UInt8) : ev E 5 [.v .ro false [.sl (rowsOfBytes code)]] = some (rB true) := by
  cases e0 : ltI 1048576 code.length
  · obtain ⟨t, h, d, p, o, c1⟩ := ev_DrawOwnClean code
    have b := o.w
    have c2 := fun m m' hm => ev_impl_OwnClean m m' hm t h d p b
    have c3 := fun m m' hm => ev_spec_OwnClean m m' hm t h d p b
    simp only [clean_eq] at c2
    have fin : ∀ T H D, OC T H D → cleanS t h d p = rOB T H D false → ev E 5 [.v .ro false [.sl (rowsOfBytes code)]] = some (rB true) := by
      intro T H D O hr
      rw [hr] at c2 c3
      have bO := O.w
      have c4 := fun m m' hm hm' => ev_OwnSame m m' hm hm' T T H D H D (by have := O.h; omega) (by have := O.d; omega)
      rw [ev_fn Try.f5 rfl Try.func5 rfl rfl rfl (Nat.le_of_ble_eq_true rfl)]
      simp [e0, c1, c2, c3, c4]
    cases e1 : ownOk t h d
    · exact fin [] [] [] ⟨by simp, by simp, by simp⟩ (by simp [cleanS, e1])
    · cases e2 : spOk p
      · exact fin t h d o (by simp [cleanS, e1, e2])
      · cases e3 : ownOk t h (cutS d p)
        · exact fin t h d o (by simp [cleanS, e1, e2, e3])
        · have hr : cleanS t h d p = rOB t h (cutS d p) true := by simp [cleanS, e1, e2, e3]
          rw [hr] at c2 c3
          have O := OC.ok e3
          have bO := O.w
          have hp := spOk_iff.1 e2
          have hpat : patI t h (cutS d p) p = [] := by
            simp only [patI, e3, e2, if_true]
            have hc := (of_can fun j => if inSp j p = true then false else d.any (inSp j)).1
            refine patF_cut t p hp _ fun s hs => ⟨hc.ok s hs, fun j h1 h2 => ?_⟩
            have hj : j < 48 := by have := hc.ok s hs; omega
            have hin : inF (cutS d p) j = true := inF_iff.2 ⟨s, hs, h1, h2⟩
            rw [cutS_get d p j hj] at hin
            simpa using (Bool.and_eq_true_iff.1 hin).1
          have c4 := fun m m' hm hm' => ev_OwnSame m m' hm hm' t t h (cutS d p) h (cutS d p) (by have := O.h; omega) (by have := O.d; omega)
          have c5 := fun m m' => ev_wpSpans m m' h h (by have := O.h; omega)
          have c6 := fun m m' hm => ev_OwnPatches m m' hm t h (cutS d p) p bO
          rw [hpat] at c6
          have c7 := fun m m' m'' hm hm' => ev_wpOwnKeeps m m' m'' hm hm' t h d t h (cutS d p) p b bO fun i hi hn => ⟨by simp [readS, e1, e3], by
            rw [cutS_get d p i hi]
            have : inSp i p = false := by
              rw [← Bool.not_eq_true, inSp_iff]
              exact hn
            simp [this]⟩
          have c8 := fun m hm => ev_impl_OwnOk m hm t h (cutS d p) (by have := O.t; omega) (by have := O.h; omega) (by have := O.d; omega)
          rw [e3] at c8
          generalize cutS d p = d' at *
          rw [ev_fn Try.f5 rfl Try.func5 rfl rfl rfl (Nat.le_of_ble_eq_true rfl)]
          simp [e0, c1, c2, c3, c4, c5, c6, c7, c8]
  · rw [ev_fn Try.f5 rfl Try.func5 rfl rfl rfl (Nat.le_of_ble_eq_true rfl)]
    simp [e0]
end Go.Ev
