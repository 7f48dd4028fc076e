/- My texts joined: EvT32, EvT33, EvT34. No condition. -/
import Derived.Test.YtehlceiadmkbbaaEn8
import Derived.Test.YtehlceiadmkbbaaEn9
/- Answers: the program's file contents. -/
set_option linter.unusedSimpArgs false
set_option linter.unusedVariables false
set_option maxRecDepth 100000
set_option maxHeartbeats 4000000
namespace Go.Ev
open Go.Proofs
theorem repeatL_dot : ∀ n, Lib.repeatL [46] n = List.replicate n 46
  | 0 => rfl
  | n + 1 => by rw [Lib.repeatL, repeatL_dot n]; rfl
theorem ev_Repeat (m m' : M) (k : Nat) (hk : k ≤ 200000) : ev E 83 [.v m false [.str [46]], .v m' false [.int .i64 (k : Int)]] = some { rs := [.v .own false [.str (List.replicate k 46)]], outs := [] } := by
  rw [ev_eq]
  have q0 : (0 : Int) ≤ (k : Int) := by omega
  have q4 : (k : Int) ≤ 9223372036854775807 := by omega
  have q2 : k ≤ 140737488355328 := by omega
  simp [repK, q0, q4, q2, repeatL_dot, leafOut]
def txtOk (s : List UInt8) : Bool := s.all okB && !ltI 48 s.length
theorem txtOk_len {s : List UInt8} (h : txtOk s = true) : s.length ≤ 48 := by
  simp only [txtOk, Bool.and_eq_true, Bool.not_eq_true', ltI_not] at h
  omega
def sizedS (s : List UInt8) (n : Nat) : List UInt8 := if ltI s.length n = true then s ++ List.replicate (n - s.length) 46 else s.take n
theorem ev_sized (m m' : M) (s : List UInt8) (n : Nat) (hn : n ≤ 200000) (hs : s.length ≤ 100000) : ev E 78 [.v m false [.str s], .v m' false [.int .i64 n]] = some { rs := [.v .own false [.str (sizedS s n)]], outs := [] } := by
  rw [ev_fn Try.f78 rfl Try.func78 rfl rfl rfl (Nat.le_of_ble_eq_true rfl)]
  cases e : ltI s.length n
  · have h1 := ltI_not.1 e
    have h2 : n ≤ s.length := by omega
    simp [e, sizedS, h2]
  · have h1 := ltI_iff.1 e
    have hw : IntKind.i64.wrap ((n : Int) - s.length) = ((n - s.length : Nat) : Int) := by rw [wrap64] <;> omega
    have q1 : n - s.length ≤ 9223372036854775807 := by omega
    have q3 : s.length + (n - s.length) ≤ 4611686018427387904 := by omega
    have c := fun m m' => ev_Repeat m m' (n - s.length) (by omega)
    generalize hk : n - s.length = k at *
    simp [e, sizedS, hw, c, q3, hk]
def wrS (s : List UInt8) (k : Nat) (x : List UInt8) : List UInt8 := (s ++ List.replicate (k - s.length) 46).take k ++ x ++ s.drop (k + x.length)
theorem wrS_sized (s x : List UInt8) (k : Nat) : (sizedS s (max s.length (k + x.length))).take k ++ x ++ s.drop (min (k + x.length) s.length) = wrS s k x := by
  unfold wrS sizedS
  congr 1
  · congr 1
    split
    · rename_i h
      rw [ltI_iff] at h
      apply List.ext_getElem?
      intro j
      simp only [List.getElem?_take, List.getElem?_append, List.getElem?_replicate]
      grind
    · rename_i h
      rw [Bool.not_eq_true, ltI_not] at h
      apply List.ext_getElem?
      intro j
      simp only [List.getElem?_take, List.getElem?_append, List.getElem?_replicate]
      grind
  · apply List.ext_getElem?
    intro j
    simp only [List.getElem?_drop]
    by_cases h : k + x.length ≤ s.length
    · rw [Nat.min_eq_left h]
    · rw [Nat.min_eq_right (by omega), List.getElem?_eq_none (by omega), List.getElem?_eq_none (by omega)]
theorem wrS_len (s x : List UInt8) (k : Nat) : (wrS s k x).length = max s.length (k + x.length) := by
  simp [wrS]
  omega
def twS (s : List UInt8) (k : Int) (x : List UInt8) : List UInt8 × Bool := if txtOk s = true then (if wrOk k x = true then (wrS s k.toNat x, true) else (s, false)) else ([], false)
theorem ev_impl_TextWrite (m m' m'' : M) (s x : List UInt8) (k : Int) (hs : s.length ≤ 100000) (hx : x.length ≤ 100000) : ev E 60 [.v m false [.str s], .v m' false [.int .i64 k], .v m'' false [.str x]] = some { rs := [.v .own false [.str (twS s k x).1], .v .own false [.bool (twS s k x).2]], outs := [] } := by
  have c1 : ∀ m, ev E 38 [.v m false [.str s]] = some (rB (txtOk s)) := fun m => ev_impl_TextOk m s (by omega)
  have c2 : ∀ m, ev E 38 [.v m false [.str x]] = some (rB (txtOk x)) := fun m => ev_impl_TextOk m x (by omega)
  have hwr : wrOk k x = (!ltI k 0 && !ltI 48 k && txtOk x && !eqS x [] && !ltI 48 (k + x.length)) := rfl
  by_cases hk : 0 ≤ k ∧ k ≤ 48
  · obtain ⟨n, rfl⟩ : ∃ n : Nat, k = n := ⟨k.toNat, by omega⟩
    have f1 : ltI n 0 = false := ltI_not.2 (by omega)
    have f2 : ltI 48 n = false := ltI_not.2 (by omega)
    have hw : IntKind.i64.wrap ((n : Int) + x.length) = ((n + x.length : Nat) : Int) := by rw [wrap64] <;> omega
    have hm : maxI s.length ((n : Int) + x.length) = ((max s.length (n + x.length) : Nat) : Int) := by simp only [maxI, ltI, decide_eq_true_eq]; split <;> omega
    have hmi : minI ((n : Int) + x.length) s.length = ((min (n + x.length) s.length : Nat) : Int) := by simp only [minI, ltI, decide_eq_true_eq]; split <;> omega
    have c3 := fun m m' => ev_sized m m' s (max s.length (n + x.length)) (by omega) hs
    have hl : (sizedS s (max s.length (n + x.length))).length = max s.length (n + x.length) := by
      unfold sizedS
      split
      · rename_i h; rw [ltI_iff] at h; simp; omega
      · rename_i h; rw [Bool.not_eq_true, ltI_not] at h; simp; omega
    have hws := wrS_sized s x n
    generalize sizedS s (max s.length (n + x.length)) = z at c3 hl hws
    rw [ev_fn Try.f60 rfl Try.func60 rfl rfl rfl (Nat.le_of_ble_eq_true rfl)]
    cases e1 : txtOk s
    · simp [c1, e1, twS]
    · cases e5 : eqS x []
      · cases e4 : txtOk x
        · simp [c1, c2, f1, f2, e1, e4, e5, twS, hwr]
        · have hx48 := txtOk_len e4
          have hs48 := txtOk_len e1
          have g1 : (n : Int) ≤ (max s.length (n + x.length) : Nat) := by omega
          have g2 : n ≤ max s.length (n + x.length) := by omega
          have g3 : min (n + x.length) s.length ≤ s.length := by omega
          have g4 : n + x.length ≤ 4611686018427387904 := by omega
          have g5 : n + (x.length + (s.length - min (n + x.length) s.length)) ≤ 4611686018427387904 := by omega
          have g6 : n + x.length + (s.length - min (n + x.length) s.length) ≤ 4611686018427387904 := by omega
          generalize hmx : max s.length (n + x.length) = mx at *
          generalize hmn : min (n + x.length) s.length = mn at *
          cases e6 : ltI 48 (n + x.length)
          · simp [c1, c2, f1, f2, e1, e4, e5, e6, hw, maxJ, minJ, hm, hmi, c3, hl, twS, hwr, g1, g2, g3, g4, g5, g6, ← hws]
          · simp [c1, c2, f1, f2, e1, e4, e5, e6, hw, twS, hwr]
      · simp [c1, f1, f2, e1, e5, twS, hwr]
  · have hb : wrOk k x = false := by
      rw [hwr]
      by_cases h0 : 0 ≤ k
      · rw [(ltI_iff.2 (by omega) : ltI 48 k = true)]; simp
      · rw [(ltI_iff.2 (by omega) : ltI k 0 = true)]; simp
    rw [ev_fn Try.f60 rfl Try.func60 rfl rfl rfl (Nat.le_of_ble_eq_true rfl)]
    cases e1 : txtOk s
    · simp [c1, e1, twS]
    · cases e2 : ltI k 0
      · have e3 : ltI 48 k = true := ltI_iff.2 (by have := ltI_not.1 e2; omega)
        simp [c1, e1, e2, e3, twS, hb]
      · simp [c1, e1, e2, twS, hb]
end Go.Ev

/- Answers: patches put one behind the other. -/
set_option linter.unusedSimpArgs false
set_option linter.unusedVariables false
set_option maxRecDepth 100000
set_option maxHeartbeats 4000000
namespace Go.Ev
open Go.Proofs
def taF (s : List UInt8) : List Pt → Option (List UInt8)
  | [] => some s
  | q :: qs => if (twS s q.1 q.2).2 = true then taF (twS s q.1 q.2).1 qs else none
theorem twS_ok {s : List UInt8} {k : Int} {x : List UInt8} (h : (twS s k x).2 = true) : txtOk s = true ∧ wrOk k x = true ∧ twS s k x = (wrS s k.toNat x, true) := by
  unfold twS at h ⊢
  cases e1 : txtOk s <;> cases e2 : wrOk k x <;> simp [e1, e2] at h ⊢
theorem wrOk_len {k : Int} {x : List UInt8} (h : wrOk k x = true) : 0 ≤ k ∧ k + x.length ≤ 48 ∧ 0 < x.length ∧ x.all okB = true := by
  simp only [wrOk, Bool.and_eq_true, Bool.not_eq_true', ltI_not, eqS_not] at h
  have := List.length_pos_iff.2 h.1.2
  exact ⟨by omega, by omega, this, h.1.1.2.1⟩
theorem txtOk_wr {s : List UInt8} {k : Int} {x : List UInt8} (h1 : txtOk s = true) (h2 : wrOk k x = true) : txtOk (wrS s k.toNat x) = true := by
  obtain ⟨a1, a2, a3, a4⟩ := wrOk_len h2
  have hs := txtOk_len h1
  simp only [txtOk, Bool.and_eq_true, Bool.not_eq_true', ltI_not] at h1 ⊢
  refine ⟨?_, by rw [wrS_len]; omega⟩
  have h46 : okB 46 = true := by decide
  rw [List.all_eq_true] at h1 a4 ⊢
  intro c hc
  simp only [wrS, List.mem_append] at hc
  rcases hc with (hc | hc) | hc
  · have := List.mem_of_mem_take hc
    rcases List.mem_append.1 this with hc | hc
    · exact h1.1 c hc
    · rw [(List.mem_replicate.1 hc).2]; exact h46
  · exact a4 c hc
  · exact h1.1 c (List.mem_of_mem_drop hc)
theorem lp_TextAll (m m2 : M) (s : List UInt8) (xs : List Pt) (hb : xs.length ≤ 1099511627776) (hx : ∀ q ∈ xs, q.2.length ≤ 100000) (a : Code) (ha : a = lp Try.f29 0) : ∀ (n i : Nat) (m3 : M) (z : List UInt8), i + n = xs.length → z.length ≤ 100000 →
    ∃ me, loopC E (ev E) 29 a { V := [(0, .v m false [.str s]), (6, .v m3 false [.str z]), (15, .v m2 false [.sl (xs.map ptL)]), (16, vi xs.length), (17, vi i)], H := [], ps := [] } =
      match taF z (xs.drop i) with
      | some o => some (.exit 0, { V := [(0, .v m false [.str s]), (6, .v me false [.str o]), (15, .v m2 false [.sl (xs.map ptL)]), (16, vi xs.length), (17, vi xs.length), (18, vb false)], H := [], ps := [] })
      | none => some (.ret, { V := [(4, .v m false [.str s]), (5, vb false)], H := [], ps := [] })
  | 0, i, m3, z, h0, hz => by
    refine ⟨m3, ?_⟩
    rw [loopC_of _ _ _ _ ha]
    obtain rfl : i = xs.length := by omega
    simp [lp, loopsOf, Try.f29, taF]
  | n + 1, i, m3, z, h0, hz => by
    have hlt : i < xs.length := by omega
    have hw := wrapN i (by omega)
    have c := fun m m' m'' => ev_impl_TextWrite m m' m'' z xs[i].2 xs[i].1 hz (hx _ (List.getElem_mem hlt))
    rw [List.drop_eq_getElem_cons hlt, taF]
    cases e : (twS z xs[i].1 xs[i].2).2
    · refine ⟨m3, ?_⟩
      rw [loopC_of _ _ _ _ ha]
      clear ha
      simp [lp, loopsOf, Try.f29, hlt, hw, c, e]
    · obtain ⟨e1, e2, e3⟩ := twS_ok e
      rw [e3] at c ⊢
      have hl : (wrS z xs[i].1.toNat xs[i].2).length ≤ 100000 := by
        have := txtOk_len (txtOk_wr e1 e2)
        omega
      obtain ⟨me, ih⟩ := lp_TextAll m m2 s xs hb hx a ha n (i + 1) .own _ (by omega) hl
      refine ⟨me, ?_⟩
      push_cast at ih
      rw [loopC_of _ _ _ _ ha]
      clear ha
      simp [lp, loopsOf, Try.f29, hlt, hw, c]
      simpa using ih
theorem ev_TextAll (m m2 : M) (s : List UInt8) (xs : List Pt) (hs : s.length ≤ 100000) (hb : xs.length ≤ 1099511627776) (hx : ∀ q ∈ xs, q.2.length ≤ 100000) (h1 : txtOk s = true) {o : List UInt8} (h : taF s xs = some o) :
    ev E 29 [.v m false [.str s], .v m2 false [.sl (xs.map ptL)]] = some { rs := [.v .own false [.str o], .v .own false [.bool true]], outs := [] } := by
  have c1 : ∀ m, ev E 38 [.v m false [.str s]] = some (rB (txtOk s)) := fun m => ev_impl_TextOk m s (by omega)
  obtain ⟨me, hl⟩ := lp_TextAll m m2 s xs hb hx _ rfl xs.length 0 m s (by omega) hs
  rw [List.drop_zero, h] at hl
  push_cast at hl
  rw [ev_fn Try.f29 rfl Try.func29 rfl rfl rfl (Nat.le_of_ble_eq_true rfl)]
  simp [c1, h1]
  rw [loopC_at ?_ hl]
  · simp
  · rfl
end Go.Ev

/- The law: unsaved writes are told exactly. -/
set_option linter.unusedSimpArgs false
set_option linter.unusedVariables false
set_option maxRecDepth 100000
set_option maxHeartbeats 4000000
namespace Go.Ev
open Go.Proofs
theorem wrS_get (s x : List UInt8) (k i : Nat) : (wrS s k x)[i]? = if k ≤ i ∧ i < k + x.length then x[i - k]? else if i < s.length then s[i]? else if i < k then some 46 else none := by
  simp only [wrS, List.getElem?_append, List.getElem?_take, List.getElem?_drop, List.getElem?_replicate, List.length_append, List.length_take, List.length_replicate]
  grind
theorem subS_get (t : List UInt8) (a b i : Nat) (h : a + i < b) : (subS t ((a : Int), (b : Int)))[i]? = t[a + i]? := by
  simp only [subS, List.getElem?_drop, Int.toNat_natCast]
  rw [List.getElem?_take_of_lt h]
theorem wrOk_of {t : List UInt8} (ht : t.length = 48) (hok : t.all okB = true) {a b : Nat} (h1 : a < b) (h2 : b ≤ 48) : wrOk a (subS t ((a : Int), (b : Int))) = true := by
  have hl : (subS t ((a : Int), (b : Int))).length = b - a := by simp [subS]; omega
  simp only [wrOk, Bool.and_eq_true, Bool.not_eq_true', ltI_not, eqS_not, hl]
  refine ⟨⟨⟨⟨by omega, by omega⟩, ?_, by omega⟩, fun e => ?_⟩, by omega⟩
  · rw [List.all_eq_true] at hok ⊢
    exact fun c hc => hok c (List.mem_of_mem_take (List.mem_of_mem_drop hc))
  · rw [e] at hl
    simp at hl
    omega
theorem bool_pass {a b : Bool} (c : Bool) (h : (a && b) = false) : (b && (a || c)) = (b && c) := by cases a <;> cases b <;> simp_all
theorem taF_pat (t : List UInt8) (p : Sp) (ht : t.length = 48) (hok : t.all okB = true) (hp : 0 ≤ p.1 ∧ p.1 < p.2 ∧ p.2 ≤ 48) : ∀ (ds : List Sp) (z : List UInt8), (∀ s ∈ ds, 0 ≤ s.1 ∧ s.1 < s.2 ∧ s.2 ≤ 48) → txtOk z = true →
    ∃ o, taF z (patF t p ds) = some o ∧ txtOk o = true ∧ ∀ i, i < o.length → o[i]? = some (if (inSp i p && inF ds i) = true then t.getD i 0 else z.getD i 46)
  | [], z, _, hz => ⟨z, rfl, hz, fun i hi => by simp [inF, hi]⟩
  | s :: ds, z, hd, hz => by
    have hs := hd s (by simp)
    have hb := meet_bd hs hp
    rw [patF]
    have hm1 := maxI_ge s.1 p.1
    have hm2 := minI_le s.2 p.2
    have hme : (meetS s p).1 = maxI s.1 p.1 ∧ (meetS s p).2 = minI s.2 p.2 := ⟨rfl, rfl⟩
    have hin : ∀ i : Nat, inSp i (meetS s p) = (inSp i s && inSp i p) := fun i => by
      rw [Bool.eq_iff_iff, Bool.and_eq_true, inSp_iff, inSp_iff, inSp_iff, hme.1, hme.2]
      simp only [maxI, minI, ltI, decide_eq_true_eq]
      constructor
      · intro ⟨h1, h2⟩; split at h1 <;> split at h2 <;> omega
      · intro h; constructor <;> split <;> omega
    cases e : ltI (meetS s p).1 (meetS s p).2
    · obtain ⟨o, h1, h2, h3⟩ := taF_pat t p ht hok hp ds z (fun q hq => hd q (by simp [hq])) hz
      refine ⟨o, h1, h2, fun i hi => ?_⟩
      rw [h3 i hi]
      have : inSp i (meetS s p) = false := by
        rw [← Bool.not_eq_true, inSp_iff]
        rw [ltI_not] at e
        omega
      rw [hin i] at this
      have e5 : (inSp i p && inF (s :: ds) i) = (inSp i p && inF ds i) := bool_pass _ this
      simp only [e5]
    · rw [ltI_iff] at e
      obtain ⟨a, ha⟩ : ∃ a : Nat, (meetS s p).1 = a := ⟨(meetS s p).1.toNat, by omega⟩
      obtain ⟨b, hbb⟩ : ∃ b : Nat, (meetS s p).2 = b := ⟨(meetS s p).2.toNat, by omega⟩
      have hms : meetS s p = ((a : Int), (b : Int)) := Prod.ext ha hbb
      rw [hms] at hin e hb ⊢
      dsimp only at e hb
      have hw := wrOk_of ht hok (a := a) (b := b) (by omega) (by omega)
      have htw : twS z a (subS t ((a : Int), (b : Int))) = (wrS z a (subS t ((a : Int), (b : Int))), true) := by simp only [twS, hz, hw, if_true, Int.toNat_natCast]
      have hzw := txtOk_wr hz hw
      rw [Int.toNat_natCast] at hzw
      obtain ⟨o, h1, h2, h3⟩ := taF_pat t p ht hok hp ds _ (fun q hq => hd q (by simp [hq])) hzw
      refine ⟨o, ?_, h2, fun i hi => ?_⟩
      · simp only [if_true, taF, htw]; exact h1
      · rw [h3 i hi]
        have hl : (subS t ((a : Int), (b : Int))).length = b - a := by simp [subS]; omega
        have hi48 := txtOk_len h2
        have hini := hin i
        have hab : inSp i ((a : Int), (b : Int)) = true ↔ a ≤ i ∧ i < b := by rw [inSp_iff]; dsimp only; omega
        have hget := wrS_get z (subS t ((a : Int), (b : Int))) a i
        rw [hl] at hget
        congr 1
        have e4 : inF (s :: ds) i = (inSp i s || inF ds i) := rfl
        by_cases hc : a ≤ i ∧ i < b
        · rw [if_pos (by omega), subS_get t a b _ (by omega), show a + (i - a) = i by omega] at hget
          rw [hab.2 hc] at hini
          have hini := hini.symm
          rw [Bool.and_eq_true] at hini
          simp only [e4, hini.1, hini.2, Bool.true_or, Bool.and_self, Bool.true_and, if_true, List.getD_eq_getElem?_getD, hget]
          rw [List.getElem?_eq_getElem (by omega)]
          simp
        · have hf : inSp i ((a : Int), (b : Int)) = false := by rw [← Bool.not_eq_true, hab]; exact hc
          rw [hf] at hini
          rw [if_neg (by omega)] at hget
          have hz2 : (wrS z a (subS t ((a : Int), (b : Int)))).getD i 46 = z.getD i 46 := by
            rw [List.getD_eq_getElem?_getD, List.getD_eq_getElem?_getD, hget]
            split
            · rfl
            · rename_i h
              rw [List.getElem?_eq_none (by omega : z.length ≤ i)]
              split <;> rfl
          have e5 : (inSp i p && inF (s :: ds) i) = (inSp i p && inF ds i) := bool_pass _ hini.symm
          simp only [hz2, e5]
theorem eq_pt (q r : Pt) : cellsEq (ptL q) (ptL r) = some (eqI q.1 r.1 && eqS q.2 r.2) := by simp
@[simp] theorem eqAgg_patch : eqAgg Try.prog 48 = true := by kernel_rfl
theorem ev_spec_OwnPatches (m m' : M) (hm : m.isOwn = false) (t : List UInt8) (h d : List Sp) (p : Sp) (b : OwB t h d) :
    ev E 27 [.v m true (owL t h d), .v m' true (spL p)] = some { rs := [.v .own false [.sl ((patI t h d p).map ptL)]], outs := [] } := by
  have bt := b.t
  have bh := b.h
  have bd := b.d
  have c1 := fun m hm => ev_spec_OwnOk m hm t h d (by omega) (by omega) (by omega)
  have c2 := fun m => ev_spec_SpanOk m p
  rw [ev_fn Try.f27 rfl Try.func27 rfl rfl rfl (Nat.le_of_ble_eq_true rfl)]
  cases e1 : ownOk t h d
  · simp [c1, e1, hm, patI]
  · cases e2 : spOk p
    · simp [c1, c2, e1, e2, hm, patI]
    · obtain ⟨ht, hsh, hsd, _⟩ := ownOk_t e1
      have c3 := fun m m' hm => ev_l6Patches m m' hm t h d p ht (spsOk_sp hsd) (spOk_iff.1 e2) (by omega)
      simp [c1, c2, c3, e1, e2, hm, patI]
theorem lp_FnOwnPatches0 (t : List UInt8) (h d : List Sp) (p : Sp) (xs : List Pt) (hb : xs.length ≤ 100000) (a : Code) (ha : a = lp Try.f7 0) : ∀ (n i : Nat), i + n = xs.length →
    loopC E (ev E) 7 a { V := [(3, adc 3), (4, adc 4), (5, at1 5), (6, at1 6), (7, vi i)], H := [bx (.c 3) (owL t h d), bx (.c 4) (spL p), ow (.c 5) [.sl (xs.map ptL)], ow (.c 6) [.sl (xs.map ptL)]], ps := [] } =
      some (.exit 0, { V := [(3, adc 3), (4, adc 4), (5, at1 5), (6, at1 6), (7, vi xs.length), (34, vb false)], H := [bx (.c 3) (owL t h d), bx (.c 4) (spL p), ow (.c 5) [.sl (xs.map ptL)], ow (.c 6) [.sl (xs.map ptL)]], ps := [] })
  | 0, i, h0 => by
    rw [loopC_of _ _ _ _ ha]
    obtain rfl : i = xs.length := by omega
    simp [lp, loopsOf, Try.f7]
  | n + 1, i, h0 => by
    have hlt : i < xs.length := by omega
    have hw := wrapN i (by omega)
    have ih := lp_FnOwnPatches0 t h d p xs hb a ha n (i + 1) (by omega)
    push_cast at ih
    rw [loopC_of _ _ _ _ ha]
    clear ha
    simp [lp, loopsOf, Try.f7, hlt, hw]
    simpa using ih
theorem lp_FnOwnPatches2 (mo m8 m9 : M) (t o : List UInt8) (h d : List Sp) (p : Sp) (ht : t.length = 48) (hd : d.length ≤ 100000) (ho : o.length ≤ 48) (hg : ∀ i, i < o.length → o[i]? = some (if (inSp i p && inF d i) = true then t.getD i 0 else 46)) (a : Code) (ha : a = lp Try.f7 1) : ∀ (n i : Nat), i + n = o.length →
    loopC E (ev E) 7 a { V := [(3, adc 3), (4, adc 4), (8, .v m8 false [.str o]), (9, .v m9 false [.bool true]), (10, vi i)], H := [bx (.c 3) (owL t h d), bx (.c 4) (spL p)], ps := [] } =
      some (.exit 2, { V := [(3, adc 3), (4, adc 4), (8, .v m8 false [.str o]), (9, .v m9 false [.bool true]), (10, vi o.length), (65, vb false)], H := [bx (.c 3) (owL t h d), bx (.c 4) (spL p)], ps := [] })
  | 0, i, h0 => by
    rw [loopC_of _ _ _ _ ha]
    obtain rfl : i = o.length := by omega
    simp [lp, loopsOf, Try.f7]
  | n + 1, i, h0 => by
    have hlt : i < o.length := by omega
    have hlt2 : i < t.length := by omega
    have hw := wrapN i (by omega)
    have ih := lp_FnOwnPatches2 mo m8 m9 t o h d p ht hd ho hg a ha n (i + 1) (by omega)
    push_cast at ih
    have c1 : ∀ m m', ev E 13 [.v m false [.sl (d.map spL)], .v m' false [.int .i64 i]] = some (rB (inF d i)) := fun m m' => ev_laws_wpIn m m' d i (by omega)
    have hgi := hg i hlt
    have hti : t.getD i 0 = t[i] := by simp [hlt2]
    have hoi : o[i]? = some o[i] := List.getElem?_eq_getElem hlt
    rw [hoi, hti] at hgi
    have hip : inSp i p = (!ltI i p.1 && ltI i p.2) := rfl
    rw [hip] at hgi
    rw [loopC_of _ _ _ _ ha]
    clear ha
    cases e1 : ltI i p.1
    · cases e2 : ltI i p.2
      · simp only [e1, e2, Bool.and_false, Bool.false_and, Bool.false_eq_true, if_false, Option.some.injEq] at hgi
        simp [lp, loopsOf, Try.f7, hlt, hlt2, hw, c1, e1, e2, hgi]
        simpa using ih
      · cases e3 : inF d i
        · simp only [e1, e2, e3, Bool.and_false, Bool.false_eq_true, if_false, Option.some.injEq] at hgi
          simp [lp, loopsOf, Try.f7, hlt, hlt2, hw, c1, e1, e2, e3, hgi]
          simpa using ih
        · simp only [e1, e2, e3, Bool.not_false, Bool.and_self, if_true, Option.some.injEq] at hgi
          simp [lp, loopsOf, Try.f7, hlt, hlt2, hw, c1, e1, e2, e3, hgi]
          simpa using ih
    · simp only [e1, Bool.not_true, Bool.false_and, Bool.false_eq_true, if_false, Option.some.injEq] at hgi
      simp [lp, loopsOf, Try.f7, hlt, hlt2, hw, c1, e1, hgi]
      simpa using ih
theorem ev_DrawOwnPatches (bs : List UInt8) : ∃ (t : List UInt8) (h d : List Sp) (p : Sp), OC t h d ∧ ev E 26 [.v .ro false [.sl (rowsOfBytes bs)]] = some { rs := [rOw t h d, .v .own true (spL p)], outs := [] } := by
  obtain ⟨t, h, d, p, o, c⟩ := ev_l6Both bs
  refine ⟨t, h, d, p, o, ?_⟩
  rw [ev_fn Try.f26 rfl Try.func26 rfl rfl rfl (Nat.le_of_ble_eq_true rfl)]
  simp [c]
theorem law_FnOwnPatches (code : List UInt8) : ev E 7 [.v .ro false [.sl (rowsOfBytes code)]] = some (rB true) := by
  cases e0 : ltI 1048576 code.length
  · obtain ⟨t, h, d, p, o, c1⟩ := ev_DrawOwnPatches code
    have b := o.w
    have c2 := fun m m' hm => ev_OwnPatches m m' hm t h d p b
    have c3 := fun m m' hm => ev_spec_OwnPatches m m' hm t h d p b
    have hlen : (patI t h d p).length ≤ 100000 := by
      have := patF_len t p d
      have := o.d
      unfold patI
      split <;> (try split) <;> simp <;> omega
    have hl := lp_FnOwnPatches0 t h d p (patI t h d p) hlen _ rfl (patI t h d p).length 0 (by omega)
    have c4 := fun m hm => ev_spec_OwnOk m hm t h d (by have := o.t; omega) (by have := o.h; omega) (by have := o.d; omega)
    have c5 := fun m => ev_spec_SpanOk m p
    push_cast at hl
    cases e1 : ownOk t h d
    · have hp : patI t h d p = [] := by simp [patI, e1]
      rw [hp] at c2 c3 hl
      rw [ev_fn Try.f7 rfl Try.func7 rfl rfl rfl (Nat.le_of_ble_eq_true rfl)]
      simp [e0, c1, c2, c3]
      rw [loopC_at ?_ (by simpa using hl)]
      · simp [c4, e1]
      · rfl
    · cases e2 : spOk p
      · have hp : patI t h d p = [] := by simp [patI, e1, e2]
        rw [hp] at c2 c3 hl
        rw [ev_fn Try.f7 rfl Try.func7 rfl rfl rfl (Nat.le_of_ble_eq_true rfl)]
        simp [e0, c1, c2, c3]
        rw [loopC_at ?_ (by simpa using hl)]
        · simp [c4, c5, e1, e2]
        · rfl
      · have hp : patI t h d p = patF t p d := by simp [patI, e1, e2]
        rw [hp] at c2 c3 hl hlen
        obtain ⟨ht, hsh, hsd, hok⟩ := ownOk_t e1
        obtain ⟨z, h1, h2, h3⟩ := taF_pat t p ht hok (spOk_iff.1 e2) d [] (spsOk_sp hsd) (by decide)
        have hz := txtOk_len h2
        have c6 := fun m m2 => ev_TextAll m m2 [] (patF t p d) (by simp) (by omega) (fun q hq => by
          have : ∀ ds, ∀ q ∈ patF t p ds, q.2.length ≤ 48 := fun ds => by
            induction ds with
            | nil => simp [patF]
            | cons s ds ih =>
              intro q hq
              simp only [patF] at hq
              split at hq
              · rcases List.mem_cons.1 hq with rfl | hq
                · simp [subS]; omega
                · exact ih q hq
              · exact ih q hq
          have := this d q hq
          omega) (by decide) h1
        have hl2 := lp_FnOwnPatches2 .own .own .own t z h d p ht (by have := o.d; omega) hz (fun i hi => by rw [h3 i hi]; simp) _ rfl z.length 0 (by omega)
        push_cast at hl2
        rw [ev_fn Try.f7 rfl Try.func7 rfl rfl rfl (Nat.le_of_ble_eq_true rfl)]
        simp [e0, c1, c2, c3]
        rw [loopC_at ?_ (by simpa using hl)]
        · simp [c4, c5, c6, e1, e2]
          rw [loopC_at ?_ (by simpa using hl2)]
          · simp
          · rfl
        · rfl
  · rw [ev_fn Try.f7 rfl Try.func7 rfl rfl rfl (Nat.le_of_ble_eq_true rfl)]
    simp [e0]
end Go.Ev
