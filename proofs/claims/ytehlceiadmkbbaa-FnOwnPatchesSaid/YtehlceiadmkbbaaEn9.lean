/- My texts joined: EvT15, EvT16, EvT17, EvT18, EvT19, EvT20, EvT21, EvT22, EvT25. No condition. -/
import Derived.Test.YtehlceiadmkbbaaEn8
/- Draws: a number, one of a list. -/
set_option linter.unusedSimpArgs false
set_option linter.unusedVariables false
set_option maxRecDepth 100000
set_option maxHeartbeats 4000000
namespace Go.Ev
open Go.Proofs
abbrev rdL (bs : List UInt8) (p : Nat) : List L := [.sl (rowsOfBytes bs), .int .i64 p]
abbrev rdA (bs : List UInt8) (p : Nat) : Arg := .ptr .ro (rdL bs p)
abbrev rdO (bs : List UInt8) (p : Nat) : M × List L := (.ro, rdL bs p)
structure RdB (bs : List UInt8) (p : Nat) : Prop where
  b : bs.length ≤ 2000
  p : p ≤ 1099511627776
theorem rows_get {bs : List UInt8} {i : Nat} (h : i < bs.length) : (rowsOfBytes bs)[i]? = some [.int .u8 bs[i].toNat] := by simp [rowsOfBytes, h]
@[simp] theorem rows_len (bs : List UInt8) : (rowsOfBytes bs).length = bs.length := by simp [rowsOfBytes]
@[simp] theorem rows_getE {bs : List UInt8} {i : Nat} (h : i < (rowsOfBytes bs).length) : (rowsOfBytes bs)[i] = [.int .u8 (bs[i]'(by simpa using h)).toNat] := by simp [rowsOfBytes]
theorem xor64 (a b : Nat) (ha : a < 4611686018427387904) (hb : b < 4611686018427387904) : IntKind.i64.wrap ((BitVec.ofInt IntKind.i64.bits a ^^^ BitVec.ofInt IntKind.i64.bits b).toNat : Int) = ((a ^^^ b : Nat) : Int) := by
  have h1 : (BitVec.ofInt IntKind.i64.bits a ^^^ BitVec.ofInt IntKind.i64.bits b).toNat = a ^^^ b := by
    have e : IntKind.i64.bits = 64 := rfl
    rw [e, BitVec.toNat_xor, BitVec.toNat_ofInt, BitVec.toNat_ofInt]
    congr 1 <;> omega
  rw [h1]
  have h2 : a ^^^ b < 2 ^ 62 := Nat.xor_lt_two_pow (by omega) (by omega)
  rw [wrap64]
  omega
theorem ev_pick (m : M) (bs : List UInt8) (p : Nat) (n : Int) (b : RdB bs p) (hn : n ≤ 1099511627776) :
    ∃ k : Nat, (1 ≤ n → (k : Int) < n) ∧ ev E 34 [rdA bs p, .v m false [.int .i64 n]] = some { rs := [.v .own false [.int .i64 k]], outs := [rdO bs (p + 1)] } := by
  have bb := b.b
  have bp := b.p
  have hw := wrapN p (by omega)
  have hw2 : IntKind.i64.wrap (p : Int) = p := by rw [wrap64]; omega
  cases e1 : ltI n 1
  · have hn1 := ltI_not.1 e1
    obtain ⟨N, rfl⟩ : ∃ N : Nat, n = N := ⟨n.toNat, by omega⟩
    have hN0 : eqI (N : Int) 0 = false := eqI_not.2 (by omega)
    by_cases h0 : bs.length = 0
    · refine ⟨0, fun _ => by omega, ?_⟩
      rw [ev_fn Try.f34 rfl Try.func34 rfl rfl rfl (Nat.le_of_ble_eq_true rfl)]
      simp [hw, e1, h0]
    · have e2 : eqI bs.length 0 = false := eqI_not.2 (by omega)
      by_cases hlt : p < bs.length
      · refine ⟨bs[p].toNat % N, fun h => by
          have : bs[p].toNat % N < N := Nat.mod_lt _ (by omega)
          omega, ?_⟩
        have hbl : bs[p].toNat < 256 := bs[p].toNat_lt
        have w3 : IntKind.i64.wrap (bs[p].toNat : Int) = bs[p].toNat := by rw [wrap64]; omega
        have w4 : ((bs[p].toNat : Nat) : Int).tmod (N : Int) = ((bs[p].toNat % N : Nat) : Int) := (Int.ofNat_tmod _ _).symm
        rw [ev_fn Try.f34 rfl Try.func34 rfl rfl rfl (Nat.le_of_ble_eq_true rfl)]
        simp [hw, hw2, e1, e2, hlt, w3, w4, hN0]
      · have hlt' : bs.length ≤ p := by omega
        obtain ⟨q1, hq1⟩ : ∃ q, q = p % bs.length := ⟨_, rfl⟩
        obtain ⟨q2, hq2⟩ : ∃ q, q = (p * 7 + 3) % bs.length := ⟨_, rfl⟩
        obtain ⟨q3, hq3⟩ : ∃ q, q = p / bs.length := ⟨_, rfl⟩
        have hi : q1 < bs.length := by rw [hq1]; exact Nat.mod_lt _ (by omega)
        have hj : q2 < bs.length := by rw [hq2]; exact Nat.mod_lt _ (by omega)
        have hd : q3 ≤ p := by rw [hq3]; exact Nat.div_le_self _ _
        obtain ⟨A, hA⟩ : ∃ A, bs[q1].toNat = A := ⟨_, rfl⟩
        obtain ⟨B, hB⟩ : ∃ B, bs[q2].toNat = B := ⟨_, rfl⟩
        have hAl : A < 256 := by rw [← hA]; exact UInt8.toNat_lt _
        have hBl : B < 256 := by rw [← hB]; exact UInt8.toNat_lt _
        obtain ⟨X, hX⟩ : ∃ X, X = A * 131 + B * 1117 + p * 29 + q3 * 53 := ⟨_, rfl⟩
        obtain ⟨q4, hq4⟩ : ∃ q, q = X / 64 := ⟨_, rfl⟩
        have hq4l : q4 ≤ X := by rw [hq4]; exact Nat.div_le_self _ _
        obtain ⟨Y, hY⟩ : ∃ Y, Y = X ^^^ q4 := ⟨_, rfl⟩
        obtain ⟨Z, hZ⟩ : ∃ Z, Z = Y % N := ⟨_, rfl⟩
        refine ⟨Z, fun h => by
          have : Y % N < N := Nat.mod_lt _ (by omega)
          omega, ?_⟩
        have hx := xor64 X q4 (by omega) (by omega)
        rw [← hY] at hx
        have t1 : ((p : Nat) : Int).tmod (bs.length : Int) = (q1 : Int) := by rw [hq1]; exact (Int.ofNat_tmod _ _).symm
        have t2 : IntKind.i64.wrap ((p : Int) * 7) = (p : Int) * 7 := by rw [wrap64]; omega
        have t3 : IntKind.i64.wrap ((p : Int) * 7 + 3) = (p : Int) * 7 + 3 := by rw [wrap64]; omega
        have t4 : ((p : Int) * 7 + 3).tmod (bs.length : Int) = (q2 : Int) := by rw [hq2]; exact (Int.ofNat_tmod (p * 7 + 3) _).symm
        have t5 : IntKind.i64.wrap (A : Int) = A := by rw [wrap64]; omega
        have t6 : IntKind.i64.wrap (B : Int) = B := by rw [wrap64]; omega
        have t7 : IntKind.i64.wrap ((A : Int) * 131) = (A : Int) * 131 := by rw [wrap64]; omega
        have t8 : IntKind.i64.wrap ((B : Int) * 1117) = (B : Int) * 1117 := by rw [wrap64]; omega
        have t9 : IntKind.i64.wrap ((A : Int) * 131 + (B : Int) * 1117) = (A : Int) * 131 + (B : Int) * 1117 := by rw [wrap64]; omega
        have u1 : IntKind.i64.wrap ((p : Int) * 29) = (p : Int) * 29 := by rw [wrap64]; omega
        have u2 : IntKind.i64.wrap ((A : Int) * 131 + (B : Int) * 1117 + (p : Int) * 29) = (A : Int) * 131 + (B : Int) * 1117 + (p : Int) * 29 := by rw [wrap64]; omega
        have u3 : ((p : Nat) : Int).tdiv (bs.length : Int) = (q3 : Int) := by rw [hq3]; exact (Int.ofNat_tdiv _ _).symm
        have u4 : IntKind.i64.wrap (q3 : Int) = q3 := by rw [wrap64]; omega
        have u5 : IntKind.i64.wrap ((q3 : Int) * 53) = (q3 : Int) * 53 := by rw [wrap64]; omega
        have u6 : IntKind.i64.wrap ((A : Int) * 131 + (B : Int) * 1117 + (p : Int) * 29 + (q3 : Int) * 53) = (X : Int) := by rw [wrap64] <;> omega
        have u7 : ((X : Nat) : Int).tdiv 64 = (q4 : Int) := by rw [hq4]; exact (Int.ofNat_tdiv X 64).symm
        have u8 : IntKind.i64.wrap (q4 : Int) = q4 := by rw [wrap64]; omega
        have u9 : ((Y : Nat) : Int).tmod (N : Int) = (Z : Int) := by rw [hZ]; exact (Int.ofNat_tmod _ _).symm
        have hx2 : IntKind.i64.wrap ((X ^^^ q4 : Nat) : Int) = (Y : Int) := by
          have e : (BitVec.ofInt IntKind.i64.bits X ^^^ BitVec.ofInt IntKind.i64.bits q4).toNat = X ^^^ q4 := by
            have e : IntKind.i64.bits = 64 := rfl
            rw [e, BitVec.toNat_xor, BitVec.toNat_ofInt, BitVec.toNat_ofInt]
            congr 1 <;> omega
          rw [← e]; exact hx
        have m1 : X % 2 ^ IntKind.i64.bits = X := Nat.mod_eq_of_lt (by show X < 2 ^ 64; omega)
        have m2 : q4 % 2 ^ IntKind.i64.bits = q4 := Nat.mod_eq_of_lt (by show q4 < 2 ^ 64; omega)
        rw [ev_fn Try.f34 rfl Try.func34 rfl rfl rfl (Nat.le_of_ble_eq_true rfl)]
        simp [m1, m2, hw, hw2, e1, e2, hlt', hN0, hi, hj, hA, hB, t1, t2, t3, t4, t5, t6, t7, t8, t9, u1, u2, u3, u4, u5, u6, u7, u8, u9, hx, hx2, eqI_false]
  · refine ⟨0, fun h => by have := ltI_iff.1 e1; omega, ?_⟩
    rw [ev_fn Try.f34 rfl Try.func34 rfl rfl rfl (Nat.le_of_ble_eq_true rfl)]
    simp [hw, e1]
theorem ev_num (m : M) (bs : List UInt8) (p : Nat) (xs : List Int) (b : RdB bs p) (hx : 0 < xs.length) (hx2 : xs.length ≤ 100000) :
    ∃ v ∈ xs, ev E 66 [rdA bs p, .v m false [.sl (xs.map fun x => [L.int .i64 x])]] = some { rs := [.v .own false [.int .i64 v]], outs := [rdO bs (p + 1)] } := by
  obtain ⟨k, hk, hc⟩ := ev_pick .ro bs p xs.length b (by omega)
  have hk := hk (by omega)
  have hkl : k < xs.length := by omega
  refine ⟨xs[k], List.getElem_mem hkl, ?_⟩
  rw [ev_fn Try.f66 rfl Try.func66 rfl rfl rfl (Nat.le_of_ble_eq_true rfl)]
  simp [hc, hkl]
theorem ev_ofS (m : M) (bs : List UInt8) (p : Nat) (xs : List (List UInt8)) (b : RdB bs p) (hx : 0 < xs.length) (hx2 : xs.length ≤ 100000) :
    ∃ v ∈ xs, ev E 64 [rdA bs p, .v m false [.sl (xs.map fun x => [L.str x])]] = some { rs := [.v .own false [.str v]], outs := [rdO bs (p + 1)] } := by
  obtain ⟨k, hk, hc⟩ := ev_pick .ro bs p xs.length b (by omega)
  have hk := hk (by omega)
  have hkl : k < xs.length := by omega
  refine ⟨xs[k], List.getElem_mem hkl, ?_⟩
  rw [ev_fn Try.f64 rfl Try.func64 rfl rfl rfl (Nat.le_of_ble_eq_true rfl)]
  simp [hc, hkl]
end Go.Ev

/- Draws: parts and bytes. -/
set_option linter.unusedSimpArgs false
set_option linter.unusedVariables false
set_option maxRecDepth 100000
set_option maxHeartbeats 4000000
namespace Go.Ev
open Go.Proofs
theorem RdB.add {bs : List UInt8} {p q : Nat} (b : RdB bs p) (h : p + q ≤ 1099511627776) : RdB bs (p + q) := ⟨b.b, h⟩
theorem ev_l1Span (bs : List UInt8) (p : Nat) (b : RdB bs p) (hp : p + 2 ≤ 1099511627776) :
    ∃ s : Sp, (0 ≤ s.1 ∧ s.1 < s.2 ∧ s.2 ≤ 48) ∧ ev E 63 [rdA bs p] = some { rs := [.v .own true (spL s)], outs := [rdO bs (p + 2)] } := by
  obtain ⟨k, hk, c1⟩ := ev_pick .ro bs p 47 b (by omega)
  have hk := hk (by omega)
  obtain ⟨v, hv, c2⟩ := ev_num .tn bs (p + 1) [0, 1, 3, 5, 9, 20, 47] (b.add (by omega)) (by simp) (by simp)
  have hv2 : 0 ≤ v ∧ v ≤ 47 := by
    simp at hv
    omega
  have w1 : IntKind.i64.wrap ((k : Int) + 1) = (k : Int) + 1 := by rw [wrap64]; omega
  have w2 : IntKind.i64.wrap ((k : Int) + 1 + v) = (k : Int) + 1 + v := by rw [wrap64]; omega
  have c3 := fun m m' => ev_spec_l1Min m m' 48 ((k : Int) + 1 + v)
  refine ⟨((k : Int), minI 48 ((k : Int) + 1 + v)), ⟨by dsimp only; omega, ?_, ?_⟩, ?_⟩
  · dsimp only [minI]; split <;> omega
  · dsimp only [minI]; split <;> rename_i h <;> simp [ltI] at h <;> omega
  · simp at c2
    rw [ev_fn Try.f63 rfl Try.func63 rfl rfl rfl (Nat.le_of_ble_eq_true rfl)]
    simp [c1, c2, c3, w1, w2]
end Go.Ev

/- Draws: bytes. -/
set_option linter.unusedSimpArgs false
set_option linter.unusedVariables false
set_option maxRecDepth 100000
set_option maxHeartbeats 4000000
namespace Go.Ev
open Go.Proofs
abbrev adp (i : Nat) : AV := .ad (.p i) 0 0 0 []
abbrev rdH (bs : List UInt8) (p : Nat) : Root × HC := bxm (.p 0) .ro (rdL bs p)
theorem lp_l6Fit (bs : List UInt8) (hb : bs.length ≤ 2000) (lo hi : Int) (h1 : 0 ≤ lo) (h2 : lo ≤ hi) (h3 : hi ≤ 48) (a : Code) (ha : a = lp Try.f36 0) : ∀ (n p : Nat) (m0 : M) (out : List UInt8), out.length + n = (hi - lo).toNat → p + n ≤ 1099511627776 →
    ∃ m' x, x.length = (hi - lo).toNat ∧ loopC E (ev E) 36 a { V := [(0, adp 0), (3, adc 3), (5, .v m0 false [.str out])], H := [rdH bs p, bx (.c 3) [.int .i64 lo, .int .i64 hi]], ps := [0] } =
      some (.exit 0, { V := [(0, adp 0), (3, adc 3), (5, .v m' false [.str x]), (13, vb false)], H := [rdH bs (p + n), bx (.c 3) [.int .i64 lo, .int .i64 hi]], ps := [0] })
  | 0, p, m0, out, h, hp => by
    refine ⟨m0, out, by omega, ?_⟩
    have hw : IntKind.i64.wrap (hi - lo) = hi - lo := by rw [wrap64]; omega
    have hle : hi - lo ≤ (out.length : Int) := by omega
    rw [loopC_of _ _ _ _ ha]
    simp [lp, loopsOf, Try.f36, hw, hle]
  | n + 1, p, m0, out, h, hp => by
    obtain ⟨v, hv, c⟩ := ev_ofS .tn bs p [[97], [98], [99], [55], [46]] ⟨hb, by omega⟩ (by simp) (by simp)
    have hvl : v.length = 1 := by simp at hv; rcases hv with rfl | rfl | rfl | rfl | rfl <;> rfl
    obtain ⟨m', x, hx, ih⟩ := lp_l6Fit bs hb lo hi h1 h2 h3 a ha n (p + 1) .ro (out ++ v) (by simp [hvl]; omega) (by omega)
    refine ⟨m', x, hx, ?_⟩
    have hw : IntKind.i64.wrap (hi - lo) = hi - lo := by rw [wrap64]; omega
    have hlt : (out.length : Int) < hi - lo := by omega
    have hsz : out.length + v.length ≤ 4611686018427387904 := by omega
    simp at c
    rw [loopC_of _ _ _ _ ha]
    clear ha
    simp [lp, loopsOf, Try.f36, hw, hlt, c, hsz]
    simp only [show p + 1 + n = p + (n + 1) by omega] at ih
    simpa using ih
theorem ev_l6Fit (bs : List UInt8) (p : Nat) (m : M) (s : Sp) (b : RdB bs p) (h1 : 0 ≤ s.1) (h2 : s.1 ≤ s.2) (h3 : s.2 ≤ 48) (hp : p + 48 ≤ 1099511627776) :
    ∃ x : List UInt8, x.length = (s.2 - s.1).toNat ∧ ev E 36 [rdA bs p, .v m true (spL s)] = some { rs := [.v .own false [.str x]], outs := [rdO bs (p + (s.2 - s.1).toNat)] } := by
  obtain ⟨m', x, hx, hl⟩ := lp_l6Fit bs b.b s.1 s.2 h1 h2 h3 _ rfl (s.2 - s.1).toNat p .ro [] (by simp) (by omega)
  refine ⟨x, hx, ?_⟩
  rw [ev_fn Try.f36 rfl Try.func36 rfl rfl rfl (Nat.le_of_ble_eq_true rfl)]
  simp
  rw [loopC_at ?_ hl]
  · simp
  · rfl
theorem lp_l2Text (mm : M) (bs : List UInt8) (hb : bs.length ≤ 2000) (a : Code) (ha : a = lp Try.f69 0) : ∀ (n p : Nat) (m0 m1 : M) (out : List UInt8), n ≤ 100 → out.length + n ≤ 1000 → p + n ≤ 1099511627776 →
    ∃ m' m'' x, x.length = out.length + n ∧ loopC E (ev E) 69 a { V := [(0, adp 0), (5, .v m0 false [.str out]), (6, .v m1 false [.int .i64 n])], H := [rdH bs p], ps := [0] } =
      some (.exit 0, { V := [(0, adp 0), (5, .v m' false [.str x]), (6, .v m'' false [.int .i64 0]), (12, vb false)], H := [rdH bs (p + n)], ps := [0] })
  | 0, p, m0, m1, out, hn, ho, hp => by
    refine ⟨m0, m1, out, by omega, ?_⟩
    rw [loopC_of _ _ _ _ ha]
    simp [lp, loopsOf, Try.f69]
  | n + 1, p, m0, m1, out, hn, ho, hp => by
    obtain ⟨v, hv, c⟩ := ev_ofS .tn bs p [[97], [98], [99], [55], [46], [122]] ⟨hb, by omega⟩ (by simp) (by simp)
    have hvl : v.length = 1 := by simp at hv; rcases hv with rfl | rfl | rfl | rfl | rfl | rfl <;> rfl
    have hsz : out.length + v.length ≤ 4611686018427387904 := by omega
    have hol : (out ++ v).length = out.length + 1 := by simp [hvl]
    obtain ⟨m', m'', x, hx, ih⟩ := lp_l2Text mm bs hb a ha n (p + 1) .ro .ro (out ++ v) (by omega) (by omega) (by omega)
    refine ⟨m', m'', x, by omega, ?_⟩
    have hw : IntKind.i64.wrap (n : Int) = n := by rw [wrap64]; omega
    have hlt : (0 : Int) < (n : Int) + 1 := by omega
    simp at c
    rw [loopC_of _ _ _ _ ha]
    clear ha
    simp [lp, loopsOf, Try.f69, hw, hlt, c, hsz]
    simp only [show p + 1 + n = p + (n + 1) by omega] at ih
    simpa using ih
theorem ev_l2Text (m : M) (bs : List UInt8) (p : Nat) (N : Nat) (hN : N ≤ 90) (b : RdB bs p) (hp : p + 100 ≤ 1099511627776) :
    ∃ (x : List UInt8) (q : Nat), x.length ≤ 100 ∧ q ≤ 100 ∧ ev E 69 [rdA bs p, .v m false [.int .i64 N]] = some { rs := [.v .own false [.str x]], outs := [rdO bs (p + q)] } := by
  obtain ⟨k, hk, c1⟩ := ev_pick .ro bs p ((N : Int) + 1) b (by omega)
  have hk := hk (by omega)
  obtain ⟨m', m'', x, hx, hl⟩ := lp_l2Text .ro bs b.b _ rfl k (p + 1) .ro .own [] (by omega) (by simp; omega) (by omega)
  have hw := wrapN N (by omega)
  refine ⟨x, 1 + k, by simp at hx; omega, by omega, ?_⟩
  rw [ev_fn Try.f69 rfl Try.func69 rfl rfl rfl (Nat.le_of_ble_eq_true rfl)]
  simp [hw, c1]
  rw [loopC_at ?_ hl]
  · simp
    omega
  · rfl
theorem ev_l2Data (bs : List UInt8) (p : Nat) (b : RdB bs p) (hp : p + 200 ≤ 1099511627776) :
    ∃ (x : List UInt8) (q : Nat), x.length ≤ 200 ∧ q ≤ 200 ∧ ev E 35 [rdA bs p] = some { rs := [.v .own false [.str x]], outs := [rdO bs (p + q)] } := by
  obtain ⟨k, hk, c1⟩ := ev_pick .ro bs p 24 b (by omega)
  have b1 : RdB bs (p + 1) := b.add (by omega)
  by_cases hk0 : k = 0
  · subst hk0
    have c2 := fun m m' => ev_l2Long m m' [97] 49 (by omega) (by simp)
    obtain ⟨v, hv, c3⟩ := ev_ofS .tn bs (p + 1) [[], [65], [97, 32, 98], 97 :: List.replicate 48 46] b1 (by simp) (by simp)
    refine ⟨v, 2, ?_, by omega, ?_⟩
    · simp only [List.mem_cons, List.not_mem_nil, or_false] at hv
      rcases hv with rfl | rfl | rfl | rfl <;> simp
    · simp at c2 c3
      rw [ev_fn Try.f35 rfl Try.func35 rfl rfl rfl (Nat.le_of_ble_eq_true rfl)]
      simp [c1, c2, c3]
  · have e : eqI k 0 = false := eqI_not.2 (by omega)
    obtain ⟨v, hv, c3⟩ := ev_ofS .tn bs (p + 1) [[120], [120, 121], [113, 57, 46], [48, 49, 50, 51, 52, 53, 54], [109]] b1 (by simp) (by simp)
    have hvl : v.length ≤ 7 := by
      simp only [List.mem_cons, List.not_mem_nil, or_false] at hv
      rcases hv with rfl | rfl | rfl | rfl | rfl <;> simp
    obtain ⟨x, q, hx, hq, c4⟩ := ev_l2Text .ro bs (p + 1 + 1) 6 (by omega) (b.add (q := 2) (by omega)) (by omega)
    refine ⟨v ++ x, 2 + q, by simp; omega, by omega, ?_⟩
    have hsz : v.length + x.length ≤ 4611686018427387904 := by omega
    push_cast at c4
    simp at c3
    rw [ev_fn Try.f35 rfl Try.func35 rfl rfl rfl (Nat.le_of_ble_eq_true rfl)]
    simp [c1, c3, c4, e, hsz]
    omega
end Go.Ev

/- Draws: bent bytes, bent parts, lists of parts. -/
set_option linter.unusedSimpArgs false
set_option linter.unusedVariables false
set_option maxRecDepth 100000
set_option maxHeartbeats 4000000
namespace Go.Ev
open Go.Proofs
theorem ev_l2Some (bs : List UInt8) (p : Nat) (b : RdB bs p) (hp : p + 200 ≤ 1099511627776) :
    ∃ (x : List UInt8) (q : Nat), x.length ≤ 200 ∧ q ≤ 200 ∧ ev E 61 [rdA bs p] = some { rs := [.v .own false [.str x]], outs := [rdO bs (p + q)] } := by
  obtain ⟨v, hv, c1⟩ := ev_num .tn bs p [6, 12, 20, 30, 48] b (by simp) (by simp)
  obtain ⟨N, rfl⟩ : ∃ N : Nat, v = N := ⟨v.toNat, by simp at hv; omega⟩
  have hN : N ≤ 48 := by simp at hv; omega
  obtain ⟨x, q, hx, hq, c2⟩ := ev_l2Text .own bs (p + 1) N (by omega) ⟨b.b, by omega⟩ (by omega)
  obtain ⟨k, hk, c3⟩ := ev_pick .ro bs (p + 1 + q) 60 ⟨b.b, by omega⟩ (by omega)
  simp at c1
  have hx1 : x.length + 1 ≤ 4611686018427387904 := by omega
  by_cases k0 : k = 0
  · subst k0
    refine ⟨x ++ [65], 2 + q, by simp; omega, by omega, ?_⟩
    rw [ev_fn Try.f61 rfl Try.func61 rfl rfl rfl (Nat.le_of_ble_eq_true rfl)]
    simp [c1, c2, c3, hx1]
    omega
  · have e0 : eqI k 0 = false := eqI_not.2 (by omega)
    by_cases k1 : k = 1
    · subst k1
      refine ⟨x ++ [32], 2 + q, by simp; omega, by omega, ?_⟩
      push_cast at c3
      rw [ev_fn Try.f61 rfl Try.func61 rfl rfl rfl (Nat.le_of_ble_eq_true rfl)]
      simp [c1, c2, c3, hx1, eqI]
      omega
    · have e1 : eqI k 1 = false := eqI_not.2 (by omega)
      by_cases k2 : k = 2
      · subst k2
        have c4 := fun m m' => ev_l2Long m m' x 49 (by omega) (by omega)
        push_cast at c3 c4
        refine ⟨x ++ List.replicate (49 - x.length) 46, 2 + q, by simp; omega, by omega, ?_⟩
        rw [ev_fn Try.f61 rfl Try.func61 rfl rfl rfl (Nat.le_of_ble_eq_true rfl)]
        simp [c1, c2, c3, c4, eqI]
        omega
      · have e2 : eqI k 2 = false := eqI_not.2 (by omega)
        refine ⟨x, 2 + q, by omega, by omega, ?_⟩
        rw [ev_fn Try.f61 rfl Try.func61 rfl rfl rfl (Nat.le_of_ble_eq_true rfl)]
        simp [c1, c2, c3, e0, e1, e2]
        omega
theorem ev_l1Some (bs : List UInt8) (p : Nat) (b : RdB bs p) (hp : p + 3 ≤ 1099511627776) :
    ∃ s : Sp, ev E 33 [rdA bs p] = some { rs := [.v .own true (spL s)], outs := [rdO bs (p + 3)] } := by
  obtain ⟨s, hs, c1⟩ := ev_l1Span bs p b (by omega)
  obtain ⟨k, hk, c2⟩ := ev_pick .ro bs (p + 2) 48 ⟨b.b, by omega⟩ (by omega)
  by_cases k0 : k = 0
  · subst k0
    refine ⟨(s.1, s.1), ?_⟩
    rw [ev_fn Try.f33 rfl Try.func33 rfl rfl rfl (Nat.le_of_ble_eq_true rfl)]
    simp [c1, c2]
  · have e0 : eqI k 0 = false := eqI_not.2 (by omega)
    by_cases k1 : k = 1
    · subst k1
      refine ⟨(-1, s.2), ?_⟩
      push_cast at c2
      rw [ev_fn Try.f33 rfl Try.func33 rfl rfl rfl (Nat.le_of_ble_eq_true rfl)]
      simp [c1, c2, eqI]
    · have e1 : eqI k 1 = false := eqI_not.2 (by omega)
      by_cases k2 : k = 2
      · subst k2
        refine ⟨(s.1, 49), ?_⟩
        push_cast at c2
        rw [ev_fn Try.f33 rfl Try.func33 rfl rfl rfl (Nat.le_of_ble_eq_true rfl)]
        simp [c1, c2, eqI]
      · have e2 : eqI k 2 = false := eqI_not.2 (by omega)
        by_cases k3 : k = 3
        · subst k3
          refine ⟨(9223372036854775807, -9223372036854775808), ?_⟩
          push_cast at c2
          rw [ev_fn Try.f33 rfl Try.func33 rfl rfl rfl (Nat.le_of_ble_eq_true rfl)]
          simp [c1, c2, eqI]
        · have e3 : eqI k 3 = false := eqI_not.2 (by omega)
          refine ⟨s, ?_⟩
          rw [ev_fn Try.f33 rfl Try.func33 rfl rfl rfl (Nat.le_of_ble_eq_true rfl)]
          simp [c1, c2, e0, e1, e2, e3]
theorem lp_l1List0 (bs : List UInt8) (hb : bs.length ≤ 2000) (a : Code) (ha : a = lp Try.f79 0) : ∀ (n p : Nat) (m0 : M) (out : List Sp), n ≤ 100 → out.length ≤ 48 → p + 5 * n ≤ 1099511627776 →
    ∃ (m' : M) (q : Nat) (x : List Sp), x.length ≤ 48 ∧ q ≤ 5 * n ∧ loopC E (ev E) 79 a { V := [(0, adp 0), (3, at1 3), (4, .v m0 false [.int .i64 n])], H := [rdH bs p, ow (.c 3) [.sl (out.map spL)]], ps := [0] } =
      some (.exit 0, { V := [(0, adp 0), (3, at1 3), (4, .v m' false [.int .i64 0]), (12, vb false)], H := [rdH bs (p + q), ow (.c 3) [.sl (x.map spL)]], ps := [0] })
  | 0, p, m0, out, hn, ho, hp => by
    refine ⟨m0, 0, out, by omega, by omega, ?_⟩
    rw [loopC_of _ _ _ _ ha]
    simp [lp, loopsOf, Try.f79]
  | n + 1, p, m0, out, hn, ho, hp => by
    have b : RdB bs p := ⟨hb, by omega⟩
    obtain ⟨s, hs, c1⟩ := ev_l1Span bs p b (by omega)
    have c2 : ∀ m m', ev E 48 [.v m false [.sl (out.map spL)], .v m' true (spL s)] = some { rs := [.v .own false [.sl ((addS out s).map spL)]], outs := [] } := fun m m' => ev_spec_l1Add m m' out s (by omega) (by omega) (by omega) (by omega)
    have hl2 := addS_len out s
    obtain ⟨k, hk, c3⟩ := ev_pick .ro bs (p + 2) 3 ⟨b.b, by omega⟩ (by omega)
    have hw : IntKind.i64.wrap (n : Int) = n := by rw [wrap64]; omega
    have hlt : (0 : Int) < (n : Int) + 1 := by omega
    by_cases k0 : k = 0
    · subst k0
      obtain ⟨s', hs', c4⟩ := ev_l1Span bs (p + 2 + 1) ⟨b.b, by omega⟩ (by omega)
      have c5 : ∀ m m', ev E 55 [.v m false [.sl ((addS out s).map spL)], .v m' true (spL s')] = some { rs := [.v .own false [.sl ((cutS (addS out s) s').map spL)]], outs := [] } := fun m m' => ev_spec_l1Cut m m' (addS out s) s' (by omega) (by omega) (by omega) (by omega)
      have hl3 := cutS_len (addS out s) s'
      have c6 := fun m => ev_spec_SpansOk m (cutS (addS out s) s') (by omega)
      cases e : spsOk (cutS (addS out s) s')
      · obtain ⟨m', q, x, hx, hq, ih⟩ := lp_l1List0 bs hb a ha n (p + 5) .ro out (by omega) (by omega) (by omega)
        refine ⟨m', q + 5, x, hx, by omega, ?_⟩
        rw [loopC_of _ _ _ _ ha]
        clear ha
        simp [lp, loopsOf, Try.f79, hw, hlt, c1, c2, c3, c4, c5, c6, e]
        simp only [show p + 5 + q = p + (q + 5) by omega] at ih
        simpa using ih
      · obtain ⟨m', q, x, hx, hq, ih⟩ := lp_l1List0 bs hb a ha n (p + 5) .ro (cutS (addS out s) s') (by omega) (by omega) (by omega)
        refine ⟨m', q + 5, x, hx, by omega, ?_⟩
        rw [loopC_of _ _ _ _ ha]
        clear ha
        simp [lp, loopsOf, Try.f79, hw, hlt, c1, c2, c3, c4, c5, c6, e]
        simp only [show p + 5 + q = p + (q + 5) by omega] at ih
        simpa using ih
    · have e0 : eqI k 0 = false := eqI_not.2 (by omega)
      have c6 := fun m => ev_spec_SpansOk m (addS out s) (by omega)
      cases e : spsOk (addS out s)
      · obtain ⟨m', q, x, hx, hq, ih⟩ := lp_l1List0 bs hb a ha n (p + 3) .ro out (by omega) (by omega) (by omega)
        refine ⟨m', q + 3, x, hx, by omega, ?_⟩
        rw [loopC_of _ _ _ _ ha]
        clear ha
        simp [lp, loopsOf, Try.f79, hw, hlt, c1, c2, c3, c6, e, e0]
        simp only [show p + 3 + q = p + (q + 3) by omega] at ih
        simpa using ih
      · obtain ⟨m', q, x, hx, hq, ih⟩ := lp_l1List0 bs hb a ha n (p + 3) .ro (addS out s) (by omega) (by omega) (by omega)
        refine ⟨m', q + 3, x, hx, by omega, ?_⟩
        rw [loopC_of _ _ _ _ ha]
        clear ha
        simp [lp, loopsOf, Try.f79, hw, hlt, c1, c2, c3, c6, e, e0]
        simp only [show p + 3 + q = p + (q + 3) by omega] at ih
        simpa using ih
end Go.Ev

/- Draws: lists of parts. -/
set_option linter.unusedSimpArgs false
set_option linter.unusedVariables false
set_option maxRecDepth 100000
set_option maxHeartbeats 4000000
namespace Go.Ev
open Go.Proofs
theorem lp_l1List1 (bs : List UInt8) (hb : bs.length ≤ 2000) (a : Code) (ha : a = lp Try.f79 1) : ∀ (n i p : Nat) (out : List Sp), i + n = 12 → out.length = i → p + n + 1 ≤ 1099511627776 →
    ∃ (q : Nat) (x : List Sp) (k : Nat), x.length ≤ 12 ∧ q ≤ n + 1 ∧ loopC E (ev E) 79 a { V := [(0, adp 0), (3, at1 3), (6, vi i)], H := [rdH bs p, ow (.c 3) [.sl (out.map spL)]], ps := [0] } =
      some (.exit 2, { V := [(0, adp 0), (3, at1 3), (6, vi k), (37, vb false)], H := [rdH bs (p + q), ow (.c 3) [.sl (x.map spL)]], ps := [0] })
  | n, i, p, out, hn, ho, hp => by
    obtain ⟨k, hk, c1⟩ := ev_pick .ro bs p 2 ⟨hb, by omega⟩ (by omega)
    have hk := hk (by omega)
    have hw : IntKind.i64.wrap (12 - (k : Int)) = 12 - (k : Int) := by rw [wrap64]; omega
    by_cases hlt : (i : Int) < 12 - (k : Int)
    · match n, hn, hp with
      | 0, hn, hp => omega
      | n + 1, hn, hp =>
        obtain ⟨q, x, k', hx, hq, ih⟩ := lp_l1List1 bs hb a ha n (i + 1) (p + 1) (out ++ [((3 : Int) * i, (3 : Int) * i + 1)]) (by omega) (by simp; omega) (by omega)
        refine ⟨q + 1, x, k', hx, by omega, ?_⟩
        have w1 := wrapN i (by omega)
        have w2 : IntKind.i64.wrap (3 * (i : Int)) = 3 * (i : Int) := by rw [wrap64]; omega
        have w3 : IntKind.i64.wrap (3 * (i : Int) + 1) = 3 * (i : Int) + 1 := by rw [wrap64]; omega
        have hsz : (i + 1) * 16 ≤ 17592186044416 := by omega
        have hsz2 : i + 1 ≤ 17592186044416 := by omega
        rw [loopC_of _ _ _ _ ha]
        clear ha
        simp [lp, loopsOf, Try.f79, c1, hw, hlt, w1, w2, w3, ho, hsz, hsz2]
        simp only [show p + 1 + q = p + (q + 1) by omega] at ih
        simpa using ih
    · refine ⟨1, out, i, by omega, by omega, ?_⟩
      have hle : 12 - (k : Int) ≤ (i : Int) := by omega
      rw [loopC_of _ _ _ _ ha]
      simp [lp, loopsOf, Try.f79, c1, hw, hle]
theorem ev_l1List (bs : List UInt8) (p : Nat) (b : RdB bs p) (hp : p + 100 ≤ 1099511627776) :
    ∃ (q : Nat) (x : List Sp), x.length ≤ 48 ∧ q ≤ 100 ∧ ev E 79 [rdA bs p] = some { rs := [.v .own false [.sl (x.map spL)]], outs := [rdO bs (p + q)] } := by
  obtain ⟨v, hv, c1⟩ := ev_num .tn bs p [1, 2, 3, 5, 0, 9] b (by simp) (by simp)
  obtain ⟨N, rfl⟩ : ∃ N : Nat, v = N := ⟨v.toNat, by simp at hv; omega⟩
  have hN : N ≤ 9 := by simp at hv; omega
  obtain ⟨m', q, x, hx, hq, hl⟩ := lp_l1List0 bs b.b _ rfl N (p + 1) .own [] (by omega) (by simp) (by omega)
  obtain ⟨k, hk, c2⟩ := ev_pick .ro bs (p + 1 + q) 10 ⟨b.b, by omega⟩ (by omega)
  simp at c1 hl
  by_cases k0 : k = 0
  · subst k0
    obtain ⟨q', x', k', hx', hq', hl'⟩ := lp_l1List1 bs b.b _ rfl 12 0 (p + 1 + q + 1) [] (by omega) (by simp) (by omega)
    refine ⟨q + q' + 2, x', by omega, by omega, ?_⟩
    push_cast at hl'
    rw [List.map_nil] at hl'
    rw [ev_fn Try.f79 rfl Try.func79 rfl rfl rfl (Nat.le_of_ble_eq_true rfl)]
    simp [c1]
    rw [loopC_at ?_ hl]
    · simp [c2]
      rw [loopC_at ?_ hl']
      · simp
        omega
      · rfl
    · rfl
  · have e0 : eqI k 0 = false := eqI_not.2 (by omega)
    refine ⟨q + 2, x, by omega, by omega, ?_⟩
    rw [ev_fn Try.f79 rfl Try.func79 rfl rfl rfl (Nat.le_of_ble_eq_true rfl)]
    simp [c1]
    rw [loopC_at ?_ hl]
    · simp [c2, e0]
      omega
    · rfl
end Go.Ev

/- Draws: bent lists of parts, caches. -/
set_option linter.unusedSimpArgs false
set_option linter.unusedVariables false
set_option maxRecDepth 100000
set_option maxHeartbeats 4000000
namespace Go.Ev
open Go.Proofs
theorem lp_l1Lists (bs : List UInt8) (p N : Nat) (hN : 1 ≤ N) (hN2 : N ≤ 48) (m4 : M) (a : Code) (ha : a = lp Try.f62 0) : ∀ (n : Nat) (V0 : List (Nat × AV)) (out : List Sp), look V0 3 = at1 3 → look V0 4 = .v m4 false [.int .i64 N] → 13 ≤ out.length + n → N ≤ out.length → out.length ≤ 60 →
    ∃ (x : List Sp), x.length ≤ 60 ∧ loopC E (ev E) 62 a { V := V0, H := [rdH bs p, ow (.c 3) [.sl (out.map spL)]], ps := [0] } =
      some (.exit 1, { V := [(3, at1 3), (4, .v m4 false [.int .i64 N]), (25, vb false)], H := [rdH bs p, ow (.c 3) [.sl (x.map spL)]], ps := [0] })
  | n, V0, out, v3, v4, h, hl, h60 => by
    by_cases hlt : (out.length : Int) ≤ 12
    · match n, h with
      | 0, h => omega
      | n + 1, h =>
        obtain ⟨j, hj⟩ : ∃ j, N = j + 1 := ⟨N - 1, by omega⟩
        have hjl : j < out.length := by omega
        obtain ⟨x, hx, ih⟩ := lp_l1Lists bs p N hN hN2 m4 a ha n [(3, at1 3), (4, .v m4 false [.int .i64 N])] (out ++ [out[j]]) rfl rfl (by simp; omega) (by simp; omega) (by simp; omega)
        refine ⟨x, hx, ?_⟩
        have w1 : IntKind.i64.wrap ((N : Int) - 1) = (j : Int) := by rw [wrap64] <;> omega
        have hsz : (out.length + 1) * 16 ≤ 17592186044416 := by omega
        have hsz2 : out.length + 1 ≤ 17592186044416 := by omega
        rw [loopC_of _ _ _ _ ha]
        clear ha hj
        simp [lp, loopsOf, Try.f62, v3, v4, hlt, w1, hjl, hsz, hsz2]
        simpa using ih
    · have hle : (12 : Int) < out.length := by omega
      refine ⟨out, h60, ?_⟩
      rw [loopC_of _ _ _ _ ha]
      simp [lp, loopsOf, Try.f62, v3, v4, hle]
theorem ev_l1Lists (bs : List UInt8) (p : Nat) (b : RdB bs p) (hp : p + 120 ≤ 1099511627776) :
    ∃ (q : Nat) (x : List Sp), x.length ≤ 60 ∧ q ≤ 120 ∧ ev E 62 [rdA bs p] = some { rs := [.v .own false [.sl (x.map spL)]], outs := [rdO bs (p + q)] } := by
  obtain ⟨q, x, hx, hq, c1⟩ := ev_l1List bs p b (by omega)
  by_cases h0 : x.length = 0
  · obtain rfl : x = [] := List.length_eq_zero_iff.1 h0
    refine ⟨q, [], by simp, by omega, ?_⟩
    rw [ev_fn Try.f62 rfl Try.func62 rfl rfl rfl (Nat.le_of_ble_eq_true rfl)]
    simp at c1
    simp [c1]
  · have e0 : eqI x.length 0 = false := eqI_not.2 (by omega)
    obtain ⟨k8, hk8, c2⟩ := ev_pick .ro bs (p + q) 8 ⟨b.b, by omega⟩ (by omega)
    cases e8 : ltI 0 k8
    · obtain ⟨k, hk, c3⟩ := ev_pick .ro bs (p + q + 1) x.length ⟨b.b, by omega⟩ (by omega)
      have hk := hk (by omega)
      have hkl : k < x.length := by omega
      obtain ⟨j, hj, c4⟩ := ev_pick .ro bs (p + q + 1 + 1) 4 ⟨b.b, by omega⟩ (by omega)
      have hsz : (x.length + 1) * 16 ≤ 17592186044416 := by omega
      have hsz2 : x.length + 1 ≤ 17592186044416 := by omega
      by_cases j0 : j = 0
      · subst j0
        obtain ⟨s, c5⟩ := ev_l1Some bs (p + q + 1 + 1 + 1) ⟨b.b, by omega⟩ (by omega)
        refine ⟨q + 6, x.set k s, by simp; omega, by omega, ?_⟩
        rw [ev_fn Try.f62 rfl Try.func62 rfl rfl rfl (Nat.le_of_ble_eq_true rfl)]
        simp [c1, c2, c3, c4, c5, e0, e8, hkl]
        omega
      · have f0 : eqI j 0 = false := eqI_not.2 (by omega)
        by_cases j1 : j = 1
        · subst j1
          refine ⟨q + 3, x ++ [x[k]], by simp; omega, by omega, ?_⟩
          push_cast at c4
          rw [ev_fn Try.f62 rfl Try.func62 rfl rfl rfl (Nat.le_of_ble_eq_true rfl)]
          simp [c1, c2, c3, c4, e0, e8, hkl, hsz, hsz2, show eqI 1 0 = false from rfl]
          omega
        · have f1 : eqI j 1 = false := eqI_not.2 (by omega)
          by_cases j2 : j = 2
          · subst j2
            refine ⟨q + 3, x.set k (x[k].1, IntKind.i64.wrap (x[k].2 + 1)), by simp; omega, by omega, ?_⟩
            push_cast at c4
            rw [ev_fn Try.f62 rfl Try.func62 rfl rfl rfl (Nat.le_of_ble_eq_true rfl)]
            simp [c1, c2, c3, c4, e0, e8, hkl, show eqI 2 0 = false from rfl, show eqI 2 1 = false from rfl]
            omega
          · have f2 : eqI j 2 = false := eqI_not.2 (by omega)
            obtain ⟨y, hy, hl⟩ := lp_l1Lists bs (p + q + 1 + 1 + 1) x.length (by omega) (by omega) .ro _ rfl 13 [(3, at1 3), (4, vi x.length), (5, .v .own false [.int .i64 k]), (50, vb false)] x rfl rfl (by omega) (by omega) (by omega)
            refine ⟨q + 3, y, by omega, by omega, ?_⟩
            rw [ev_fn Try.f62 rfl Try.func62 rfl rfl rfl (Nat.le_of_ble_eq_true rfl)]
            simp [c1, c2, c3, c4, e0, e8, f0, f1, f2]
            rw [loopC_at ?_ hl]
            · simp
              omega
            · rfl
    · refine ⟨q + 1, x, by omega, by omega, ?_⟩
      rw [ev_fn Try.f62 rfl Try.func62 rfl rfl rfl (Nat.le_of_ble_eq_true rfl)]
      simp [c1, c2, e0, e8]
      omega
theorem ev_l6Bent (bs : List UInt8) (p : Nat) (m : M) (hm : m.isOwn = false) (t : List UInt8) (h d : List Sp) (b : RdB bs p) (hp : p + 300 ≤ 1099511627776) (bt : t.length ≤ 1000) (bh : h.length ≤ 1000) (bd : d.length ≤ 1000) :
    ∃ (q : Nat) (t' : List UInt8) (h' d' : List Sp), t'.length ≤ 2000 ∧ h'.length ≤ 2000 ∧ d'.length ≤ 2000 ∧ q ≤ 300 ∧ ev E 31 [rdA bs p, .v m true (owL t h d)] = some { rs := [rOw t' h' d'], outs := [rdO bs (p + q)] } := by
  have c0 := fun m hm => ev_l6Copy m hm t h d (by omega) (by omega)
  obtain ⟨k, hk, c1⟩ := ev_pick .ro bs p 60 b (by omega)
  have b1 : RdB bs (p + 1) := ⟨b.b, by omega⟩
  by_cases k0 : k = 0
  · subst k0
    obtain ⟨x, q, hx, hq, c2⟩ := ev_l2Some bs (p + 1) b1 (by omega)
    refine ⟨1 + q, x, h, d, by omega, by omega, by omega, by omega, ?_⟩
    rw [ev_fn Try.f31 rfl Try.func31 rfl rfl rfl (Nat.le_of_ble_eq_true rfl)]
    simp [c0, c1, c2, hm]
    omega
  · have e0 : eqI k 0 = false := eqI_not.2 (by omega)
    by_cases k1 : k = 1
    · subst k1
      obtain ⟨q, x, hx, hq, c2⟩ := ev_l1Lists bs (p + 1) b1 (by omega)
      push_cast at c1
      refine ⟨1 + q, t, x, d, by omega, by omega, by omega, by omega, ?_⟩
      rw [ev_fn Try.f31 rfl Try.func31 rfl rfl rfl (Nat.le_of_ble_eq_true rfl)]
      simp [c0, c1, c2, hm, show eqI 1 0 = false from rfl]
      omega
    · have e1 : eqI k 1 = false := eqI_not.2 (by omega)
      by_cases k2 : k = 2
      · subst k2
        obtain ⟨s, hs, c2⟩ := ev_l1Span bs (p + 1) b1 (by omega)
        push_cast at c1
        have hsz : (d.length + 1) * 16 ≤ 17592186044416 := by omega
        have hsz2 : d.length + 1 ≤ 17592186044416 := by omega
        refine ⟨3, t, h, d ++ [s], by omega, by omega, by simp; omega, by omega, ?_⟩
        rw [ev_fn Try.f31 rfl Try.func31 rfl rfl rfl (Nat.le_of_ble_eq_true rfl)]
        simp [c0, c1, c2, hm, hsz, hsz2, show eqI 2 0 = false from rfl, show eqI 2 1 = false from rfl]
      · have e2 : eqI k 2 = false := eqI_not.2 (by omega)
        by_cases k3 : k = 3
        · subst k3
          obtain ⟨q, x, hx, hq, c2⟩ := ev_l1Lists bs (p + 1) b1 (by omega)
          push_cast at c1
          refine ⟨1 + q, t, h, x, by omega, by omega, by omega, by omega, ?_⟩
          rw [ev_fn Try.f31 rfl Try.func31 rfl rfl rfl (Nat.le_of_ble_eq_true rfl)]
          simp [c0, c1, c2, hm, show eqI 3 0 = false from rfl, show eqI 3 1 = false from rfl, show eqI 3 2 = false from rfl]
          omega
        · have e3 : eqI k 3 = false := eqI_not.2 (by omega)
          by_cases k4 : k = 4
          · subst k4
            push_cast at c1
            cases e : ltI 0 t.length
            · refine ⟨1, t, h, d, by omega, by omega, by omega, by omega, ?_⟩
              rw [ev_fn Try.f31 rfl Try.func31 rfl rfl rfl (Nat.le_of_ble_eq_true rfl)]
              simp [c0, c1, hm, e, show eqI 4 0 = false from rfl, show eqI 4 1 = false from rfl, show eqI 4 2 = false from rfl, show eqI 4 3 = false from rfl]
            · have e' := ltI_iff.1 e
              obtain ⟨v, hv, c2⟩ := ev_ofS .tn bs (p + 1) [[65], [113]] b1 (by simp) (by simp)
              have hvl : v.length = 1 := by simp at hv; rcases hv with rfl | rfl <;> rfl
              have c3 := fun m m' m'' => ev_l6Over m m' m'' t v (0, 1) (by dsimp only; omega) (by dsimp only; omega) (by dsimp only; omega) (by dsimp only; omega) (by omega) (by omega)
              have hol := overS_len t v (0, 1) (by dsimp only; omega) (by dsimp only; omega) (by dsimp only; omega)
              simp only [spL] at c3
              refine ⟨2, overS t (0, 1) v, h, d, by rw [hol]; omega, by omega, by omega, by omega, ?_⟩
              simp at c2
              rw [ev_fn Try.f31 rfl Try.func31 rfl rfl rfl (Nat.le_of_ble_eq_true rfl)]
              simp [c0, c1, c2, c3, hm, e, show eqI 4 0 = false from rfl, show eqI 4 1 = false from rfl, show eqI 4 2 = false from rfl, show eqI 4 3 = false from rfl]
          · have e4 : eqI k 4 = false := eqI_not.2 (by omega)
            refine ⟨1, t, h, d, by omega, by omega, by omega, by omega, ?_⟩
            rw [ev_fn Try.f31 rfl Try.func31 rfl rfl rfl (Nat.le_of_ble_eq_true rfl)]
            simp [c0, c1, hm, e0, e1, e2, e3, e4]
end Go.Ev

/- Draws: caches. -/
set_option linter.unusedSimpArgs false
set_option linter.unusedVariables false
set_option maxRecDepth 100000
set_option maxHeartbeats 4000000
namespace Go.Ev
open Go.Proofs
structure OB (t : List UInt8) (h d : List Sp) : Prop where
  t : t.length ≤ 1000
  h : h.length ≤ 1000
  d : d.length ≤ 1000
theorem OB.w {t : List UInt8} {h d : List Sp} (o : OB t h d) : OwB t h d := ⟨by have := o.t; omega, by have := o.h; omega, by have := o.d; omega⟩
theorem OB.ok {t : List UInt8} {h d : List Sp} (e : ownOk t h d = true) : OB t h d := by
  obtain ⟨h1, h2, h3, _⟩ := ownOk_t e
  have := spsOk_len h2
  have := spsOk_len h3
  exact ⟨by omega, by omega, by omega⟩
theorem OB.nil : OB [] [] [] := ⟨by simp, by simp, by simp⟩
theorem cleanS_ex {t : List UInt8} {h d : List Sp} (p : Sp) (o : OB t h d) : ∃ t' h' d' b', cleanS t h d p = rOB t' h' d' b' ∧ OB t' h' d' := by
  unfold cleanS
  split
  · split
    · split
      · rename_i e; exact ⟨_, _, _, _, rfl, .ok e⟩
      · exact ⟨_, _, _, _, rfl, o⟩
    · exact ⟨_, _, _, _, rfl, o⟩
  · exact ⟨_, _, _, _, rfl, .nil⟩
theorem dropS_ex {t : List UInt8} {h d : List Sp} (p : Sp) (o : OB t h d) : ∃ t' h' d' b', dropS t h d p = rOB t' h' d' b' ∧ OB t' h' d' := by
  unfold dropS
  split
  · split
    · split
      · exact ⟨_, _, _, _, rfl, o⟩
      · split
        · rename_i e; exact ⟨_, _, _, _, rfl, .ok e⟩
        · exact ⟨_, _, _, _, rfl, o⟩
    · exact ⟨_, _, _, _, rfl, o⟩
  · exact ⟨_, _, _, _, rfl, .nil⟩
theorem fillS_ex {t : List UInt8} {h d : List Sp} (p : Sp) (x : List UInt8) (o : OB t h d) : ∃ t' h' d' b', fillS t h d p x = rOB t' h' d' b' ∧ OB t' h' d' := by
  unfold fillS
  split
  · split
    · split
      · rename_i e; exact ⟨_, _, _, _, rfl, .ok e⟩
      · exact ⟨_, _, _, _, rfl, o⟩
    · exact ⟨_, _, _, _, rfl, o⟩
  · exact ⟨_, _, _, _, rfl, .nil⟩
theorem writeS_ex {t : List UInt8} {h d : List Sp} (k : Int) (x : List UInt8) (o : OB t h d) : ∃ t' h' d' b', writeS t h d k x = rOB t' h' d' b' ∧ OB t' h' d' := by
  unfold writeS
  split
  · split
    · split
      · rename_i e; exact ⟨_, _, _, _, rfl, .ok e⟩
      · exact ⟨_, _, _, _, rfl, o⟩
    · exact ⟨_, _, _, _, rfl, o⟩
  · exact ⟨_, _, _, _, rfl, .nil⟩
abbrev zOw : List L := [.str [], .sl [], .sl []]
theorem lp_l6Some (bs : List UInt8) (hb : bs.length ≤ 2000) (a : Code) (ha : a = lp Try.f32 0) : ∀ (n p : Nat) (m0 : M) (t : List UInt8) (h d : List Sp), OB t h d → n ≤ 100 → p + 300 * n ≤ 1099511627776 →
    ∃ (q : Nat) (m' : M) (t' : List UInt8) (h' d' : List Sp), OB t' h' d' ∧ q ≤ 300 * n ∧ loopC E (ev E) 32 a { V := [(0, adp 0), (2, adc 2), (3, adc 3), (4, .v m0 false [.int .i64 n])], H := [rdH bs p, bx (.c 2) zOw, bx (.c 3) (owL t h d)], ps := [0] } =
      some (.exit 0, { V := [(0, adp 0), (2, adc 2), (3, adc 3), (4, .v m' false [.int .i64 0]), (11, vb false)], H := [rdH bs (p + q), bx (.c 2) zOw, bx (.c 3) (owL t' h' d')], ps := [0] })
  | 0, p, m0, t, h, d, o, hn, hp => by
    refine ⟨0, m0, t, h, d, o, by omega, ?_⟩
    rw [loopC_of _ _ _ _ ha]
    simp [lp, loopsOf, Try.f32]
  | n + 1, p, m0, t, h, d, o, hn, hp => by
    obtain ⟨s, hs, c1⟩ := ev_l1Span bs p ⟨hb, by omega⟩ (by omega)
    obtain ⟨k, hk, c2⟩ := ev_pick .ro bs (p + 2) 6 ⟨hb, by omega⟩ (by omega)
    have hw : IntKind.i64.wrap (n : Int) = n := by rw [wrap64]; omega
    have hlt : (0 : Int) < (n : Int) + 1 := by omega
    by_cases k0 : k = 0
    · subst k0
      obtain ⟨t1, h1, d1, b1, e1, o1⟩ := cleanS_ex s o
      have c3 := fun m m' hm => ev_spec_OwnClean m m' hm t h d s o.w
      rw [e1] at c3
      obtain ⟨q, m', t', h', d', o', hq, ih⟩ := lp_l6Some bs hb a ha n (p + 3) .ro t1 h1 d1 o1 (by omega) (by omega)
      refine ⟨q + 3, m', t', h', d', o', by omega, ?_⟩
      rw [loopC_of _ _ _ _ ha]
      clear ha
      simp [lp, loopsOf, Try.f32, hw, hlt, c1, c2, c3]
      simp only [show p + 3 + q = p + (q + 3) by omega] at ih
      simpa using ih
    · have e0 : eqI k 0 = false := eqI_not.2 (by omega)
      by_cases k1 : k = 1
      · subst k1
        push_cast at c2
        obtain ⟨t1, h1, d1, b1, e1, o1⟩ := dropS_ex s o
        have c3 := fun m m' hm => ev_spec_OwnDrop m m' hm t h d s o.w
        rw [e1] at c3
        obtain ⟨q, m', t', h', d', o', hq, ih⟩ := lp_l6Some bs hb a ha n (p + 3) .ro t1 h1 d1 o1 (by omega) (by omega)
        refine ⟨q + 3, m', t', h', d', o', by omega, ?_⟩
        rw [loopC_of _ _ _ _ ha]
        clear ha
        simp [lp, loopsOf, Try.f32, hw, hlt, c1, c2, c3, show eqI 1 0 = false from rfl]
        simp only [show p + 3 + q = p + (q + 3) by omega] at ih
        simpa using ih
      · have e1 : eqI k 1 = false := eqI_not.2 (by omega)
        by_cases k23 : k = 2 ∨ k = 3
        · obtain ⟨x, hx, c4⟩ := ev_l6Fit bs (p + 2 + 1) .ro s ⟨hb, by omega⟩ (by omega) (by omega) (by omega) (by omega)
          have hN : (s.2 - s.1).toNat ≤ 48 := by omega
          generalize (s.2 - s.1).toNat = N at *
          obtain ⟨t1, h1, d1, b1, e1', o1⟩ := fillS_ex s x o
          have c3 := fun m m' m'' hm => ev_spec_OwnFill m m' m'' hm t h d s x o.w (by omega)
          rw [e1'] at c3
          obtain ⟨q, m', t', h', d', o', hq, ih⟩ := lp_l6Some bs hb a ha n (p + 3 + N) .ro t1 h1 d1 o1 (by omega) (by omega)
          refine ⟨q + 3 + N, m', t', h', d', o', by omega, ?_⟩
          simp only [show p + 3 + N + q = p + (q + 3 + N) by omega] at ih
          rw [loopC_of _ _ _ _ ha]
          clear ha
          rcases k23 with rfl | rfl
          · push_cast at c2
            simp [lp, loopsOf, Try.f32, hw, hlt, c1, c2, c3, c4, show eqI 2 0 = false from rfl, show eqI 2 1 = false from rfl]
            simpa using ih
          · push_cast at c2
            simp [lp, loopsOf, Try.f32, hw, hlt, c1, c2, c3, c4, show eqI 3 0 = false from rfl, show eqI 3 1 = false from rfl, show eqI 3 2 = false from rfl]
            simpa using ih
        · have e2 : eqI k 2 = false := eqI_not.2 (by omega)
          have e3 : eqI k 3 = false := eqI_not.2 (by omega)
          obtain ⟨kk, hkk, c4⟩ := ev_pick .ro bs (p + 2 + 1) 40 ⟨hb, by omega⟩ (by omega)
          obtain ⟨x, q0, hx, hq0, c5⟩ := ev_l2Data bs (p + 2 + 1 + 1) ⟨hb, by omega⟩ (by omega)
          obtain ⟨t1, h1, d1, b1, e1', o1⟩ := writeS_ex kk x o
          have c3 := fun m m' m'' hm => ev_spec_OwnWrite m m' m'' hm t h d kk x o.w (by omega)
          rw [e1'] at c3
          obtain ⟨q, m', t', h', d', o', hq, ih⟩ := lp_l6Some bs hb a ha n (p + 4 + q0) .ro t1 h1 d1 o1 (by omega) (by omega)
          refine ⟨q + 4 + q0, m', t', h', d', o', by omega, ?_⟩
          simp only [show p + 4 + q0 + q = p + (q + 4 + q0) by omega] at ih
          rw [loopC_of _ _ _ _ ha]
          clear ha
          simp [lp, loopsOf, Try.f32, hw, hlt, c1, c2, c3, c4, c5, e0, e1, e2, e3]
          simpa using ih
end Go.Ev

/- Draws: a cache and a part. -/
set_option linter.unusedSimpArgs false
set_option linter.unusedVariables false
set_option maxRecDepth 100000
set_option maxHeartbeats 4000000
namespace Go.Ev
open Go.Proofs
theorem ev_l6Some (bs : List UInt8) (p : Nat) (b : RdB bs p) (hp : p + 2500 ≤ 1099511627776) :
    ∃ (q : Nat) (t : List UInt8) (h d : List Sp), OB t h d ∧ q ≤ 2500 ∧ ev E 32 [rdA bs p] = some { rs := [rOw t h d], outs := [rdO bs (p + q)] } := by
  obtain ⟨v, hv, c1⟩ := ev_num .tn bs p [3, 5, 8, 0, 1] b (by simp) (by simp)
  obtain ⟨N, rfl⟩ : ∃ N : Nat, v = N := ⟨v.toNat, by simp at hv; omega⟩
  have hN : N ≤ 8 := by simp at hv; omega
  have hnone := ev_l6None
  have hbl : (List.replicate 48 (46 : UInt8)).length = 48 := rfl
  generalize List.replicate 48 (46 : UInt8) = t0 at hnone hbl
  obtain ⟨q, m', t, h, d, o, hq, hl⟩ := lp_l6Some bs b.b _ rfl N (p + 1) .own t0 [] [] ⟨by omega, by simp, by simp⟩ (by omega) (by omega)
  refine ⟨1 + q, t, h, d, o, by omega, ?_⟩
  simp at c1
  simp only [owL, List.map_nil] at hl
  rw [ev_fn Try.f32 rfl Try.func32 rfl rfl rfl (Nat.le_of_ble_eq_true rfl)]
  simp [hnone, c1]
  rw [loopC_at ?_ hl]
  · simp
    omega
  · rfl
theorem ev_l6Near (bs : List UInt8) (p : Nat) (m : M) (hm : m.isOwn = false) (t : List UInt8) (h d : List Sp) (b : RdB bs p) (hp : p + 10 ≤ 1099511627776) (bh : h.length ≤ 2000) (bd : d.length ≤ 2000) :
    ∃ (q : Nat) (s : Sp), q ≤ 10 ∧ ev E 76 [rdA bs p, .v m true (owL t h d)] = some { rs := [.v .own true (spL s)], outs := [rdO bs (p + q)] } := by
  have a1 : h.length * 16 ≤ 17592186044416 := by omega
  have a2 : h.length ≤ 17592186044416 := by omega
  have a3 : (h.length + d.length) * 16 ≤ 17592186044416 := by omega
  have a4 : h.length + d.length ≤ 17592186044416 := by omega
  cases e : ltI 0 ((h.length : Int) + d.length)
  · obtain ⟨s, c1⟩ := ev_l1Some bs p b (by omega)
    refine ⟨3, s, by omega, ?_⟩
    rw [ev_fn Try.f76 rfl Try.func76 rfl rfl rfl (Nat.le_of_ble_eq_true rfl)]
    simp [hm, a1, a2, a3, a4, e, c1]
  · obtain ⟨k, hk, c1⟩ := ev_pick .ro bs p 3 b (by omega)
    cases e2 : ltI 0 k
    · obtain ⟨s, c2⟩ := ev_l1Some bs (p + 1) ⟨b.b, by omega⟩ (by omega)
      refine ⟨4, s, by omega, ?_⟩
      rw [ev_fn Try.f76 rfl Try.func76 rfl rfl rfl (Nat.le_of_ble_eq_true rfl)]
      simp [hm, a1, a2, a3, a4, e, e2, c1, c2]
    · obtain ⟨j, hj, c2⟩ := ev_pick .ro bs (p + 1) ((h.length : Int) + d.length) ⟨b.b, by omega⟩ (by omega)
      have hj := hj (by have := ltI_iff.1 e; omega)
      have hjl : j < (h ++ d).length := by simp; omega
      obtain ⟨k2, hk2, c3⟩ := ev_pick .ro bs (p + 1 + 1) 12 ⟨b.b, by omega⟩ (by omega)
      have hg : (h.map spL ++ d.map spL)[j]? = some (spL (h ++ d)[j]) := by
        rw [← List.map_append, List.getElem?_map, List.getElem?_eq_getElem hjl]; rfl
      generalize (h ++ d)[j] = s at hg
      have c4 := fun m m' => ev_spec_l1Min m m' s.2 (IntKind.i64.wrap (IntKind.i64.wrap (s.1 + 1) + (k2 : Int)))
      refine ⟨3, (s.1, minI s.2 (IntKind.i64.wrap (IntKind.i64.wrap (s.1 + 1) + (k2 : Int)))), by omega, ?_⟩
      rw [ev_fn Try.f76 rfl Try.func76 rfl rfl rfl (Nat.le_of_ble_eq_true rfl)]
      simp [hm, a1, a2, a3, a4, e, e2, c1, c2, c3, c4, hg]
theorem ev_l10Open (bs : List UInt8) : ev E 30 [.v .ro false [.sl (rowsOfBytes bs)]] = some { rs := [.ptr .ro (rdL (bs.take 2000) 0)], outs := [] } := by
  have ht : rowsOfBytes (bs.take 2000) = (rowsOfBytes bs).take 2000 := by simp [rowsOfBytes]
  cases e : ltI 2000 bs.length
  · have h1 : bs.take 2000 = bs := List.take_of_length_le (by have := ltI_not.1 e; omega)
    rw [h1]
    rw [ev_fn Try.f30 rfl Try.func30 rfl rfl rfl (Nat.le_of_ble_eq_true rfl)]
    simp [e]
  · have h1 := ltI_iff.1 e
    have h2 : 2000 ≤ bs.length := by omega
    have hr : ∀ x ∈ rowsOfBytes bs, x.length = 1 := fun x hx => by
      simp only [rowsOfBytes, List.mem_map] at hx
      obtain ⟨b, _, rfl⟩ := hx
      rfl
    have h3 : (2000 : Int) ≤ bs.length := by omega
    rw [rdL, ht]
    rw [ev_fn Try.f30 rfl Try.func30 rfl rfl rfl (Nat.le_of_ble_eq_true rfl)]
    simp [e, h2, h3, hr]
    simp only [if_pos hr]
    simp
end Go.Ev

/- The law: cleaning keeps the data. -/
set_option linter.unusedSimpArgs false
set_option linter.unusedVariables false
set_option maxRecDepth 100000
set_option maxHeartbeats 4000000
namespace Go.Ev
open Go.Proofs
structure OC (t : List UInt8) (h d : List Sp) : Prop where
  t : t.length ≤ 2000
  h : h.length ≤ 2000
  d : d.length ≤ 2000
theorem OC.w {t : List UInt8} {h d : List Sp} (o : OC t h d) : OwB t h d := ⟨by have := o.t; omega, by have := o.h; omega, by have := o.d; omega⟩
theorem ev_l6Both (bs : List UInt8) : ∃ (t : List UInt8) (h d : List Sp) (p : Sp), OC t h d ∧ ev E 52 [.v .ro false [.sl (rowsOfBytes bs)]] = some { rs := [rOw t h d, .v .own true (spL p)], outs := [] } := by
  have c0 := ev_l10Open bs
  have hb : (bs.take 2000).length ≤ 2000 := by simp; omega
  generalize bs.take 2000 = b2 at c0 hb
  obtain ⟨q, t, h, d, o, hq, c1⟩ := ev_l6Some b2 0 ⟨hb, by omega⟩ (by omega)
  obtain ⟨q2, t2, h2, d2, ht2, hh2, hd2, hq2, c2⟩ := ev_l6Bent b2 (0 + q) .tn rfl t h d ⟨hb, by omega⟩ (by omega) o.t o.h o.d
  obtain ⟨q3, s, hq3, c3⟩ := ev_l6Near b2 (0 + q + q2) .tn rfl t2 h2 d2 ⟨hb, by omega⟩ (by omega) hh2 hd2
  refine ⟨t2, h2, d2, s, ⟨ht2, hh2, hd2⟩, ?_⟩
  push_cast at c0
  simp only [Nat.zero_add] at c1 c2 c3
  rw [ev_fn Try.f52 rfl Try.func52 rfl rfl rfl (Nat.le_of_ble_eq_true rfl)]
  simp [c0, c1, c2, c3]
theorem ev_DrawOwnClean (bs : List UInt8) : ∃ (t : List UInt8) (h d : List Sp) (p : Sp), OC t h d ∧ ev E 16 [.v .ro false [.sl (rowsOfBytes bs)]] = some { rs := [rOw t h d, .v .own true (spL p)], outs := [] } := by
  obtain ⟨t, h, d, p, o, c⟩ := ev_l6Both bs
  refine ⟨t, h, d, p, o, ?_⟩
  rw [ev_fn Try.f16 rfl Try.func16 rfl rfl rfl (Nat.le_of_ble_eq_true rfl)]
  simp [c]
/-- The program's way and the reference's come to the same. -/
theorem clean_eq (t : List UInt8) (h d : List Sp) (p : Sp) : chgI t h d (spOk p) (inF h) (fun j => if inF [p] j = true then false else inF d j) = cleanS t h d p := by
  unfold chgI cleanS
  cases e : ownOk t h d with
  | false => rfl
  | true =>
    obtain ⟨_, hsh, _, _⟩ := ownOk_t e
    have h1 : spansF (inF h) 48 0 = h := by rw [spans_of (g := inF h) (fun j _ => rfl)]; exact of_self hsh fun j _ => rfl
    have h2 : spansF (fun j => if inF [p] j = true then false else inF d j) 48 0 = cutS d p := spans_of fun j _ => by simp [inF]
    rw [h1, h2]
theorem cutS_get (d : List Sp) (p : Sp) (j : Nat) (hj : j < 48) : inF (cutS d p) j = (!inSp j p && inF d j) := by
  have := (of_can fun j => if inSp j p = true then false else d.any (inSp j)).2 j hj
  rw [cutS, this]
  cases inSp j p <;> simp [inF]
theorem maxI_ge (a b : Int) : a ≤ maxI a b ∧ b ≤ maxI a b := by
  simp only [maxI, ltI, decide_eq_true_eq]
  split <;> omega
theorem minI_le (a b : Int) : minI a b ≤ a ∧ minI a b ≤ b := by
  simp only [minI, ltI, decide_eq_true_eq]
  split <;> omega
theorem patF_cut (t : List UInt8) (p : Sp) (hp : 0 ≤ p.1 ∧ p.1 < p.2 ∧ p.2 ≤ 48) : ∀ (d : List Sp), (∀ s ∈ d, (0 ≤ s.1 ∧ s.1 < s.2 ∧ s.2 ≤ 48) ∧ ∀ j : Nat, s.1 ≤ j → (j : Int) < s.2 → inSp j p = false) → patF t p d = []
  | [], _ => rfl
  | s :: d, h => by
    obtain ⟨hs, hj⟩ := h s (by simp)
    have e : ltI (meetS s p).1 (meetS s p).2 = false := by
      rw [ltI_not]
      apply Classical.byContradiction
      intro hn
      have hlt : (meetS s p).1 < (meetS s p).2 := by omega
      have hb := meet_bd hs hp
      obtain ⟨j, hj0⟩ : ∃ j : Nat, (meetS s p).1 = j := ⟨(meetS s p).1.toNat, by omega⟩
      have hm : s.1 ≤ (j : Int) ∧ p.1 ≤ (j : Int) ∧ (j : Int) < s.2 ∧ (j : Int) < p.2 := by
        have m1 := maxI_ge s.1 p.1
        have m2 := minI_le s.2 p.2
        simp only [meetS] at hj0 hlt
        omega
      have := hj j hm.1 hm.2.2.1
      simp [inSp, ltI] at this
      omega
    simp only [patF, e]
    exact patF_cut t p hp d fun q hq => h q (by simp [hq])
theorem OC.ok {t : List UInt8} {h d : List Sp} (e : ownOk t h d = true) : OC t h d := by
  obtain ⟨h1, h2, h3, _⟩ := ownOk_t e
  have := spsOk_len h2
  have := spsOk_len h3
  exact ⟨by omega, by omega, by omega⟩
theorem law_FnOwnClean (code : List UInt8) : ev E 5 [.v .ro false [.sl (rowsOfBytes code)]] = some (rB true) := by
  cases e0 : ltI 1048576 code.length
  · obtain ⟨t, h, d, p, o, c1⟩ := ev_DrawOwnClean code
    have b := o.w
    have c2 := fun m m' hm => ev_impl_OwnClean m m' hm t h d p b
    have c3 := fun m m' hm => ev_spec_OwnClean m m' hm t h d p b
    simp only [clean_eq] at c2
    have fin : ∀ T H D, OC T H D → cleanS t h d p = rOB T H D false → ev E 5 [.v .ro false [.sl (rowsOfBytes code)]] = some (rB true) := by
      intro T H D O hr
      rw [hr] at c2 c3
      have bO := O.w
      have c4 := fun m m' hm hm' => ev_OwnSame m m' hm hm' T T H D H D (by have := O.h; omega) (by have := O.d; omega)
      rw [ev_fn Try.f5 rfl Try.func5 rfl rfl rfl (Nat.le_of_ble_eq_true rfl)]
      simp [e0, c1, c2, c3, c4]
    cases e1 : ownOk t h d
    · exact fin [] [] [] ⟨by simp, by simp, by simp⟩ (by simp [cleanS, e1])
    · cases e2 : spOk p
      · exact fin t h d o (by simp [cleanS, e1, e2])
      · cases e3 : ownOk t h (cutS d p)
        · exact fin t h d o (by simp [cleanS, e1, e2, e3])
        · have hr : cleanS t h d p = rOB t h (cutS d p) true := by simp [cleanS, e1, e2, e3]
          rw [hr] at c2 c3
          have O := OC.ok e3
          have bO := O.w
          have hp := spOk_iff.1 e2
          have hpat : patI t h (cutS d p) p = [] := by
            simp only [patI, e3, e2, if_true]
            have hc := (of_can fun j => if inSp j p = true then false else d.any (inSp j)).1
            refine patF_cut t p hp _ fun s hs => ⟨hc.ok s hs, fun j h1 h2 => ?_⟩
            have hj : j < 48 := by have := hc.ok s hs; omega
            have hin : inF (cutS d p) j = true := inF_iff.2 ⟨s, hs, h1, h2⟩
            rw [cutS_get d p j hj] at hin
            simpa using (Bool.and_eq_true_iff.1 hin).1
          have c4 := fun m m' hm hm' => ev_OwnSame m m' hm hm' t t h (cutS d p) h (cutS d p) (by have := O.h; omega) (by have := O.d; omega)
          have c5 := fun m m' => ev_wpSpans m m' h h (by have := O.h; omega)
          have c6 := fun m m' hm => ev_OwnPatches m m' hm t h (cutS d p) p bO
          rw [hpat] at c6
          have c7 := fun m m' m'' hm hm' => ev_wpOwnKeeps m m' m'' hm hm' t h d t h (cutS d p) p b bO fun i hi hn => ⟨by simp [readS, e1, e3], by
            rw [cutS_get d p i hi]
            have : inSp i p = false := by
              rw [← Bool.not_eq_true, inSp_iff]
              exact hn
            simp [this]⟩
          have c8 := fun m hm => ev_impl_OwnOk m hm t h (cutS d p) (by have := O.t; omega) (by have := O.h; omega) (by have := O.d; omega)
          rw [e3] at c8
          generalize cutS d p = d' at *
          rw [ev_fn Try.f5 rfl Try.func5 rfl rfl rfl (Nat.le_of_ble_eq_true rfl)]
          simp [e0, c1, c2, c3, c4, c5, c6, c7, c8]
  · rw [ev_fn Try.f5 rfl Try.func5 rfl rfl rfl (Nat.le_of_ble_eq_true rfl)]
    simp [e0]
end Go.Ev
