/- My texts joined: EvT15, EvT16, EvT17, EvT18, EvT19, EvT20, EvT21, EvT22, EvT25, EvT33, EvT34, EvW1, EvW2, EvT26. No condition. -/
import Derived.Test.YtndikjcpmhfdhaaDoorEn7
/- Draws: a number, one of a list. -/
set_option linter.unusedSimpArgs false
set_option linter.unusedVariables false
set_option maxRecDepth 100000
set_option maxHeartbeats 4000000
namespace Go.Ev
open Go.Proofs
abbrev rdL (bs : List UInt8) (p : Nat) : List L := [.sl (rowsOfBytes bs), .int .i64 p]
abbrev rdA (bs : List UInt8) (p : Nat) : Arg := .ptr .ro (rdL bs p)
abbrev rdO (bs : List UInt8) (p : Nat) : M × List L := (.ro, rdL bs p)
structure RdB (bs : List UInt8) (p : Nat) : Prop where
  b : bs.length ≤ 2000
  p : p ≤ 1099511627776
theorem rows_get {bs : List UInt8} {i : Nat} (h : i < bs.length) : (rowsOfBytes bs)[i]? = some [.int .u8 bs[i].toNat] := by simp [rowsOfBytes, h]
@[simp] theorem rows_len (bs : List UInt8) : (rowsOfBytes bs).length = bs.length := by simp [rowsOfBytes]
@[simp] theorem rows_getE {bs : List UInt8} {i : Nat} (h : i < (rowsOfBytes bs).length) : (rowsOfBytes bs)[i] = [.int .u8 (bs[i]'(by simpa using h)).toNat] := by simp [rowsOfBytes]
theorem xor64 (a b : Nat) (ha : a < 4611686018427387904) (hb : b < 4611686018427387904) : IntKind.i64.wrap ((BitVec.ofInt IntKind.i64.bits a ^^^ BitVec.ofInt IntKind.i64.bits b).toNat : Int) = ((a ^^^ b : Nat) : Int) := by
  have h1 : (BitVec.ofInt IntKind.i64.bits a ^^^ BitVec.ofInt IntKind.i64.bits b).toNat = a ^^^ b := by
    have e : IntKind.i64.bits = 64 := rfl
    rw [e, BitVec.toNat_xor, BitVec.toNat_ofInt, BitVec.toNat_ofInt]
    congr 1 <;> omega
  rw [h1]
  have h2 : a ^^^ b < 2 ^ 62 := Nat.xor_lt_two_pow (by omega) (by omega)
  rw [wrap64]
  omega
theorem ev_pick (m : M) (bs : List UInt8) (p : Nat) (n : Int) (b : RdB bs p) (hn : n ≤ 1099511627776) :
    ∃ k : Nat, (1 ≤ n → (k : Int) < n) ∧ ev E 54 [rdA bs p, .v m false [.int .i64 n]] = some { rs := [.v .own false [.int .i64 k]], outs := [rdO bs (p + 1)] } := by
  have bb := b.b
  have bp := b.p
  have hw := wrapN p (by omega)
  have hw2 : IntKind.i64.wrap (p : Int) = p := by rw [wrap64]; omega
  cases e1 : ltI n 1
  · have hn1 := ltI_not.1 e1
    obtain ⟨N, rfl⟩ : ∃ N : Nat, n = N := ⟨n.toNat, by omega⟩
    have hN0 : eqI (N : Int) 0 = false := eqI_not.2 (by omega)
    by_cases h0 : bs.length = 0
    · refine ⟨0, fun _ => by omega, ?_⟩
      rw [ev_fn Tryd.f54 rfl Tryd.func54 rfl rfl rfl (Nat.le_of_ble_eq_true rfl)]
      simp [hw, e1, h0]
    · have e2 : eqI bs.length 0 = false := eqI_not.2 (by omega)
      by_cases hlt : p < bs.length
      · refine ⟨bs[p].toNat % N, fun h => by
          have : bs[p].toNat % N < N := Nat.mod_lt _ (by omega)
          omega, ?_⟩
        have hbl : bs[p].toNat < 256 := bs[p].toNat_lt
        have w3 : IntKind.i64.wrap (bs[p].toNat : Int) = bs[p].toNat := by rw [wrap64]; omega
        have w4 : ((bs[p].toNat : Nat) : Int).tmod (N : Int) = ((bs[p].toNat % N : Nat) : Int) := (Int.ofNat_tmod _ _).symm
        rw [ev_fn Tryd.f54 rfl Tryd.func54 rfl rfl rfl (Nat.le_of_ble_eq_true rfl)]
        simp [hw, hw2, e1, e2, hlt, w3, w4, hN0]
      · have hlt' : bs.length ≤ p := by omega
        obtain ⟨q1, hq1⟩ : ∃ q, q = p % bs.length := ⟨_, rfl⟩
        obtain ⟨q2, hq2⟩ : ∃ q, q = (p * 7 + 3) % bs.length := ⟨_, rfl⟩
        obtain ⟨q3, hq3⟩ : ∃ q, q = p / bs.length := ⟨_, rfl⟩
        have hi : q1 < bs.length := by rw [hq1]; exact Nat.mod_lt _ (by omega)
        have hj : q2 < bs.length := by rw [hq2]; exact Nat.mod_lt _ (by omega)
        have hd : q3 ≤ p := by rw [hq3]; exact Nat.div_le_self _ _
        obtain ⟨A, hA⟩ : ∃ A, bs[q1].toNat = A := ⟨_, rfl⟩
        obtain ⟨B, hB⟩ : ∃ B, bs[q2].toNat = B := ⟨_, rfl⟩
        have hAl : A < 256 := by rw [← hA]; exact UInt8.toNat_lt _
        have hBl : B < 256 := by rw [← hB]; exact UInt8.toNat_lt _
        obtain ⟨X, hX⟩ : ∃ X, X = A * 131 + B * 1117 + p * 29 + q3 * 53 := ⟨_, rfl⟩
        obtain ⟨q4, hq4⟩ : ∃ q, q = X / 64 := ⟨_, rfl⟩
        have hq4l : q4 ≤ X := by rw [hq4]; exact Nat.div_le_self _ _
        obtain ⟨Y, hY⟩ : ∃ Y, Y = X ^^^ q4 := ⟨_, rfl⟩
        obtain ⟨Z, hZ⟩ : ∃ Z, Z = Y % N := ⟨_, rfl⟩
        refine ⟨Z, fun h => by
          have : Y % N < N := Nat.mod_lt _ (by omega)
          omega, ?_⟩
        have hx := xor64 X q4 (by omega) (by omega)
        rw [← hY] at hx
        have t1 : ((p : Nat) : Int).tmod (bs.length : Int) = (q1 : Int) := by rw [hq1]; exact (Int.ofNat_tmod _ _).symm
        have t2 : IntKind.i64.wrap ((p : Int) * 7) = (p : Int) * 7 := by rw [wrap64]; omega
        have t3 : IntKind.i64.wrap ((p : Int) * 7 + 3) = (p : Int) * 7 + 3 := by rw [wrap64]; omega
        have t4 : ((p : Int) * 7 + 3).tmod (bs.length : Int) = (q2 : Int) := by rw [hq2]; exact (Int.ofNat_tmod (p * 7 + 3) _).symm
        have t5 : IntKind.i64.wrap (A : Int) = A := by rw [wrap64]; omega
        have t6 : IntKind.i64.wrap (B : Int) = B := by rw [wrap64]; omega
        have t7 : IntKind.i64.wrap ((A : Int) * 131) = (A : Int) * 131 := by rw [wrap64]; omega
        have t8 : IntKind.i64.wrap ((B : Int) * 1117) = (B : Int) * 1117 := by rw [wrap64]; omega
        have t9 : IntKind.i64.wrap ((A : Int) * 131 + (B : Int) * 1117) = (A : Int) * 131 + (B : Int) * 1117 := by rw [wrap64]; omega
        have u1 : IntKind.i64.wrap ((p : Int) * 29) = (p : Int) * 29 := by rw [wrap64]; omega
        have u2 : IntKind.i64.wrap ((A : Int) * 131 + (B : Int) * 1117 + (p : Int) * 29) = (A : Int) * 131 + (B : Int) * 1117 + (p : Int) * 29 := by rw [wrap64]; omega
        have u3 : ((p : Nat) : Int).tdiv (bs.length : Int) = (q3 : Int) := by rw [hq3]; exact (Int.ofNat_tdiv _ _).symm
        have u4 : IntKind.i64.wrap (q3 : Int) = q3 := by rw [wrap64]; omega
        have u5 : IntKind.i64.wrap ((q3 : Int) * 53) = (q3 : Int) * 53 := by rw [wrap64]; omega
        have u6 : IntKind.i64.wrap ((A : Int) * 131 + (B : Int) * 1117 + (p : Int) * 29 + (q3 : Int) * 53) = (X : Int) := by rw [wrap64] <;> omega
        have u7 : ((X : Nat) : Int).tdiv 64 = (q4 : Int) := by rw [hq4]; exact (Int.ofNat_tdiv X 64).symm
        have u8 : IntKind.i64.wrap (q4 : Int) = q4 := by rw [wrap64]; omega
        have u9 : ((Y : Nat) : Int).tmod (N : Int) = (Z : Int) := by rw [hZ]; exact (Int.ofNat_tmod _ _).symm
        have hx2 : IntKind.i64.wrap ((X ^^^ q4 : Nat) : Int) = (Y : Int) := by
          have e : (BitVec.ofInt IntKind.i64.bits X ^^^ BitVec.ofInt IntKind.i64.bits q4).toNat = X ^^^ q4 := by
            have e : IntKind.i64.bits = 64 := rfl
            rw [e, BitVec.toNat_xor, BitVec.toNat_ofInt, BitVec.toNat_ofInt]
            congr 1 <;> omega
          rw [← e]; exact hx
        have m1 : X % 2 ^ IntKind.i64.bits = X := Nat.mod_eq_of_lt (by show X < 2 ^ 64; omega)
        have m2 : q4 % 2 ^ IntKind.i64.bits = q4 := Nat.mod_eq_of_lt (by show q4 < 2 ^ 64; omega)
        rw [ev_fn Tryd.f54 rfl Tryd.func54 rfl rfl rfl (Nat.le_of_ble_eq_true rfl)]
        simp [m1, m2, hw, hw2, e1, e2, hlt', hN0, hi, hj, hA, hB, t1, t2, t3, t4, t5, t6, t7, t8, t9, u1, u2, u3, u4, u5, u6, u7, u8, u9, hx, hx2, eqI_false]
  · refine ⟨0, fun h => by have := ltI_iff.1 e1; omega, ?_⟩
    rw [ev_fn Tryd.f54 rfl Tryd.func54 rfl rfl rfl (Nat.le_of_ble_eq_true rfl)]
    simp [hw, e1]
theorem ev_num (m : M) (bs : List UInt8) (p : Nat) (xs : List Int) (b : RdB bs p) (hx : 0 < xs.length) (hx2 : xs.length ≤ 4000000) :
    ∃ v ∈ xs, ev E 56 [rdA bs p, .v m false [.sl (xs.map fun x => [L.int .i64 x])]] = some { rs := [.v .own false [.int .i64 v]], outs := [rdO bs (p + 1)] } := by
  obtain ⟨k, hk, hc⟩ := ev_pick .ro bs p xs.length b (by omega)
  have hk := hk (by omega)
  have hkl : k < xs.length := by omega
  refine ⟨xs[k], List.getElem_mem hkl, ?_⟩
  rw [ev_fn Tryd.f56 rfl Tryd.func56 rfl rfl rfl (Nat.le_of_ble_eq_true rfl)]
  simp [hc, hkl]
theorem ev_ofS (m : M) (bs : List UInt8) (p : Nat) (xs : List (List UInt8)) (b : RdB bs p) (hx : 0 < xs.length) (hx2 : xs.length ≤ 4000000) :
    ∃ v ∈ xs, ev E 55 [rdA bs p, .v m false [.sl (xs.map fun x => [L.str x])]] = some { rs := [.v .own false [.str v]], outs := [rdO bs (p + 1)] } := by
  obtain ⟨k, hk, hc⟩ := ev_pick .ro bs p xs.length b (by omega)
  have hk := hk (by omega)
  have hkl : k < xs.length := by omega
  refine ⟨xs[k], List.getElem_mem hkl, ?_⟩
  rw [ev_fn Tryd.f55 rfl Tryd.func55 rfl rfl rfl (Nat.le_of_ble_eq_true rfl)]
  simp [hc, hkl]
end Go.Ev

/- Draws: parts and bytes. -/
set_option linter.unusedSimpArgs false
set_option linter.unusedVariables false
set_option maxRecDepth 100000
set_option maxHeartbeats 4000000
namespace Go.Ev
open Go.Proofs
theorem RdB.add {bs : List UInt8} {p q : Nat} (b : RdB bs p) (h : p + q ≤ 1099511627776) : RdB bs (p + q) := ⟨b.b, h⟩
theorem ev_l1Span (bs : List UInt8) (p : Nat) (b : RdB bs p) (hp : p + 2 ≤ 1099511627776) :
    ∃ s : Sp, (0 ≤ s.1 ∧ s.1 < s.2 ∧ s.2 ≤ 48) ∧ ev E 87 [rdA bs p] = some { rs := [.v .own true (spL s)], outs := [rdO bs (p + 2)] } := by
  obtain ⟨k, hk, c1⟩ := ev_pick .ro bs p 47 b (by omega)
  have hk := hk (by omega)
  obtain ⟨v, hv, c2⟩ := ev_num .tn bs (p + 1) [0, 1, 3, 5, 9, 20, 47] (b.add (by omega)) (by simp) (by simp)
  have hv2 : 0 ≤ v ∧ v ≤ 47 := by
    simp at hv
    omega
  have w1 : IntKind.i64.wrap ((k : Int) + 1) = (k : Int) + 1 := by rw [wrap64]; omega
  have w2 : IntKind.i64.wrap ((k : Int) + 1 + v) = (k : Int) + 1 + v := by rw [wrap64]; omega
  have c3 := fun m m' => ev_spec_l1Min m m' 48 ((k : Int) + 1 + v)
  refine ⟨((k : Int), minI 48 ((k : Int) + 1 + v)), ⟨by dsimp only; omega, ?_, ?_⟩, ?_⟩
  · dsimp only [minI]; split <;> omega
  · dsimp only [minI]; split <;> rename_i h <;> simp [ltI] at h <;> omega
  · simp at c2
    rw [ev_fn Tryd.f87 rfl Tryd.func87 rfl rfl rfl (Nat.le_of_ble_eq_true rfl)]
    simp [c1, c2, c3, w1, w2]
end Go.Ev

/- Draws: bytes. -/
set_option linter.unusedSimpArgs false
set_option linter.unusedVariables false
set_option maxRecDepth 100000
set_option maxHeartbeats 4000000
namespace Go.Ev
open Go.Proofs
abbrev adp (i : Nat) : AV := .ad (.p i) 0 0 0 []
abbrev rdH (bs : List UInt8) (p : Nat) : Root × HC := bxm (.p 0) .ro (rdL bs p)
theorem lp_l2Text (mm : M) (bs : List UInt8) (hb : bs.length ≤ 2000) (a : Code) (ha : a = lp Tryd.f103 0) : ∀ (n p : Nat) (m0 m1 : M) (out : List UInt8), n ≤ 100 → out.length + n ≤ 1000 → p + n ≤ 1099511627776 →
    ∃ m' m'' x, x.length = out.length + n ∧ loopC E (ev E) 103 a { V := [(0, adp 0), (5, .v m0 false [.str out]), (6, .v m1 false [.int .i64 n])], H := [rdH bs p], ps := [0] } =
      some (.exit 0, { V := [(0, adp 0), (5, .v m' false [.str x]), (6, .v m'' false [.int .i64 0]), (12, vb false)], H := [rdH bs (p + n)], ps := [0] })
  | 0, p, m0, m1, out, hn, ho, hp => by
    refine ⟨m0, m1, out, by omega, ?_⟩
    rw [loopC_of _ _ _ _ ha]
    simp [lp, loopsOf, Tryd.f103]
  | n + 1, p, m0, m1, out, hn, ho, hp => by
    obtain ⟨v, hv, c⟩ := ev_ofS .tn bs p [[97], [98], [99], [55], [46], [122]] ⟨hb, by omega⟩ (by simp) (by simp)
    have hvl : v.length = 1 := by simp at hv; rcases hv with rfl | rfl | rfl | rfl | rfl | rfl <;> rfl
    have hsz : out.length + v.length ≤ 4611686018427387904 := by omega
    have hol : (out ++ v).length = out.length + 1 := by simp [hvl]
    obtain ⟨m', m'', x, hx, ih⟩ := lp_l2Text mm bs hb a ha n (p + 1) .ro .ro (out ++ v) (by omega) (by omega) (by omega)
    refine ⟨m', m'', x, by omega, ?_⟩
    have hw : IntKind.i64.wrap (n : Int) = n := by rw [wrap64]; omega
    have hlt : (0 : Int) < (n : Int) + 1 := by omega
    simp at c
    rw [loopC_of _ _ _ _ ha]
    clear ha
    simp [lp, loopsOf, Tryd.f103, hw, hlt, c, hsz]
    simp only [show p + 1 + n = p + (n + 1) by omega] at ih
    simpa using ih
theorem ev_l2Text (m : M) (bs : List UInt8) (p : Nat) (N : Nat) (hN : N ≤ 90) (b : RdB bs p) (hp : p + 100 ≤ 1099511627776) :
    ∃ (x : List UInt8) (q : Nat), x.length ≤ 100 ∧ q ≤ 100 ∧ ev E 103 [rdA bs p, .v m false [.int .i64 N]] = some { rs := [.v .own false [.str x]], outs := [rdO bs (p + q)] } := by
  obtain ⟨k, hk, c1⟩ := ev_pick .ro bs p ((N : Int) + 1) b (by omega)
  have hk := hk (by omega)
  obtain ⟨m', m'', x, hx, hl⟩ := lp_l2Text .ro bs b.b _ rfl k (p + 1) .ro .own [] (by omega) (by simp; omega) (by omega)
  have hw := wrapN N (by omega)
  refine ⟨x, 1 + k, by simp at hx; omega, by omega, ?_⟩
  rw [ev_fn Tryd.f103 rfl Tryd.func103 rfl rfl rfl (Nat.le_of_ble_eq_true rfl)]
  simp [hw, c1]
  rw [loopC_at ?_ hl]
  · simp
    omega
  · rfl
theorem ev_l2Data (bs : List UInt8) (p : Nat) (b : RdB bs p) (hp : p + 200 ≤ 1099511627776) :
    ∃ (x : List UInt8) (q : Nat), x.length ≤ 200 ∧ q ≤ 200 ∧ ev E 89 [rdA bs p] = some { rs := [.v .own false [.str x]], outs := [rdO bs (p + q)] } := by
  obtain ⟨k, hk, c1⟩ := ev_pick .ro bs p 24 b (by omega)
  have b1 : RdB bs (p + 1) := b.add (by omega)
  by_cases hk0 : k = 0
  · subst hk0
    have c2 := fun m m' => ev_l2Long m m' [97] 49 (by omega) (by simp)
    obtain ⟨v, hv, c3⟩ := ev_ofS .tn bs (p + 1) [[], [65], [97, 32, 98], 97 :: List.replicate 48 46] b1 (by simp) (by simp)
    refine ⟨v, 2, ?_, by omega, ?_⟩
    · simp only [List.mem_cons, List.not_mem_nil, or_false] at hv
      rcases hv with rfl | rfl | rfl | rfl <;> simp
    · simp at c2 c3
      rw [ev_fn Tryd.f89 rfl Tryd.func89 rfl rfl rfl (Nat.le_of_ble_eq_true rfl)]
      simp [c1, c2, c3]
  · have e : eqI k 0 = false := eqI_not.2 (by omega)
    obtain ⟨v, hv, c3⟩ := ev_ofS .tn bs (p + 1) [[120], [120, 121], [113, 57, 46], [48, 49, 50, 51, 52, 53, 54], [109]] b1 (by simp) (by simp)
    have hvl : v.length ≤ 7 := by
      simp only [List.mem_cons, List.not_mem_nil, or_false] at hv
      rcases hv with rfl | rfl | rfl | rfl | rfl <;> simp
    obtain ⟨x, q, hx, hq, c4⟩ := ev_l2Text .ro bs (p + 1 + 1) 6 (by omega) (b.add (q := 2) (by omega)) (by omega)
    refine ⟨v ++ x, 2 + q, by simp; omega, by omega, ?_⟩
    have hsz : v.length + x.length ≤ 4611686018427387904 := by omega
    push_cast at c4
    simp at c3
    rw [ev_fn Tryd.f89 rfl Tryd.func89 rfl rfl rfl (Nat.le_of_ble_eq_true rfl)]
    simp [c1, c3, c4, e, hsz]
    omega
end Go.Ev

/- Draws: bent bytes, bent parts, lists of parts. -/
set_option linter.unusedSimpArgs false
set_option linter.unusedVariables false
set_option maxRecDepth 100000
set_option maxHeartbeats 4000000
namespace Go.Ev
open Go.Proofs
theorem ev_l1SomeB (bs : List UInt8) (p : Nat) (b : RdB bs p) (hp : p + 3 ≤ 1099511627776) :
    ∃ s : Sp, ((-9223372036854775808 ≤ s.1 ∧ s.1 ≤ 9223372036854775807) ∧ -9223372036854775808 ≤ s.2 ∧ s.2 ≤ 9223372036854775807) ∧ ev E 88 [rdA bs p] = some { rs := [.v .own true (spL s)], outs := [rdO bs (p + 3)] } := by
  obtain ⟨s, hs, c1⟩ := ev_l1Span bs p b (by omega)
  obtain ⟨k, hk, c2⟩ := ev_pick .ro bs (p + 2) 48 ⟨b.b, by omega⟩ (by omega)
  by_cases k0 : k = 0
  · subst k0
    refine ⟨(s.1, s.1), by dsimp only; omega, ?_⟩
    rw [ev_fn Tryd.f88 rfl Tryd.func88 rfl rfl rfl (Nat.le_of_ble_eq_true rfl)]
    simp [c1, c2]
  · have e0 : eqI k 0 = false := eqI_not.2 (by omega)
    by_cases k1 : k = 1
    · subst k1
      refine ⟨(-1, s.2), by dsimp only; omega, ?_⟩
      push_cast at c2
      rw [ev_fn Tryd.f88 rfl Tryd.func88 rfl rfl rfl (Nat.le_of_ble_eq_true rfl)]
      simp [c1, c2, eqI]
    · have e1 : eqI k 1 = false := eqI_not.2 (by omega)
      by_cases k2 : k = 2
      · subst k2
        refine ⟨(s.1, 49), by dsimp only; omega, ?_⟩
        push_cast at c2
        rw [ev_fn Tryd.f88 rfl Tryd.func88 rfl rfl rfl (Nat.le_of_ble_eq_true rfl)]
        simp [c1, c2, eqI]
      · have e2 : eqI k 2 = false := eqI_not.2 (by omega)
        by_cases k3 : k = 3
        · subst k3
          refine ⟨(9223372036854775807, -9223372036854775808), by dsimp only; omega, ?_⟩
          push_cast at c2
          rw [ev_fn Tryd.f88 rfl Tryd.func88 rfl rfl rfl (Nat.le_of_ble_eq_true rfl)]
          simp [c1, c2, eqI]
        · have e3 : eqI k 3 = false := eqI_not.2 (by omega)
          refine ⟨s, by omega, ?_⟩
          rw [ev_fn Tryd.f88 rfl Tryd.func88 rfl rfl rfl (Nat.le_of_ble_eq_true rfl)]
          simp [c1, c2, e0, e1, e2, e3]
theorem ev_l1Some (bs : List UInt8) (p : Nat) (b : RdB bs p) (hp : p + 3 ≤ 1099511627776) :
    ∃ s : Sp, ev E 88 [rdA bs p] = some { rs := [.v .own true (spL s)], outs := [rdO bs (p + 3)] } := by
  obtain ⟨s, _, h⟩ := ev_l1SomeB bs p b hp
  exact ⟨s, h⟩
end Go.Ev

/- Draws: lists of parts. -/
set_option linter.unusedSimpArgs false
set_option linter.unusedVariables false
set_option maxRecDepth 100000
set_option maxHeartbeats 4000000
namespace Go.Ev
open Go.Proofs
end Go.Ev

/- Draws: bent lists of parts, caches. -/
set_option linter.unusedSimpArgs false
set_option linter.unusedVariables false
set_option maxRecDepth 100000
set_option maxHeartbeats 4000000
namespace Go.Ev
open Go.Proofs
end Go.Ev

/- Draws: caches. -/
set_option linter.unusedSimpArgs false
set_option linter.unusedVariables false
set_option maxRecDepth 100000
set_option maxHeartbeats 4000000
namespace Go.Ev
open Go.Proofs
structure OB (t : List UInt8) (h d : List Sp) : Prop where
  t : t.length ≤ 1000
  h : h.length ≤ 1000
  d : d.length ≤ 1000
theorem OB.w {t : List UInt8} {h d : List Sp} (o : OB t h d) : OwB t h d := ⟨by have := o.t; omega, by have := o.h; omega, by have := o.d; omega⟩
theorem OB.ok {t : List UInt8} {h d : List Sp} (e : ownOk t h d = true) : OB t h d := by
  obtain ⟨h1, h2, h3, _⟩ := ownOk_t e
  have := spsOk_len h2
  have := spsOk_len h3
  exact ⟨by omega, by omega, by omega⟩
theorem OB.nil : OB [] [] [] := ⟨by simp, by simp, by simp⟩
theorem cleanS_ex {t : List UInt8} {h d : List Sp} (p : Sp) (o : OB t h d) : ∃ t' h' d' b', cleanS t h d p = rOB t' h' d' b' ∧ OB t' h' d' := by
  unfold cleanS
  split
  · split
    · split
      · rename_i e; exact ⟨_, _, _, _, rfl, .ok e⟩
      · exact ⟨_, _, _, _, rfl, o⟩
    · exact ⟨_, _, _, _, rfl, o⟩
  · exact ⟨_, _, _, _, rfl, .nil⟩
theorem dropS_ex {t : List UInt8} {h d : List Sp} (p : Sp) (o : OB t h d) : ∃ t' h' d' b', dropS t h d p = rOB t' h' d' b' ∧ OB t' h' d' := by
  unfold dropS
  split
  · split
    · split
      · exact ⟨_, _, _, _, rfl, o⟩
      · split
        · rename_i e; exact ⟨_, _, _, _, rfl, .ok e⟩
        · exact ⟨_, _, _, _, rfl, o⟩
    · exact ⟨_, _, _, _, rfl, o⟩
  · exact ⟨_, _, _, _, rfl, .nil⟩
theorem fillS_ex {t : List UInt8} {h d : List Sp} (p : Sp) (x : List UInt8) (o : OB t h d) : ∃ t' h' d' b', fillS t h d p x = rOB t' h' d' b' ∧ OB t' h' d' := by
  unfold fillS
  split
  · split
    · split
      · rename_i e; exact ⟨_, _, _, _, rfl, .ok e⟩
      · exact ⟨_, _, _, _, rfl, o⟩
    · exact ⟨_, _, _, _, rfl, o⟩
  · exact ⟨_, _, _, _, rfl, .nil⟩
theorem writeS_ex {t : List UInt8} {h d : List Sp} (k : Int) (x : List UInt8) (o : OB t h d) : ∃ t' h' d' b', writeS t h d k x = rOB t' h' d' b' ∧ OB t' h' d' := by
  unfold writeS
  split
  · split
    · split
      · rename_i e; exact ⟨_, _, _, _, rfl, .ok e⟩
      · exact ⟨_, _, _, _, rfl, o⟩
    · exact ⟨_, _, _, _, rfl, o⟩
  · exact ⟨_, _, _, _, rfl, .nil⟩
abbrev zOw : List L := [.str [], .sl [], .sl []]
end Go.Ev

/- Draws: a cache and a part. -/
set_option linter.unusedSimpArgs false
set_option linter.unusedVariables false
set_option maxRecDepth 100000
set_option maxHeartbeats 4000000
namespace Go.Ev
open Go.Proofs
theorem ev_l10Open (bs : List UInt8) : ev E 27 [.v .ro false [.sl (rowsOfBytes bs)]] = some { rs := [.ptr .ro (rdL (bs.take 2000) 0)], outs := [] } := by
  have ht : rowsOfBytes (bs.take 2000) = (rowsOfBytes bs).take 2000 := by simp [rowsOfBytes]
  cases e : ltI 2000 bs.length
  · have h1 : bs.take 2000 = bs := List.take_of_length_le (by have := ltI_not.1 e; omega)
    rw [h1]
    rw [ev_fn Tryd.f27 rfl Tryd.func27 rfl rfl rfl (Nat.le_of_ble_eq_true rfl)]
    simp [e]
  · have h1 := ltI_iff.1 e
    have h2 : 2000 ≤ bs.length := by omega
    have hr : ∀ x ∈ rowsOfBytes bs, x.length = 1 := fun x hx => by
      simp only [rowsOfBytes, List.mem_map] at hx
      obtain ⟨b, _, rfl⟩ := hx
      rfl
    have h3 : (2000 : Int) ≤ bs.length := by omega
    rw [rdL, ht]
    rw [ev_fn Tryd.f27 rfl Tryd.func27 rfl rfl rfl (Nat.le_of_ble_eq_true rfl)]
    simp [e, h2, h3, hr]
    simp only [if_pos hr]
    simp
end Go.Ev

/- The law: cleaning keeps the data. -/
set_option linter.unusedSimpArgs false
set_option linter.unusedVariables false
set_option maxRecDepth 100000
set_option maxHeartbeats 4000000
namespace Go.Ev
open Go.Proofs
structure OC (t : List UInt8) (h d : List Sp) : Prop where
  t : t.length ≤ 2000
  h : h.length ≤ 2000
  d : d.length ≤ 2000
theorem OC.w {t : List UInt8} {h d : List Sp} (o : OC t h d) : OwB t h d := ⟨by have := o.t; omega, by have := o.h; omega, by have := o.d; omega⟩
/-- The program's way and the reference's come to the same. -/
theorem clean_eq (t : List UInt8) (h d : List Sp) (p : Sp) : chgI t h d (spOk p) (inF h) (fun j => if inF [p] j = true then false else inF d j) = cleanS t h d p := by
  unfold chgI cleanS
  cases e : ownOk t h d with
  | false => rfl
  | true =>
    obtain ⟨_, hsh, _, _⟩ := ownOk_t e
    have h1 : spansF (inF h) 48 0 = h := by rw [spans_of (g := inF h) (fun j _ => rfl)]; exact of_self hsh fun j _ => rfl
    have h2 : spansF (fun j => if inF [p] j = true then false else inF d j) 48 0 = cutS d p := spans_of fun j _ => by simp [inF]
    rw [h1, h2]
theorem cutS_get (d : List Sp) (p : Sp) (j : Nat) (hj : j < 48) : inF (cutS d p) j = (!inSp j p && inF d j) := by
  have := (of_can fun j => if inSp j p = true then false else d.any (inSp j)).2 j hj
  rw [cutS, this]
  cases inSp j p <;> simp [inF]
theorem maxI_ge (a b : Int) : a ≤ maxI a b ∧ b ≤ maxI a b := by
  simp only [maxI, ltI, decide_eq_true_eq]
  split <;> omega
theorem minI_le (a b : Int) : minI a b ≤ a ∧ minI a b ≤ b := by
  simp only [minI, ltI, decide_eq_true_eq]
  split <;> omega
theorem patF_cut (t : List UInt8) (p : Sp) (hp : 0 ≤ p.1 ∧ p.1 < p.2 ∧ p.2 ≤ 48) : ∀ (d : List Sp), (∀ s ∈ d, (0 ≤ s.1 ∧ s.1 < s.2 ∧ s.2 ≤ 48) ∧ ∀ j : Nat, s.1 ≤ j → (j : Int) < s.2 → inSp j p = false) → patF t p d = []
  | [], _ => rfl
  | s :: d, h => by
    obtain ⟨hs, hj⟩ := h s (by simp)
    have e : ltI (meetS s p).1 (meetS s p).2 = false := by
      rw [ltI_not]
      apply Classical.byContradiction
      intro hn
      have hlt : (meetS s p).1 < (meetS s p).2 := by omega
      have hb := meet_bd hs hp
      obtain ⟨j, hj0⟩ : ∃ j : Nat, (meetS s p).1 = j := ⟨(meetS s p).1.toNat, by omega⟩
      have hm : s.1 ≤ (j : Int) ∧ p.1 ≤ (j : Int) ∧ (j : Int) < s.2 ∧ (j : Int) < p.2 := by
        have m1 := maxI_ge s.1 p.1
        have m2 := minI_le s.2 p.2
        simp only [meetS] at hj0 hlt
        omega
      have := hj j hm.1 hm.2.2.1
      simp [inSp, ltI] at this
      omega
    simp only [patF, e]
    exact patF_cut t p hp d fun q hq => h q (by simp [hq])
theorem OC.ok {t : List UInt8} {h d : List Sp} (e : ownOk t h d = true) : OC t h d := by
  obtain ⟨h1, h2, h3, _⟩ := ownOk_t e
  have := spsOk_len h2
  have := spsOk_len h3
  exact ⟨by omega, by omega, by omega⟩
end Go.Ev

/- Answers: patches put one behind the other. -/
set_option linter.unusedSimpArgs false
set_option linter.unusedVariables false
set_option maxRecDepth 100000
set_option maxHeartbeats 4000000
namespace Go.Ev
open Go.Proofs
def taF (s : List UInt8) : List Pt → Option (List UInt8)
  | [] => some s
  | q :: qs => if (twS s q.1 q.2).2 = true then taF (twS s q.1 q.2).1 qs else none
theorem twS_ok {s : List UInt8} {k : Int} {x : List UInt8} (h : (twS s k x).2 = true) : txtOk s = true ∧ wrOk k x = true ∧ twS s k x = (wrS s k.toNat x, true) := by
  unfold twS at h ⊢
  cases e1 : txtOk s <;> cases e2 : wrOk k x <;> simp [e1, e2] at h ⊢
theorem wrOk_len {k : Int} {x : List UInt8} (h : wrOk k x = true) : 0 ≤ k ∧ k + x.length ≤ 48 ∧ 0 < x.length ∧ x.all okB = true := by
  simp only [wrOk, Bool.and_eq_true, Bool.not_eq_true', ltI_not, eqS_not] at h
  have := List.length_pos_iff.2 h.1.2
  exact ⟨by omega, by omega, this, h.1.1.2.1⟩
theorem txtOk_wr {s : List UInt8} {k : Int} {x : List UInt8} (h1 : txtOk s = true) (h2 : wrOk k x = true) : txtOk (wrS s k.toNat x) = true := by
  obtain ⟨a1, a2, a3, a4⟩ := wrOk_len h2
  have hs := txtOk_len h1
  simp only [txtOk, Bool.and_eq_true, Bool.not_eq_true', ltI_not] at h1 ⊢
  refine ⟨?_, by rw [wrS_len]; omega⟩
  have h46 : okB 46 = true := by decide
  rw [List.all_eq_true] at h1 a4 ⊢
  intro c hc
  simp only [wrS, List.mem_append] at hc
  rcases hc with (hc | hc) | hc
  · have := List.mem_of_mem_take hc
    rcases List.mem_append.1 this with hc | hc
    · exact h1.1 c hc
    · rw [(List.mem_replicate.1 hc).2]; exact h46
  · exact a4 c hc
  · exact h1.1 c (List.mem_of_mem_drop hc)
end Go.Ev

/- The law: unsaved writes are told exactly. -/
set_option linter.unusedSimpArgs false
set_option linter.unusedVariables false
set_option maxRecDepth 100000
set_option maxHeartbeats 4000000
namespace Go.Ev
open Go.Proofs
theorem wrS_get (s x : List UInt8) (k i : Nat) : (wrS s k x)[i]? = if k ≤ i ∧ i < k + x.length then x[i - k]? else if i < s.length then s[i]? else if i < k then some 46 else none := by
  simp only [wrS, List.getElem?_append, List.getElem?_take, List.getElem?_drop, List.getElem?_replicate, List.length_append, List.length_take, List.length_replicate]
  grind
theorem subS_get (t : List UInt8) (a b i : Nat) (h : a + i < b) : (subS t ((a : Int), (b : Int)))[i]? = t[a + i]? := by
  simp only [subS, List.getElem?_drop, Int.toNat_natCast]
  rw [List.getElem?_take_of_lt h]
theorem wrOk_of {t : List UInt8} (ht : t.length = 48) (hok : t.all okB = true) {a b : Nat} (h1 : a < b) (h2 : b ≤ 48) : wrOk a (subS t ((a : Int), (b : Int))) = true := by
  have hl : (subS t ((a : Int), (b : Int))).length = b - a := by simp [subS]; omega
  simp only [wrOk, Bool.and_eq_true, Bool.not_eq_true', ltI_not, eqS_not, hl]
  refine ⟨⟨⟨⟨by omega, by omega⟩, ?_, by omega⟩, fun e => ?_⟩, by omega⟩
  · rw [List.all_eq_true] at hok ⊢
    exact fun c hc => hok c (List.mem_of_mem_take (List.mem_of_mem_drop hc))
  · rw [e] at hl
    simp at hl
    omega
theorem bool_pass {a b : Bool} (c : Bool) (h : (a && b) = false) : (b && (a || c)) = (b && c) := by cases a <;> cases b <;> simp_all
theorem taF_pat (t : List UInt8) (p : Sp) (ht : t.length = 48) (hok : t.all okB = true) (hp : 0 ≤ p.1 ∧ p.1 < p.2 ∧ p.2 ≤ 48) : ∀ (ds : List Sp) (z : List UInt8), (∀ s ∈ ds, 0 ≤ s.1 ∧ s.1 < s.2 ∧ s.2 ≤ 48) → txtOk z = true →
    ∃ o, taF z (patF t p ds) = some o ∧ txtOk o = true ∧ ∀ i, i < o.length → o[i]? = some (if (inSp i p && inF ds i) = true then t.getD i 0 else z.getD i 46)
  | [], z, _, hz => ⟨z, rfl, hz, fun i hi => by simp [inF, hi]⟩
  | s :: ds, z, hd, hz => by
    have hs := hd s (by simp)
    have hb := meet_bd hs hp
    rw [patF]
    have hm1 := maxI_ge s.1 p.1
    have hm2 := minI_le s.2 p.2
    have hme : (meetS s p).1 = maxI s.1 p.1 ∧ (meetS s p).2 = minI s.2 p.2 := ⟨rfl, rfl⟩
    have hin : ∀ i : Nat, inSp i (meetS s p) = (inSp i s && inSp i p) := fun i => by
      rw [Bool.eq_iff_iff, Bool.and_eq_true, inSp_iff, inSp_iff, inSp_iff, hme.1, hme.2]
      simp only [maxI, minI, ltI, decide_eq_true_eq]
      constructor
      · intro ⟨h1, h2⟩; split at h1 <;> split at h2 <;> omega
      · intro h; constructor <;> split <;> omega
    cases e : ltI (meetS s p).1 (meetS s p).2
    · obtain ⟨o, h1, h2, h3⟩ := taF_pat t p ht hok hp ds z (fun q hq => hd q (by simp [hq])) hz
      refine ⟨o, h1, h2, fun i hi => ?_⟩
      rw [h3 i hi]
      have : inSp i (meetS s p) = false := by
        rw [← Bool.not_eq_true, inSp_iff]
        rw [ltI_not] at e
        omega
      rw [hin i] at this
      have e5 : (inSp i p && inF (s :: ds) i) = (inSp i p && inF ds i) := bool_pass _ this
      simp only [e5]
    · rw [ltI_iff] at e
      obtain ⟨a, ha⟩ : ∃ a : Nat, (meetS s p).1 = a := ⟨(meetS s p).1.toNat, by omega⟩
      obtain ⟨b, hbb⟩ : ∃ b : Nat, (meetS s p).2 = b := ⟨(meetS s p).2.toNat, by omega⟩
      have hms : meetS s p = ((a : Int), (b : Int)) := Prod.ext ha hbb
      rw [hms] at hin e hb ⊢
      dsimp only at e hb
      have hw := wrOk_of ht hok (a := a) (b := b) (by omega) (by omega)
      have htw : twS z a (subS t ((a : Int), (b : Int))) = (wrS z a (subS t ((a : Int), (b : Int))), true) := by simp only [twS, hz, hw, if_true, Int.toNat_natCast]
      have hzw := txtOk_wr hz hw
      rw [Int.toNat_natCast] at hzw
      obtain ⟨o, h1, h2, h3⟩ := taF_pat t p ht hok hp ds _ (fun q hq => hd q (by simp [hq])) hzw
      refine ⟨o, ?_, h2, fun i hi => ?_⟩
      · simp only [if_true, taF, htw]; exact h1
      · rw [h3 i hi]
        have hl : (subS t ((a : Int), (b : Int))).length = b - a := by simp [subS]; omega
        have hi48 := txtOk_len h2
        have hini := hin i
        have hab : inSp i ((a : Int), (b : Int)) = true ↔ a ≤ i ∧ i < b := by rw [inSp_iff]; dsimp only; omega
        have hget := wrS_get z (subS t ((a : Int), (b : Int))) a i
        rw [hl] at hget
        congr 1
        have e4 : inF (s :: ds) i = (inSp i s || inF ds i) := rfl
        by_cases hc : a ≤ i ∧ i < b
        · rw [if_pos (by omega), subS_get t a b _ (by omega), show a + (i - a) = i by omega] at hget
          rw [hab.2 hc] at hini
          have hini := hini.symm
          rw [Bool.and_eq_true] at hini
          simp only [e4, hini.1, hini.2, Bool.true_or, Bool.and_self, Bool.true_and, if_true, List.getD_eq_getElem?_getD, hget]
          rw [List.getElem?_eq_getElem (by omega)]
          simp
        · have hf : inSp i ((a : Int), (b : Int)) = false := by rw [← Bool.not_eq_true, hab]; exact hc
          rw [hf] at hini
          rw [if_neg (by omega)] at hget
          have hz2 : (wrS z a (subS t ((a : Int), (b : Int)))).getD i 46 = z.getD i 46 := by
            rw [List.getD_eq_getElem?_getD, List.getD_eq_getElem?_getD, hget]
            split
            · rfl
            · rename_i h
              rw [List.getElem?_eq_none (by omega : z.length ≤ i)]
              split <;> rfl
          have e5 : (inSp i p && inF (s :: ds) i) = (inSp i p && inF ds i) := bool_pass _ hini.symm
          simp only [hz2, e5]
theorem eq_pt (q r : Pt) : cellsEq (ptL q) (ptL r) = some (eqI q.1 r.1 && eqS q.2 r.2) := by simp
end Go.Ev

/- Plain words: stores, requests, pieces of a file. No program in sight. -/
set_option linter.unusedSimpArgs false
set_option linter.unusedVariables false
namespace Go.Ev
abbrev Bs := List UInt8
structure ReqT where
  who : Int
  epoch : Int
  num : Int
  obj : Int
  pos : Int
  data : Bs
structure StoreT where
  now : List Bs
  sure : List Bs
  last : List Int
  slast : List Int
  floors : List Int
def whoOk (k : Int) : Bool := !ltI k 0 && ltI k 3
def reqOk (q : ReqT) : Bool := whoOk q.who && !ltI q.epoch 0 && !ltI 100 q.epoch && !ltI q.num 1 && !ltI 1000 q.num && !ltI q.obj 0 && ltI q.obj 3 && wrOk q.pos q.data
def numsOk (s : StoreT) (i : Nat) : Bool := !ltI (s.slast.getD i 0) 0 && !ltI (s.last.getD i 0) (s.slast.getD i 0) && !ltI 1000 (s.last.getD i 0) && !ltI (s.floors.getD i 0) 0 && !ltI 100 (s.floors.getD i 0)
def textsOk (xs : List Bs) : Bool := xs.all txtOk && eqI xs.length 3
def storeOk (s : StoreT) : Bool := textsOk s.now && textsOk s.sure && eqI s.last.length 3 && eqI s.slast.length 3 && eqI s.floors.length 3 && allTo (numsOk s) 3 0
def storeDo (s : StoreT) (q : ReqT) : StoreT × Int :=
  if reqOk q = true then
    if ltI q.epoch (s.floors.getD q.who.toNat 0) = true then (s, 2)
    else if ltI (s.last.getD q.who.toNat 0) q.num = true then
      if ltI (s.last.getD q.who.toNat 0 + 1) q.num = true then (s, 4)
      else ({ s with now := s.now.set q.obj.toNat (wrS (s.now.getD q.obj.toNat []) q.pos.toNat q.data), last := s.last.set q.who.toNat q.num }, 0)
    else (s, 3)
  else (s, 1)
def storeAll (s : StoreT) : List ReqT → StoreT × List Int
  | [] => (s, [])
  | q :: qs => ((storeAll (storeDo s q).1 qs).1, (storeDo s q).2 :: (storeAll (storeDo s q).1 qs).2)
def storeSync (s : StoreT) : StoreT := { s with sure := s.now, slast := s.last }
def storeFall (s : StoreT) : StoreT := { s with now := s.sure, last := s.slast }
def storeFence (s : StoreT) (who : Nat) (e : Int) : StoreT := { s with floors := s.floors.set who (maxI (s.floors.getD who 0) e) }
/-- Of the store, for sure. -/
structure StoreP (s : StoreT) : Prop where
  now : s.now.length = 3
  nowT : ∀ x ∈ s.now, txtOk x = true
  sure : s.sure.length = 3
  sureT : ∀ x ∈ s.sure, txtOk x = true
  last : s.last.length = 3
  slast : s.slast.length = 3
  floors : s.floors.length = 3
  nums : ∀ i, i < 3 → 0 ≤ s.slast.getD i 0 ∧ s.slast.getD i 0 ≤ s.last.getD i 0 ∧ s.last.getD i 0 ≤ 1000 ∧ 0 ≤ s.floors.getD i 0 ∧ s.floors.getD i 0 ≤ 100
theorem eqI3 {n : Nat} : eqI n 3 = true ↔ n = 3 := by rw [eqI_iff]; omega
theorem storeOk_iff {s : StoreT} : storeOk s = true ↔ StoreP s := by
  simp only [storeOk, textsOk, Bool.and_eq_true, eqI3, allTo_iff, List.all_eq_true]
  constructor
  · rintro ⟨⟨⟨⟨⟨⟨h1, h2⟩, ⟨h3, h4⟩⟩, h5⟩, h6⟩, h7⟩, h8⟩
    refine ⟨h2, h1, h4, h3, h5, h6, h7, fun i hi => ?_⟩
    have := h8 i (Nat.zero_le i) (by omega)
    simp only [numsOk, Bool.and_eq_true, Bool.not_eq_true', ltI_not] at this
    omega
  · intro h
    refine ⟨⟨⟨⟨⟨⟨h.nowT, h.now⟩, ⟨h.sureT, h.sure⟩⟩, h.last⟩, h.slast⟩, h.floors⟩, fun i _ hi => ?_⟩
    have := h.nums i (by omega)
    simp only [numsOk, Bool.and_eq_true, Bool.not_eq_true', ltI_not]
    omega
structure ReqP (q : ReqT) : Prop where
  who : 0 ≤ q.who ∧ q.who < 3
  epoch : 0 ≤ q.epoch ∧ q.epoch ≤ 100
  num : 1 ≤ q.num ∧ q.num ≤ 1000
  obj : 0 ≤ q.obj ∧ q.obj < 3
  wr : wrOk q.pos q.data = true
theorem reqOk_iff {q : ReqT} : reqOk q = true ↔ ReqP q := by
  simp only [reqOk, whoOk, Bool.and_eq_true, Bool.not_eq_true', ltI_not, ltI_iff]
  constructor
  · rintro ⟨⟨⟨⟨⟨⟨⟨⟨h1, h2⟩, h3⟩, h4⟩, h5⟩, h6⟩, h7⟩, h8⟩, h9⟩
    exact ⟨⟨h1, h2⟩, ⟨h3, h4⟩, ⟨h5, h6⟩, ⟨h7, h8⟩, h9⟩
  · intro h
    exact ⟨⟨⟨⟨⟨⟨⟨⟨h.who.1, h.who.2⟩, h.epoch.1⟩, h.epoch.2⟩, h.num.1⟩, h.num.2⟩, h.obj.1⟩, h.obj.2⟩, h.wr⟩
/-- A request that is done. -/
theorem storeDo_fine {s : StoreT} {q : ReqT} (h : (storeDo s q).2 = 0) : ReqP q ∧ s.floors.getD q.who.toNat 0 ≤ q.epoch ∧ q.num = s.last.getD q.who.toNat 0 + 1 ∧
    storeDo s q = ({ s with now := s.now.set q.obj.toNat (wrS (s.now.getD q.obj.toNat []) q.pos.toNat q.data), last := s.last.set q.who.toNat q.num }, 0) := by
  unfold storeDo at h ⊢
  cases e1 : reqOk q
  · simp only [e1, Bool.false_eq_true, if_false] at h; exact absurd h (by decide)
  · cases e2 : ltI q.epoch (s.floors.getD q.who.toNat 0)
    · cases e3 : ltI (s.last.getD q.who.toNat 0) q.num
      · simp only [e1, e2, e3, Bool.false_eq_true, if_false, if_true] at h; exact absurd h (by decide)
      · cases e4 : ltI (s.last.getD q.who.toNat 0 + 1) q.num
        · rw [ltI_not] at e2 e4
          rw [ltI_iff] at e3
          exact ⟨reqOk_iff.1 e1, e2, by omega, by simp only [Bool.false_eq_true, if_false, if_true]⟩
        · simp only [e1, e2, e3, e4, Bool.false_eq_true, if_false, if_true] at h; exact absurd h (by decide)
    · simp only [e1, e2, if_true] at h; exact absurd h (by decide)
theorem getD_set {α : Type} (xs : List α) (i j : Nat) (a d : α) : (xs.set i a).getD j d = if i = j ∧ j < xs.length then a else xs.getD j d := by
  simp only [List.getD_eq_getElem?_getD, List.getElem?_set]
  by_cases h : i = j
  · subst h
    by_cases h2 : i < xs.length
    · simp [h2]
    · simp [h2, List.getElem?_eq_none (by omega : xs.length ≤ i)]
  · simp [h]
theorem storeDo_ok {s : StoreT} (q : ReqT) (h : StoreP s) : StoreP (storeDo s q).1 := by
  by_cases hc : (storeDo s q).2 = 0
  · obtain ⟨h1, h2, h3, h4⟩ := storeDo_fine hc
    rw [h4]
    obtain ⟨ho1, ho2⟩ := h1.obj
    obtain ⟨hw1, hw2⟩ := h1.who
    refine ⟨by simpa using h.now, fun x hx => ?_, h.sure, h.sureT, by simpa using h.last, h.slast, h.floors, fun i hi => ?_⟩
    · rcases List.mem_or_eq_of_mem_set hx with hx | rfl
      · exact h.nowT x hx
      · refine txtOk_wr (h.nowT _ ?_) h1.wr
        have : q.obj.toNat < s.now.length := by rw [h.now]; omega
        rw [List.getD_eq_getElem?_getD, List.getElem?_eq_getElem this]
        exact List.getElem_mem this
    · have := h.nums i hi
      simp only [getD_set]
      split
      · rename_i hi2
        obtain ⟨rfl, _⟩ := hi2
        have := h1.num
        omega
      · exact this
  · have : (storeDo s q).1 = s := by
      unfold storeDo at hc ⊢
      repeat' split
      all_goals first | rfl | skip
      rename_i a b c d
      rw [if_pos a, if_neg b, if_pos c, if_neg d] at hc
      exact absurd rfl hc
    rw [this]; exact h
theorem storeAll_ok {s : StoreT} : ∀ (qs : List ReqT) {s : StoreT}, StoreP s → StoreP (storeAll s qs).1
  | [], s, h => h
  | q :: qs, s, h => storeAll_ok (s := s) qs (storeDo_ok q h)
theorem storeDo_keeps (s : StoreT) (q : ReqT) : (storeDo s q).1.sure = s.sure ∧ (storeDo s q).1.slast = s.slast ∧ (storeDo s q).1.floors = s.floors := by
  unfold storeDo
  split
  · split
    · exact ⟨rfl, rfl, rfl⟩
    · split
      · split <;> exact ⟨rfl, rfl, rfl⟩
      · exact ⟨rfl, rfl, rfl⟩
  · exact ⟨rfl, rfl, rfl⟩
theorem storeAll_keeps : ∀ (qs : List ReqT) (s : StoreT), (storeAll s qs).1.sure = s.sure ∧ (storeAll s qs).1.slast = s.slast ∧ (storeAll s qs).1.floors = s.floors
  | [], s => ⟨rfl, rfl, rfl⟩
  | q :: qs, s => by
    obtain ⟨h1, h2, h3⟩ := storeAll_keeps qs (storeDo s q).1
    obtain ⟨g1, g2, g3⟩ := storeDo_keeps s q
    exact ⟨h1.trans g1, h2.trans g2, h3.trans g3⟩
theorem storeAll_len : ∀ (qs : List ReqT) (s : StoreT), (storeAll s qs).2.length = qs.length
  | [], s => rfl
  | q :: qs, s => by simp [storeAll, storeAll_len qs]
theorem storeAll_app : ∀ (qs rs : List ReqT) (s : StoreT), storeAll s (qs ++ rs) = ((storeAll (storeAll s qs).1 rs).1, (storeAll s qs).2 ++ (storeAll (storeAll s qs).1 rs).2)
  | [], rs, s => rfl
  | q :: qs, rs, s => by simp [storeAll, storeAll_app qs rs]
theorem storeFall_all (s : StoreT) (qs : List ReqT) : storeFall (storeAll s qs).1 = storeFall s := by
  obtain ⟨h1, h2, h3⟩ := storeAll_keeps qs s
  simp [storeFall, h1, h2, h3]
def fineAll (cs : List Int) : Prop := ∀ c ∈ cs, c = 0
/-! ### where a place of the file lies -/
def objOf (size many j : Nat) : Nat := j / size % many
def posOf (size many j : Nat) : Nat := j / size / many * size + j % size
theorem lay_inj {size many j k : Nat} (hs : 0 < size) (hm : 0 < many) (h1 : objOf size many j = objOf size many k) (h2 : posOf size many j = posOf size many k) : j = k := by
  unfold objOf posOf at *
  have a1 := Nat.mod_lt j hs
  have a2 := Nat.mod_lt k hs
  have b1 := Nat.div_add_mod j size
  have b2 := Nat.div_add_mod k size
  have c1 := Nat.div_add_mod (j / size) many
  have c2 := Nat.div_add_mod (k / size) many
  have e1 : j % size = k % size := by
    have := congrArg (· % size) h2
    simpa [Nat.mul_add_mod_self_right] using this
  have e2 : j / size / many * size = k / size / many * size := by omega
  have e3 : j / size / many = k / size / many := Nat.eq_of_mul_eq_mul_right hs e2
  rw [e3, h1] at c1
  have e4 : j / size = k / size := by omega
  rw [e4, e1] at b1
  omega
theorem pos_le {size many j : Nat} (hs : 0 < size) (hm : 0 < many) : posOf size many j ≤ j := by
  unfold posOf
  have b1 := Nat.div_add_mod j size
  have : j / size / many * size ≤ j / size * size := Nat.mul_le_mul_right _ (Nat.div_le_self _ _)
  rw [Nat.mul_comm (j / size)] at this
  omega
/-- Places of one piece lie one behind the other. -/
theorem lay_run {size many a d : Nat} (hs : 0 < size) (h : a % size + d < size) : objOf size many (a + d) = objOf size many a ∧ posOf size many (a + d) = posOf size many a + d := by
  have e1 : (a + d) / size = a / size := by
    have b1 := Nat.div_add_mod a size
    refine Nat.div_eq_of_lt_le ?_ ?_
    · rw [Nat.mul_comm]; omega
    · rw [Nat.succ_mul, Nat.mul_comm]; omega
  have e2 : (a + d) % size = a % size + d := by
    have b1 := Nat.div_add_mod a size
    have b2 := Nat.div_add_mod (a + d) size
    rw [e1] at b2
    omega
  unfold objOf posOf
  rw [e1, e2]
  exact ⟨rfl, by omega⟩
/-- The byte of a place, as the objects have it. -/
def fileAt (size many : Nat) (now : List Bs) (j : Nat) : UInt8 := (now.getD (objOf size many j) []).getD (posOf size many j) 46
/-- A piece is put: from place 'a' on, within a piece, the bytes x. -/
theorem file_put {size many a : Nat} {now : List Bs} {x : Bs} (hs : 0 < size) (hm : 0 < many) (hm3 : many ≤ 3) (hn : now.length = 3) (hx : a % size + x.length ≤ size) (j : Nat) :
    fileAt size many (now.set (objOf size many a) (wrS (now.getD (objOf size many a) []) (posOf size many a) x)) j = if a ≤ j ∧ j < a + x.length then x.getD (j - a) 0 else fileAt size many now j := by
  have ho : objOf size many a < now.length := by have := Nat.mod_lt (a / size) hm; unfold objOf; omega
  unfold fileAt
  rw [getD_set]
  by_cases hj : objOf size many a = objOf size many j
  · rw [if_pos ⟨hj, by rw [← hj]; exact ho⟩]
    rw [List.getD_eq_getElem?_getD (l := wrS _ _ _), wrS_get]
    by_cases hp : posOf size many a ≤ posOf size many j ∧ posOf size many j < posOf size many a + x.length
    · rw [if_pos hp]
      obtain ⟨d, hd⟩ : ∃ d, posOf size many j = posOf size many a + d := ⟨posOf size many j - posOf size many a, by omega⟩
      have hr := lay_run (many := many) hs (a := a) (d := d) (by omega)
      have he : j = a + d := lay_inj hs hm (hj.symm.trans hr.1.symm) (hd.trans hr.2.symm)
      rw [if_pos (by omega), hd, he]
      rw [List.getD_eq_getElem?_getD, show posOf size many a + d - posOf size many a = d by omega, show a + d - a = d by omega]
      rw [List.getElem?_eq_getElem (by omega)]
      rfl
    · have hnn : ¬ (a ≤ j ∧ j < a + x.length) := by
        intro hc
        obtain ⟨d, hd⟩ : ∃ d, j = a + d := ⟨j - a, by omega⟩
        have hr := lay_run (many := many) hs (a := a) (d := d) (by omega)
        rw [hd, hr.2] at hp
        omega
      rw [if_neg hp, if_neg hnn, ← hj]
      by_cases h1 : posOf size many j < (now.getD (objOf size many a) []).length
      · rw [if_pos h1]; simp only [List.getD_eq_getElem?_getD]
      · rw [if_neg h1, List.getD_eq_getElem?_getD, List.getElem?_eq_none (by omega)]
        split <;> rfl
  · rw [if_neg (fun h => hj h.1), if_neg]
    intro hc
    obtain ⟨d, hd⟩ : ∃ d, j = a + d := ⟨j - a, by omega⟩
    have hr := lay_run (many := many) hs (a := a) (d := d) (by omega)
    rw [hd, hr.1] at hj
    exact hj rfl
end Go.Ev

/- Plain words: what writing back does to the file; locks; caches; worlds, and what happens in them. No program in sight. -/
set_option linter.unusedSimpArgs false
set_option linter.unusedVariables false
namespace Go.Ev
/-- The end of the piece that a place lies in, or the end of all. -/
def endOf (size a hi : Nat) : Nat := min hi ((a / size + 1) * size)
theorem endOf_gt {size a hi : Nat} (hs : 0 < size) (h : a < hi) : a < endOf size a hi ∧ endOf size a hi ≤ hi ∧ a % size + (endOf size a hi - a) ≤ size := by
  have b1 := Nat.div_add_mod a size
  have b2 := Nat.mod_lt a hs
  unfold endOf
  rw [Nat.succ_mul, Nat.mul_comm (a / size) size]
  omega
def reqsF (size many : Nat) (who epoch : Int) (lo : Nat) (x : Bs) (hi : Nat) : Nat → Nat → Int → List ReqT
  | 0, _, _ => []
  | n + 1, a, num => if a < hi then { who, epoch, num, obj := (objOf size many a : Nat), pos := (posOf size many a : Nat), data := (x.take (endOf size a hi - lo)).drop (a - lo) } :: reqsF size many who epoch lo x hi n (endOf size a hi) (num + 1) else []
theorem fineAll_cons {c : Int} {cs : List Int} : fineAll (c :: cs) ↔ c = 0 ∧ fineAll cs := by simp [fineAll]
theorem fineAll_app {cs ds : List Int} : fineAll (cs ++ ds) ↔ fineAll cs ∧ fineAll ds := by
  simp only [fineAll, List.mem_append]
  exact ⟨fun h => ⟨fun c hc => h c (.inl hc), fun c hc => h c (.inr hc)⟩, fun h c hc => hc.elim (h.1 c) (h.2 c)⟩
theorem reqsF_file {size many : Nat} (hs : 0 < size) (hm : 0 < many) (hm3 : many ≤ 3) {who epoch : Int} {lo hi : Nat} {x : Bs} (hx : hi = lo + x.length) : ∀ (n a : Nat) (num : Int) (s : StoreT), StoreP s → lo ≤ a → hi ≤ a + n →
    fineAll (storeAll s (reqsF size many who epoch lo x hi n a num)).2 → ∀ j, fileAt size many (storeAll s (reqsF size many who epoch lo x hi n a num)).1.now j = if a ≤ j ∧ j < hi then x.getD (j - lo) 0 else fileAt size many s.now j
  | 0, a, num, s, hsp, hlo, hn, hf, j => by
    rw [if_neg (by omega)]
    rfl
  | n + 1, a, num, s, hsp, hlo, hn, hf, j => by
    rw [reqsF] at hf ⊢
    by_cases ha : a < hi
    · rw [if_pos ha] at hf ⊢
      obtain ⟨g1, g2, g3⟩ := endOf_gt hs ha
      generalize endOf size a hi = e at *
      simp only [storeAll] at hf ⊢
      rw [fineAll_cons] at hf
      obtain ⟨_, _, _, hd⟩ := storeDo_fine hf.1
      have ih := reqsF_file hs hm hm3 (who := who) (epoch := epoch) hx n e (num + 1) _ (storeDo_ok _ hsp) (by omega) (by omega) hf.2 j
      rw [ih, hd]
      dsimp only
      simp only [Int.toNat_natCast]
      have hl : ((x.take (e - lo)).drop (a - lo)).length = e - a := by simp; omega
      rw [file_put hs hm hm3 hsp.now (by rw [hl]; omega), hl]
      by_cases h1 : e ≤ j ∧ j < hi
      · rw [if_pos h1, if_pos (by omega)]
      · rw [if_neg h1]
        by_cases h2 : a ≤ j ∧ j < a + (e - a)
        · rw [if_pos h2, if_pos (by omega)]
          simp only [List.getD_eq_getElem?_getD, List.getElem?_drop]
          rw [List.getElem?_take_of_lt (by omega), show a - lo + (j - a) = j - lo by omega]
        · rw [if_neg h2, if_neg (by omega)]
    · rw [if_neg ha, if_neg (by omega)]
      rfl
def reqsAll (size many : Nat) (who epoch : Int) : List Pt → Int → List ReqT
  | [], _ => []
  | q :: qs, num => reqsF size many who epoch q.1.toNat q.2 (q.1.toNat + q.2.length) 48 q.1.toNat num ++ reqsAll size many who epoch qs (num + (reqsF size many who epoch q.1.toNat q.2 (q.1.toNat + q.2.length) 48 q.1.toNat num).length)
theorem reqsAll_file {size many : Nat} (hs : 0 < size) (hm : 0 < many) (hm3 : many ≤ 3) {who epoch : Int} (t : Bs) (p : Sp) (ht : t.length = 48) (hp : 0 ≤ p.1 ∧ p.1 < p.2 ∧ p.2 ≤ 48) : ∀ (ds : List Sp) (num : Int) (s : StoreT), StoreP s → (∀ d ∈ ds, 0 ≤ d.1 ∧ d.1 < d.2 ∧ d.2 ≤ 48) →
    fineAll (storeAll s (reqsAll size many who epoch (patF t p ds) num)).2 → ∀ j, fileAt size many (storeAll s (reqsAll size many who epoch (patF t p ds) num)).1.now j = if (inSp j p && inF ds j) = true then t.getD j 0 else fileAt size many s.now j
  | [], num, s, hsp, hd, hf, j => by
    have : inF [] j = false := rfl
    rw [this, Bool.and_false]
    rfl
  | d :: ds, num, s, hsp, hd, hf, j => by
    have hs0 := hd d (by simp)
    have hb := meet_bd hs0 hp
    have hme : (meetS d p).1 = maxI d.1 p.1 ∧ (meetS d p).2 = minI d.2 p.2 := ⟨rfl, rfl⟩
    have hin : ∀ i : Nat, inSp i (meetS d p) = (inSp i d && inSp i p) := fun i => by
      rw [Bool.eq_iff_iff, Bool.and_eq_true, inSp_iff, inSp_iff, inSp_iff, hme.1, hme.2]
      simp only [maxI, minI, ltI, decide_eq_true_eq]
      constructor
      · intro ⟨h1, h2⟩; split at h1 <;> split at h2 <;> omega
      · intro h; constructor <;> split <;> omega
    have e4 : inF (d :: ds) j = (inSp j d || inF ds j) := rfl
    rw [patF] at hf ⊢
    cases e : ltI (meetS d p).1 (meetS d p).2
    · rw [e] at hf
      simp only [Bool.false_eq_true, if_false] at hf ⊢
      have ih := reqsAll_file hs hm hm3 (who := who) (epoch := epoch) t p ht hp ds num s hsp (fun q hq => hd q (by simp [hq])) hf j
      have : inSp j (meetS d p) = false := by
        rw [← Bool.not_eq_true, inSp_iff]
        rw [ltI_not] at e
        omega
      rw [hin j] at this
      have e5 : (inSp j p && inF (d :: ds) j) = (inSp j p && inF ds j) := bool_pass _ this
      rw [ih]
      simp only [e5]
    · rw [e] at hf
      simp only [if_true] at hf ⊢
      rw [ltI_iff] at e
      obtain ⟨a, ha⟩ : ∃ a : Nat, (meetS d p).1 = a := ⟨(meetS d p).1.toNat, by omega⟩
      obtain ⟨b, hbb⟩ : ∃ b : Nat, (meetS d p).2 = b := ⟨(meetS d p).2.toNat, by omega⟩
      have hms : meetS d p = ((a : Int), (b : Int)) := Prod.ext ha hbb
      rw [hms] at hin e hb hf ⊢
      dsimp only at e hb hf ⊢
      have hl : (subS t ((a : Int), (b : Int))).length = b - a := by simp [subS]; omega
      rw [reqsAll, storeAll_app] at hf ⊢
      dsimp only at hf ⊢
      rw [fineAll_app] at hf
      simp only [Int.toNat_natCast, hl] at hf ⊢
      rw [show a + (b - a) = b by omega] at hf ⊢
      have h1 := reqsF_file hs hm hm3 (who := who) (epoch := epoch) (lo := a) (hi := b) (x := subS t ((a : Int), (b : Int))) (by omega) 48 a num s hsp (by omega) (by omega) hf.1 j
      have ih := reqsAll_file hs hm hm3 (who := who) (epoch := epoch) t p ht hp ds _ _ (storeAll_ok (s := s) _ hsp) (fun q hq => hd q (by simp [hq])) hf.2 j
      rw [ih, h1]
      have hini := hin j
      have hab : inSp j ((a : Int), (b : Int)) = true ↔ a ≤ j ∧ j < b := by rw [inSp_iff]; dsimp only; omega
      by_cases hc : a ≤ j ∧ j < b
      · have hini := hini.symm.trans (hab.2 hc)
        rw [Bool.and_eq_true] at hini
        have e6 : (inSp j p && inF (d :: ds) j) = true := by rw [e4, hini.1, hini.2]; rfl
        rw [if_pos hc, if_pos e6]
        have : (subS t ((a : Int), (b : Int))).getD (j - a) 0 = t.getD j 0 := by
          rw [List.getD_eq_getElem?_getD, subS_get t a b _ (by omega), show a + (j - a) = j by omega, List.getD_eq_getElem?_getD]
        rw [this]
        split <;> rfl
      · have hf2 : inSp j ((a : Int), (b : Int)) = false := by rw [← Bool.not_eq_true, hab]; exact hc
        have e5 : (inSp j p && inF (d :: ds) j) = (inSp j p && inF ds j) := bool_pass _ (hini.symm.trans hf2)
        rw [if_neg hc]
        simp only [e5]
/-- The numbers that requests of one take. -/
theorem reqsF_who (size many : Nat) (who epoch : Int) (lo : Nat) (x : Bs) (hi : Nat) : ∀ (n a : Nat) (num : Int), ∀ q ∈ reqsF size many who epoch lo x hi n a num, q.who = who ∧ q.epoch = epoch
  | 0, a, num => by simp [reqsF]
  | n + 1, a, num => by
    intro q hq
    rw [reqsF] at hq
    split at hq
    · rcases List.mem_cons.1 hq with rfl | hq
      · exact ⟨rfl, rfl⟩
      · exact reqsF_who size many who epoch lo x hi n _ _ q hq
    · simp at hq
theorem reqsAll_who (size many : Nat) (who epoch : Int) : ∀ (ps : List Pt) (num : Int), ∀ q ∈ reqsAll size many who epoch ps num, q.who = who ∧ q.epoch = epoch
  | [], num => by simp [reqsAll]
  | p :: ps, num => by
    intro q hq
    rw [reqsAll, List.mem_append] at hq
    exact hq.elim (reqsF_who _ _ _ _ _ _ _ _ _ _ q) (reqsAll_who size many who epoch ps _ q)
/-! ### locks -/
structure HoldT where
  r : List Sp
  w : List Sp
def noH : HoldT := ⟨[], []⟩
def clearS (a b : List Sp) : Bool := a.all fun x => b.all fun y => !ltI (meetS x y).1 (meetS x y).2
def lockAt (t : List HoldT) (i : Nat) : Bool := spsOk (t.getD i noH).r && spsOk (t.getD i noH).w && clearS (t.getD i noH).r (t.getD i noH).w && allTo (fun k => (k == i) || (clearS (t.getD i noH).w (t.getD k noH).w && clearS (t.getD i noH).w (t.getD k noH).r)) 3 0
def lockOk (t : List HoldT) : Bool := eqI t.length 3 && allTo (lockAt t) 3 0
def apartS (a b : List Sp) : Prop := ∀ j : Nat, ¬ (inF a j = true ∧ inF b j = true)
structure LockP (t : List HoldT) : Prop where
  len : t.length = 3
  r : ∀ i, i < 3 → spsOk (t.getD i noH).r = true
  w : ∀ i, i < 3 → spsOk (t.getD i noH).w = true
  rw : ∀ i, i < 3 → apartS (t.getD i noH).r (t.getD i noH).w
  ww : ∀ i k, i < 3 → k < 3 → k ≠ i → apartS (t.getD i noH).w (t.getD k noH).w
  wr : ∀ i k, i < 3 → k < 3 → k ≠ i → apartS (t.getD i noH).w (t.getD k noH).r
theorem clearS_iff {a b : List Sp} (ha : ∀ s ∈ a, 0 ≤ s.1 ∧ s.1 < s.2 ∧ s.2 ≤ 48) (hb : ∀ s ∈ b, 0 ≤ s.1 ∧ s.1 < s.2 ∧ s.2 ≤ 48) : clearS a b = true ↔ apartS a b := by
  simp only [clearS, List.all_eq_true, Bool.not_eq_true', ltI_not]
  constructor
  · intro h j ⟨h1, h2⟩
    obtain ⟨x, hx, x1, x2⟩ := inF_iff.1 h1
    obtain ⟨y, hy, y1, y2⟩ := inF_iff.1 h2
    have := h x hx y hy
    simp only [meetS, maxI, minI, ltI, decide_eq_true_eq] at this
    split at this <;> split at this <;> omega
  · intro h x hx y hy
    have hx0 := ha x hx
    have hy0 := hb y hy
    apply Classical.byContradiction
    intro hn
    have hlt : (meetS x y).1 < (meetS x y).2 := by omega
    refine h (meetS x y).1.toNat ⟨inF_iff.2 ⟨x, hx, ?_⟩, inF_iff.2 ⟨y, hy, ?_⟩⟩ <;>
      · simp only [meetS, maxI, minI, ltI, decide_eq_true_eq] at hlt ⊢
        split at hlt <;> split at hlt <;> (constructor <;> simp only [*, if_true, if_false] <;> omega)
theorem lockOk_iff {t : List HoldT} : lockOk t = true ↔ LockP t := by
  simp only [lockOk, Bool.and_eq_true, eqI3, allTo_iff]
  constructor
  · rintro ⟨h0, h⟩
    have g : ∀ i, i < 3 → spsOk (t.getD i noH).r = true ∧ spsOk (t.getD i noH).w = true := fun i hi => by
      have := h i (Nat.zero_le i) (by omega)
      simp only [lockAt, Bool.and_eq_true] at this
      exact ⟨this.1.1.1, this.1.1.2⟩
    refine ⟨h0, fun i hi => (g i hi).1, fun i hi => (g i hi).2, fun i hi => ?_, fun i k hi hk hne => ?_, fun i k hi hk hne => ?_⟩
    · have := h i (Nat.zero_le i) (by omega)
      simp only [lockAt, Bool.and_eq_true] at this
      exact (clearS_iff (spsOk_sp (g i hi).1) (spsOk_sp (g i hi).2)).1 this.1.2
    all_goals
      have := h i (Nat.zero_le i) (by omega)
      simp only [lockAt, Bool.and_eq_true, allTo_iff] at this
      have := this.2 k (Nat.zero_le k) (by omega)
      simp only [Bool.or_eq_true, beq_iff_eq, Bool.and_eq_true, hne, false_or] at this
    · exact (clearS_iff (spsOk_sp (g i hi).2) (spsOk_sp (g k hk).2)).1 this.1
    · exact (clearS_iff (spsOk_sp (g i hi).2) (spsOk_sp (g k hk).1)).1 this.2
  · intro h
    refine ⟨h.len, fun i _ hi => ?_⟩
    have hi : i < 3 := by omega
    simp only [lockAt, Bool.and_eq_true, allTo_iff]
    refine ⟨⟨⟨h.r i hi, h.w i hi⟩, (clearS_iff (spsOk_sp (h.r i hi)) (spsOk_sp (h.w i hi))).2 (h.rw i hi)⟩, fun k _ hk => ?_⟩
    have hk : k < 3 := by omega
    by_cases hne : k = i
    · simp [hne]
    · simp only [Bool.or_eq_true, beq_iff_eq, Bool.and_eq_true, hne, false_or]
      exact ⟨(clearS_iff (spsOk_sp (h.w i hi)) (spsOk_sp (h.w k hk))).2 (h.ww i k hi hk hne), (clearS_iff (spsOk_sp (h.w i hi)) (spsOk_sp (h.r k hk))).2 (h.wr i k hi hk hne)⟩
end Go.Ev

/- Answers: the program's caches: changes that turn the bytes. -/
set_option linter.unusedSimpArgs false
set_option linter.unusedVariables false
set_option maxRecDepth 100000
set_option maxHeartbeats 4000000
namespace Go.Ev
open Go.Proofs
def chgJ (t : List UInt8) (h d : List Sp) (may : Bool) (t' : List UInt8) (f g : Nat → Bool) : Out :=
  if ownOk t h d = true then
    if may = true then (if ownOk t' (spansF f 48 0) (spansF g 48 0) = true then rOB t' (spansF f 48 0) (spansF g 48 0) true else rOB t h d false)
    else rOB t h d false
  else rOB [] [] [] false
theorem rows_set (s : List UInt8) (i : Nat) (c : UInt8) : (rowsOfBytes s).set i [.int .u8 c.toNat] = rowsOfBytes (s.set i c) := by
  simp [rowsOfBytes, List.map_set]
def setB (c : UInt8) : Nat → Nat → List UInt8 → List UInt8
  | 0, _, s => s
  | n + 1, i, s => setB c n (i + 1) (s.set i c)
theorem setB_len (c : UInt8) : ∀ n i s, (setB c n i s).length = s.length
  | 0, _, _ => rfl
  | n + 1, i, s => by rw [setB, setB_len c n (i + 1)]; simp
theorem setB_get (c : UInt8) : ∀ (n i : Nat) (s : List UInt8) (j : Nat), i + n ≤ s.length → (setB c n i s)[j]? = if i ≤ j ∧ j < i + n then some c else s[j]?
  | 0, i, s, j, h => by rw [if_neg (by omega)]; rfl
  | n + 1, i, s, j, h => by
    rw [setB, setB_get c n (i + 1) (s.set i c) j (by simp; omega)]
    by_cases e : j = i
    · subst e
      rw [if_neg (by omega), if_pos (by omega), List.getElem?_set_self (by omega)]
    · rw [List.getElem?_set_ne (Ne.symm e)]
      by_cases h2 : i ≤ j ∧ j < i + (n + 1)
      · rw [if_pos h2, if_pos (by omega)]
      · rw [if_neg h2, if_neg (by omega)]
theorem overS_get (s x : List UInt8) (lo hi : Nat) (h1 : lo ≤ hi) (h2 : hi ≤ s.length) (hx : x.length = hi - lo) (j : Nat) : (overS s ((lo : Int), (hi : Int)) x)[j]? = if lo ≤ j ∧ j < hi then x[j - lo]? else s[j]? := by
  simp only [overS, wrap_i]
  by_cases a1 : j < lo
  · rw [List.append_assoc, List.getElem?_append_left (by simp; omega), List.getElem?_take_of_lt a1, if_neg (by omega)]
  · by_cases a2 : j < hi
    · rw [if_pos ⟨by omega, a2⟩, List.append_assoc, List.getElem?_append_right (by simp; omega), List.getElem?_append_left (by simp; omega)]
      congr 1
      simp
      omega
    · rw [if_neg (by omega), List.getElem?_append_right (by simp; omega), List.getElem?_drop]
      congr 1
      simp
      omega
theorem setB_over (c : UInt8) (s : List UInt8) (lo hi : Nat) (h1 : lo ≤ hi) (h2 : hi ≤ s.length) : setB c (hi - lo) lo s = overS s ((lo : Int), (hi : Int)) (List.replicate (hi - lo) c) := by
  refine List.ext_getElem? fun j => ?_
  rw [setB_get c _ _ _ _ (by omega), overS_get s _ lo hi h1 h2 (by simp)]
  by_cases e : lo ≤ j ∧ j < hi
  · rw [if_pos e, if_pos (by omega), List.getElem?_replicate, if_pos (by omega)]
  · rw [if_neg e, if_neg (by omega)]
theorem over1 (s x : List UInt8) (i j : Nat) (hi : i < s.length) (hj : j < x.length) : overS s ((i : Int), (i : Int) + 1) ((x.take (j + 1)).drop j) = s.set i x[j] := by
  have hx : (x.take (j + 1)).drop j = [x[j]] := by
    refine List.ext_getElem? fun k => ?_
    cases k with
    | zero => simp [hj]
    | succ k => rw [List.getElem?_eq_none (by simp; omega)]; simp
  have := overS_get s [x[j]] i (i + 1) (by omega) (by omega) (by simp)
  push_cast at this
  rw [hx]
  refine List.ext_getElem? fun k => ?_
  rw [this k, List.getElem?_set]
  by_cases e : i = k
  · subst e; simp [hi]
  · rw [if_neg e, if_neg (by omega)]
abbrev ato (i : Nat) : AV := .at (.p i) 0 0 0 [] 1 false
abbrev vim (m : M) (i : Int) : AV := .v m false [.int .i64 i]
end Go.Ev
