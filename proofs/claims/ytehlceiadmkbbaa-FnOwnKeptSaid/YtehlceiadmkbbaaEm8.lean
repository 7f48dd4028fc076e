/- My texts joined: EvT20, EvT21, EvT22. -/
import Derived.Test.YtehlceiadmkbbaaEm7
/- Draws: bent lists of parts, caches. -/
set_option linter.unusedSimpArgs false
set_option linter.unusedVariables false
set_option maxRecDepth 100000
set_option maxHeartbeats 4000000
namespace Go.Ev
open Go.Proofs
theorem lp_l1Lists (bs : List UInt8) (p N : Nat) (hN : 1 ≤ N) (hN2 : N ≤ 48) (m4 : M) (a : Code) (ha : a = lp Try.f62 0) : ∀ (n : Nat) (V0 : List (Nat × AV)) (out : List Sp), look V0 3 = at1 3 → look V0 4 = .v m4 false [.int .i64 N] → 13 ≤ out.length + n → N ≤ out.length → out.length ≤ 60 →
    ∃ (x : List Sp), x.length ≤ 60 ∧ loopC E (ev E) 62 a { V := V0, H := [rdH bs p, ow (.c 3) [.sl (out.map spL)]], ps := [0] } =
      some (.exit 1, { V := [(3, at1 3), (4, .v m4 false [.int .i64 N]), (25, vb false)], H := [rdH bs p, ow (.c 3) [.sl (x.map spL)]], ps := [0] })
  | n, V0, out, v3, v4, h, hl, h60 => by
    by_cases hlt : (out.length : Int) ≤ 12
    · match n, h with
      | 0, h => omega
      | n + 1, h =>
        obtain ⟨j, hj⟩ : ∃ j, N = j + 1 := ⟨N - 1, by omega⟩
        have hjl : j < out.length := by omega
        obtain ⟨x, hx, ih⟩ := lp_l1Lists bs p N hN hN2 m4 a ha n [(3, at1 3), (4, .v m4 false [.int .i64 N])] (out ++ [out[j]]) rfl rfl (by simp; omega) (by simp; omega) (by simp; omega)
        refine ⟨x, hx, ?_⟩
        have w1 : IntKind.i64.wrap ((N : Int) - 1) = (j : Int) := by rw [wrap64] <;> omega
        have hsz : (out.length + 1) * 16 ≤ 17592186044416 := by omega
        have hsz2 : out.length + 1 ≤ 17592186044416 := by omega
        rw [loopC_of _ _ _ _ ha]
        clear ha hj
        simp [lp, loopsOf, Try.f62, v3, v4, hlt, w1, hjl, hsz, hsz2]
        simpa using ih
    · have hle : (12 : Int) < out.length := by omega
      refine ⟨out, h60, ?_⟩
      rw [loopC_of _ _ _ _ ha]
      simp [lp, loopsOf, Try.f62, v3, v4, hle]
theorem ev_l1Lists (bs : List UInt8) (p : Nat) (b : RdB bs p) (hp : p + 120 ≤ 1099511627776) :
    ∃ (q : Nat) (x : List Sp), x.length ≤ 60 ∧ q ≤ 120 ∧ ev E 62 [rdA bs p] = some { rs := [.v .own false [.sl (x.map spL)]], outs := [rdO bs (p + q)] } := by
  obtain ⟨q, x, hx, hq, c1⟩ := ev_l1List bs p b (by omega)
  by_cases h0 : x.length = 0
  · obtain rfl : x = [] := List.length_eq_zero_iff.1 h0
    refine ⟨q, [], by simp, by omega, ?_⟩
    rw [ev_fn Try.f62 rfl Try.func62 rfl rfl rfl (Nat.le_of_ble_eq_true rfl)]
    simp at c1
    simp [c1]
  · have e0 : eqI x.length 0 = false := eqI_not.2 (by omega)
    obtain ⟨k8, hk8, c2⟩ := ev_pick .ro bs (p + q) 8 ⟨b.b, by omega⟩ (by omega)
    cases e8 : ltI 0 k8
    · obtain ⟨k, hk, c3⟩ := ev_pick .ro bs (p + q + 1) x.length ⟨b.b, by omega⟩ (by omega)
      have hk := hk (by omega)
      have hkl : k < x.length := by omega
      obtain ⟨j, hj, c4⟩ := ev_pick .ro bs (p + q + 1 + 1) 4 ⟨b.b, by omega⟩ (by omega)
      have hsz : (x.length + 1) * 16 ≤ 17592186044416 := by omega
      have hsz2 : x.length + 1 ≤ 17592186044416 := by omega
      by_cases j0 : j = 0
      · subst j0
        obtain ⟨s, c5⟩ := ev_l1Some bs (p + q + 1 + 1 + 1) ⟨b.b, by omega⟩ (by omega)
        refine ⟨q + 6, x.set k s, by simp; omega, by omega, ?_⟩
        rw [ev_fn Try.f62 rfl Try.func62 rfl rfl rfl (Nat.le_of_ble_eq_true rfl)]
        simp [c1, c2, c3, c4, c5, e0, e8, hkl]
        omega
      · have f0 : eqI j 0 = false := eqI_not.2 (by omega)
        by_cases j1 : j = 1
        · subst j1
          refine ⟨q + 3, x ++ [x[k]], by simp; omega, by omega, ?_⟩
          push_cast at c4
          rw [ev_fn Try.f62 rfl Try.func62 rfl rfl rfl (Nat.le_of_ble_eq_true rfl)]
          simp [c1, c2, c3, c4, e0, e8, hkl, hsz, hsz2, show eqI 1 0 = false from rfl]
          omega
        · have f1 : eqI j 1 = false := eqI_not.2 (by omega)
          by_cases j2 : j = 2
          · subst j2
            refine ⟨q + 3, x.set k (x[k].1, IntKind.i64.wrap (x[k].2 + 1)), by simp; omega, by omega, ?_⟩
            push_cast at c4
            rw [ev_fn Try.f62 rfl Try.func62 rfl rfl rfl (Nat.le_of_ble_eq_true rfl)]
            simp [c1, c2, c3, c4, e0, e8, hkl, show eqI 2 0 = false from rfl, show eqI 2 1 = false from rfl]
            omega
          · have f2 : eqI j 2 = false := eqI_not.2 (by omega)
            obtain ⟨y, hy, hl⟩ := lp_l1Lists bs (p + q + 1 + 1 + 1) x.length (by omega) (by omega) .ro _ rfl 13 [(3, at1 3), (4, vi x.length), (5, .v .own false [.int .i64 k]), (50, vb false)] x rfl rfl (by omega) (by omega) (by omega)
            refine ⟨q + 3, y, by omega, by omega, ?_⟩
            rw [ev_fn Try.f62 rfl Try.func62 rfl rfl rfl (Nat.le_of_ble_eq_true rfl)]
            simp [c1, c2, c3, c4, e0, e8, f0, f1, f2]
            rw [loopC_at ?_ hl]
            · simp
              omega
            · rfl
    · refine ⟨q + 1, x, by omega, by omega, ?_⟩
      rw [ev_fn Try.f62 rfl Try.func62 rfl rfl rfl (Nat.le_of_ble_eq_true rfl)]
      simp [c1, c2, e0, e8]
      omega
theorem ev_l6Bent (bs : List UInt8) (p : Nat) (m : M) (hm : m.isOwn = false) (t : List UInt8) (h d : List Sp) (b : RdB bs p) (hp : p + 300 ≤ 1099511627776) (bt : t.length ≤ 1000) (bh : h.length ≤ 1000) (bd : d.length ≤ 1000) :
    ∃ (q : Nat) (t' : List UInt8) (h' d' : List Sp), t'.length ≤ 2000 ∧ h'.length ≤ 2000 ∧ d'.length ≤ 2000 ∧ q ≤ 300 ∧ ev E 31 [rdA bs p, .v m true (owL t h d)] = some { rs := [rOw t' h' d'], outs := [rdO bs (p + q)] } := by
  have c0 := fun m hm => ev_l6Copy m hm t h d (by omega) (by omega)
  obtain ⟨k, hk, c1⟩ := ev_pick .ro bs p 60 b (by omega)
  have b1 : RdB bs (p + 1) := ⟨b.b, by omega⟩
  by_cases k0 : k = 0
  · subst k0
    obtain ⟨x, q, hx, hq, c2⟩ := ev_l2Some bs (p + 1) b1 (by omega)
    refine ⟨1 + q, x, h, d, by omega, by omega, by omega, by omega, ?_⟩
    rw [ev_fn Try.f31 rfl Try.func31 rfl rfl rfl (Nat.le_of_ble_eq_true rfl)]
    simp [c0, c1, c2, hm]
    omega
  · have e0 : eqI k 0 = false := eqI_not.2 (by omega)
    by_cases k1 : k = 1
    · subst k1
      obtain ⟨q, x, hx, hq, c2⟩ := ev_l1Lists bs (p + 1) b1 (by omega)
      push_cast at c1
      refine ⟨1 + q, t, x, d, by omega, by omega, by omega, by omega, ?_⟩
      rw [ev_fn Try.f31 rfl Try.func31 rfl rfl rfl (Nat.le_of_ble_eq_true rfl)]
      simp [c0, c1, c2, hm, show eqI 1 0 = false from rfl]
      omega
    · have e1 : eqI k 1 = false := eqI_not.2 (by omega)
      by_cases k2 : k = 2
      · subst k2
        obtain ⟨s, hs, c2⟩ := ev_l1Span bs (p + 1) b1 (by omega)
        push_cast at c1
        have hsz : (d.length + 1) * 16 ≤ 17592186044416 := by omega
        have hsz2 : d.length + 1 ≤ 17592186044416 := by omega
        refine ⟨3, t, h, d ++ [s], by omega, by omega, by simp; omega, by omega, ?_⟩
        rw [ev_fn Try.f31 rfl Try.func31 rfl rfl rfl (Nat.le_of_ble_eq_true rfl)]
        simp [c0, c1, c2, hm, hsz, hsz2, show eqI 2 0 = false from rfl, show eqI 2 1 = false from rfl]
      · have e2 : eqI k 2 = false := eqI_not.2 (by omega)
        by_cases k3 : k = 3
        · subst k3
          obtain ⟨q, x, hx, hq, c2⟩ := ev_l1Lists bs (p + 1) b1 (by omega)
          push_cast at c1
          refine ⟨1 + q, t, h, x, by omega, by omega, by omega, by omega, ?_⟩
          rw [ev_fn Try.f31 rfl Try.func31 rfl rfl rfl (Nat.le_of_ble_eq_true rfl)]
          simp [c0, c1, c2, hm, show eqI 3 0 = false from rfl, show eqI 3 1 = false from rfl, show eqI 3 2 = false from rfl]
          omega
        · have e3 : eqI k 3 = false := eqI_not.2 (by omega)
          by_cases k4 : k = 4
          · subst k4
            push_cast at c1
            cases e : ltI 0 t.length
            · refine ⟨1, t, h, d, by omega, by omega, by omega, by omega, ?_⟩
              rw [ev_fn Try.f31 rfl Try.func31 rfl rfl rfl (Nat.le_of_ble_eq_true rfl)]
              simp [c0, c1, hm, e, show eqI 4 0 = false from rfl, show eqI 4 1 = false from rfl, show eqI 4 2 = false from rfl, show eqI 4 3 = false from rfl]
            · have e' := ltI_iff.1 e
              obtain ⟨v, hv, c2⟩ := ev_ofS .tn bs (p + 1) [[65], [113]] b1 (by simp) (by simp)
              have hvl : v.length = 1 := by simp at hv; rcases hv with rfl | rfl <;> rfl
              have c3 := fun m m' m'' => ev_l6Over m m' m'' t v (0, 1) (by dsimp only; omega) (by dsimp only; omega) (by dsimp only; omega) (by dsimp only; omega) (by omega) (by omega)
              have hol := overS_len t v (0, 1) (by dsimp only; omega) (by dsimp only; omega) (by dsimp only; omega)
              simp only [spL] at c3
              refine ⟨2, overS t (0, 1) v, h, d, by rw [hol]; omega, by omega, by omega, by omega, ?_⟩
              simp at c2
              rw [ev_fn Try.f31 rfl Try.func31 rfl rfl rfl (Nat.le_of_ble_eq_true rfl)]
              simp [c0, c1, c2, c3, hm, e, show eqI 4 0 = false from rfl, show eqI 4 1 = false from rfl, show eqI 4 2 = false from rfl, show eqI 4 3 = false from rfl]
          · have e4 : eqI k 4 = false := eqI_not.2 (by omega)
            refine ⟨1, t, h, d, by omega, by omega, by omega, by omega, ?_⟩
            rw [ev_fn Try.f31 rfl Try.func31 rfl rfl rfl (Nat.le_of_ble_eq_true rfl)]
            simp [c0, c1, hm, e0, e1, e2, e3, e4]
end Go.Ev

/- Draws: caches. -/
set_option linter.unusedSimpArgs false
set_option linter.unusedVariables false
set_option maxRecDepth 100000
set_option maxHeartbeats 4000000
namespace Go.Ev
open Go.Proofs
structure OB (t : List UInt8) (h d : List Sp) : Prop where
  t : t.length ≤ 1000
  h : h.length ≤ 1000
  d : d.length ≤ 1000
theorem OB.w {t : List UInt8} {h d : List Sp} (o : OB t h d) : OwB t h d := ⟨by have := o.t; omega, by have := o.h; omega, by have := o.d; omega⟩
theorem OB.ok {t : List UInt8} {h d : List Sp} (e : ownOk t h d = true) : OB t h d := by
  obtain ⟨h1, h2, h3, _⟩ := ownOk_t e
  have := spsOk_len h2
  have := spsOk_len h3
  exact ⟨by omega, by omega, by omega⟩
theorem OB.nil : OB [] [] [] := ⟨by simp, by simp, by simp⟩
theorem cleanS_ex {t : List UInt8} {h d : List Sp} (p : Sp) (o : OB t h d) : ∃ t' h' d' b', cleanS t h d p = rOB t' h' d' b' ∧ OB t' h' d' := by
  unfold cleanS
  split
  · split
    · split
      · rename_i e; exact ⟨_, _, _, _, rfl, .ok e⟩
      · exact ⟨_, _, _, _, rfl, o⟩
    · exact ⟨_, _, _, _, rfl, o⟩
  · exact ⟨_, _, _, _, rfl, .nil⟩
theorem dropS_ex {t : List UInt8} {h d : List Sp} (p : Sp) (o : OB t h d) : ∃ t' h' d' b', dropS t h d p = rOB t' h' d' b' ∧ OB t' h' d' := by
  unfold dropS
  split
  · split
    · split
      · exact ⟨_, _, _, _, rfl, o⟩
      · split
        · rename_i e; exact ⟨_, _, _, _, rfl, .ok e⟩
        · exact ⟨_, _, _, _, rfl, o⟩
    · exact ⟨_, _, _, _, rfl, o⟩
  · exact ⟨_, _, _, _, rfl, .nil⟩
theorem fillS_ex {t : List UInt8} {h d : List Sp} (p : Sp) (x : List UInt8) (o : OB t h d) : ∃ t' h' d' b', fillS t h d p x = rOB t' h' d' b' ∧ OB t' h' d' := by
  unfold fillS
  split
  · split
    · split
      · rename_i e; exact ⟨_, _, _, _, rfl, .ok e⟩
      · exact ⟨_, _, _, _, rfl, o⟩
    · exact ⟨_, _, _, _, rfl, o⟩
  · exact ⟨_, _, _, _, rfl, .nil⟩
theorem writeS_ex {t : List UInt8} {h d : List Sp} (k : Int) (x : List UInt8) (o : OB t h d) : ∃ t' h' d' b', writeS t h d k x = rOB t' h' d' b' ∧ OB t' h' d' := by
  unfold writeS
  split
  · split
    · split
      · rename_i e; exact ⟨_, _, _, _, rfl, .ok e⟩
      · exact ⟨_, _, _, _, rfl, o⟩
    · exact ⟨_, _, _, _, rfl, o⟩
  · exact ⟨_, _, _, _, rfl, .nil⟩
abbrev zOw : List L := [.str [], .sl [], .sl []]
theorem lp_l6Some (bs : List UInt8) (hb : bs.length ≤ 2000) (a : Code) (ha : a = lp Try.f32 0) : ∀ (n p : Nat) (m0 : M) (t : List UInt8) (h d : List Sp), OB t h d → n ≤ 100 → p + 300 * n ≤ 1099511627776 →
    ∃ (q : Nat) (m' : M) (t' : List UInt8) (h' d' : List Sp), OB t' h' d' ∧ q ≤ 300 * n ∧ loopC E (ev E) 32 a { V := [(0, adp 0), (2, adc 2), (3, adc 3), (4, .v m0 false [.int .i64 n])], H := [rdH bs p, bx (.c 2) zOw, bx (.c 3) (owL t h d)], ps := [0] } =
      some (.exit 0, { V := [(0, adp 0), (2, adc 2), (3, adc 3), (4, .v m' false [.int .i64 0]), (11, vb false)], H := [rdH bs (p + q), bx (.c 2) zOw, bx (.c 3) (owL t' h' d')], ps := [0] })
  | 0, p, m0, t, h, d, o, hn, hp => by
    refine ⟨0, m0, t, h, d, o, by omega, ?_⟩
    rw [loopC_of _ _ _ _ ha]
    simp [lp, loopsOf, Try.f32]
  | n + 1, p, m0, t, h, d, o, hn, hp => by
    obtain ⟨s, hs, c1⟩ := ev_l1Span bs p ⟨hb, by omega⟩ (by omega)
    obtain ⟨k, hk, c2⟩ := ev_pick .ro bs (p + 2) 6 ⟨hb, by omega⟩ (by omega)
    have hw : IntKind.i64.wrap (n : Int) = n := by rw [wrap64]; omega
    have hlt : (0 : Int) < (n : Int) + 1 := by omega
    by_cases k0 : k = 0
    · subst k0
      obtain ⟨t1, h1, d1, b1, e1, o1⟩ := cleanS_ex s o
      have c3 := fun m m' hm => ev_spec_OwnClean m m' hm t h d s o.w
      rw [e1] at c3
      obtain ⟨q, m', t', h', d', o', hq, ih⟩ := lp_l6Some bs hb a ha n (p + 3) .ro t1 h1 d1 o1 (by omega) (by omega)
      refine ⟨q + 3, m', t', h', d', o', by omega, ?_⟩
      rw [loopC_of _ _ _ _ ha]
      clear ha
      simp [lp, loopsOf, Try.f32, hw, hlt, c1, c2, c3]
      simp only [show p + 3 + q = p + (q + 3) by omega] at ih
      simpa using ih
    · have e0 : eqI k 0 = false := eqI_not.2 (by omega)
      by_cases k1 : k = 1
      · subst k1
        push_cast at c2
        obtain ⟨t1, h1, d1, b1, e1, o1⟩ := dropS_ex s o
        have c3 := fun m m' hm => ev_spec_OwnDrop m m' hm t h d s o.w
        rw [e1] at c3
        obtain ⟨q, m', t', h', d', o', hq, ih⟩ := lp_l6Some bs hb a ha n (p + 3) .ro t1 h1 d1 o1 (by omega) (by omega)
        refine ⟨q + 3, m', t', h', d', o', by omega, ?_⟩
        rw [loopC_of _ _ _ _ ha]
        clear ha
        simp [lp, loopsOf, Try.f32, hw, hlt, c1, c2, c3, show eqI 1 0 = false from rfl]
        simp only [show p + 3 + q = p + (q + 3) by omega] at ih
        simpa using ih
      · have e1 : eqI k 1 = false := eqI_not.2 (by omega)
        by_cases k23 : k = 2 ∨ k = 3
        · obtain ⟨x, hx, c4⟩ := ev_l6Fit bs (p + 2 + 1) .ro s ⟨hb, by omega⟩ (by omega) (by omega) (by omega) (by omega)
          have hN : (s.2 - s.1).toNat ≤ 48 := by omega
          generalize (s.2 - s.1).toNat = N at *
          obtain ⟨t1, h1, d1, b1, e1', o1⟩ := fillS_ex s x o
          have c3 := fun m m' m'' hm => ev_spec_OwnFill m m' m'' hm t h d s x o.w (by omega)
          rw [e1'] at c3
          obtain ⟨q, m', t', h', d', o', hq, ih⟩ := lp_l6Some bs hb a ha n (p + 3 + N) .ro t1 h1 d1 o1 (by omega) (by omega)
          refine ⟨q + 3 + N, m', t', h', d', o', by omega, ?_⟩
          simp only [show p + 3 + N + q = p + (q + 3 + N) by omega] at ih
          rw [loopC_of _ _ _ _ ha]
          clear ha
          rcases k23 with rfl | rfl
          · push_cast at c2
            simp [lp, loopsOf, Try.f32, hw, hlt, c1, c2, c3, c4, show eqI 2 0 = false from rfl, show eqI 2 1 = false from rfl]
            simpa using ih
          · push_cast at c2
            simp [lp, loopsOf, Try.f32, hw, hlt, c1, c2, c3, c4, show eqI 3 0 = false from rfl, show eqI 3 1 = false from rfl, show eqI 3 2 = false from rfl]
            simpa using ih
        · have e2 : eqI k 2 = false := eqI_not.2 (by omega)
          have e3 : eqI k 3 = false := eqI_not.2 (by omega)
          obtain ⟨kk, hkk, c4⟩ := ev_pick .ro bs (p + 2 + 1) 40 ⟨hb, by omega⟩ (by omega)
          obtain ⟨x, q0, hx, hq0, c5⟩ := ev_l2Data bs (p + 2 + 1 + 1) ⟨hb, by omega⟩ (by omega)
          obtain ⟨t1, h1, d1, b1, e1', o1⟩ := writeS_ex kk x o
          have c3 := fun m m' m'' hm => ev_spec_OwnWrite m m' m'' hm t h d kk x o.w (by omega)
          rw [e1'] at c3
          obtain ⟨q, m', t', h', d', o', hq, ih⟩ := lp_l6Some bs hb a ha n (p + 4 + q0) .ro t1 h1 d1 o1 (by omega) (by omega)
          refine ⟨q + 4 + q0, m', t', h', d', o', by omega, ?_⟩
          simp only [show p + 4 + q0 + q = p + (q + 4 + q0) by omega] at ih
          rw [loopC_of _ _ _ _ ha]
          clear ha
          simp [lp, loopsOf, Try.f32, hw, hlt, c1, c2, c3, c4, c5, e0, e1, e2, e3]
          simpa using ih
end Go.Ev

/- Draws: a cache and a part. -/
set_option linter.unusedSimpArgs false
set_option linter.unusedVariables false
set_option maxRecDepth 100000
set_option maxHeartbeats 4000000
namespace Go.Ev
open Go.Proofs
theorem ev_l6Some (bs : List UInt8) (p : Nat) (b : RdB bs p) (hp : p + 2500 ≤ 1099511627776) :
    ∃ (q : Nat) (t : List UInt8) (h d : List Sp), OB t h d ∧ q ≤ 2500 ∧ ev E 32 [rdA bs p] = some { rs := [rOw t h d], outs := [rdO bs (p + q)] } := by
  obtain ⟨v, hv, c1⟩ := ev_num .tn bs p [3, 5, 8, 0, 1] b (by simp) (by simp)
  obtain ⟨N, rfl⟩ : ∃ N : Nat, v = N := ⟨v.toNat, by simp at hv; omega⟩
  have hN : N ≤ 8 := by simp at hv; omega
  have hnone := ev_l6None
  have hbl : (List.replicate 48 (46 : UInt8)).length = 48 := rfl
  generalize List.replicate 48 (46 : UInt8) = t0 at hnone hbl
  obtain ⟨q, m', t, h, d, o, hq, hl⟩ := lp_l6Some bs b.b _ rfl N (p + 1) .own t0 [] [] ⟨by omega, by simp, by simp⟩ (by omega) (by omega)
  refine ⟨1 + q, t, h, d, o, by omega, ?_⟩
  simp at c1
  simp only [owL, List.map_nil] at hl
  rw [ev_fn Try.f32 rfl Try.func32 rfl rfl rfl (Nat.le_of_ble_eq_true rfl)]
  simp [hnone, c1]
  rw [loopC_at ?_ hl]
  · simp
    omega
  · rfl
theorem ev_l6Near (bs : List UInt8) (p : Nat) (m : M) (hm : m.isOwn = false) (t : List UInt8) (h d : List Sp) (b : RdB bs p) (hp : p + 10 ≤ 1099511627776) (bh : h.length ≤ 2000) (bd : d.length ≤ 2000) :
    ∃ (q : Nat) (s : Sp), q ≤ 10 ∧ ev E 76 [rdA bs p, .v m true (owL t h d)] = some { rs := [.v .own true (spL s)], outs := [rdO bs (p + q)] } := by
  have a1 : h.length * 16 ≤ 17592186044416 := by omega
  have a2 : h.length ≤ 17592186044416 := by omega
  have a3 : (h.length + d.length) * 16 ≤ 17592186044416 := by omega
  have a4 : h.length + d.length ≤ 17592186044416 := by omega
  cases e : ltI 0 ((h.length : Int) + d.length)
  · obtain ⟨s, c1⟩ := ev_l1Some bs p b (by omega)
    refine ⟨3, s, by omega, ?_⟩
    rw [ev_fn Try.f76 rfl Try.func76 rfl rfl rfl (Nat.le_of_ble_eq_true rfl)]
    simp [hm, a1, a2, a3, a4, e, c1]
  · obtain ⟨k, hk, c1⟩ := ev_pick .ro bs p 3 b (by omega)
    cases e2 : ltI 0 k
    · obtain ⟨s, c2⟩ := ev_l1Some bs (p + 1) ⟨b.b, by omega⟩ (by omega)
      refine ⟨4, s, by omega, ?_⟩
      rw [ev_fn Try.f76 rfl Try.func76 rfl rfl rfl (Nat.le_of_ble_eq_true rfl)]
      simp [hm, a1, a2, a3, a4, e, e2, c1, c2]
    · obtain ⟨j, hj, c2⟩ := ev_pick .ro bs (p + 1) ((h.length : Int) + d.length) ⟨b.b, by omega⟩ (by omega)
      have hj := hj (by have := ltI_iff.1 e; omega)
      have hjl : j < (h ++ d).length := by simp; omega
      obtain ⟨k2, hk2, c3⟩ := ev_pick .ro bs (p + 1 + 1) 12 ⟨b.b, by omega⟩ (by omega)
      have hg : (h.map spL ++ d.map spL)[j]? = some (spL (h ++ d)[j]) := by
        rw [← List.map_append, List.getElem?_map, List.getElem?_eq_getElem hjl]; rfl
      generalize (h ++ d)[j] = s at hg
      have c4 := fun m m' => ev_spec_l1Min m m' s.2 (IntKind.i64.wrap (IntKind.i64.wrap (s.1 + 1) + (k2 : Int)))
      refine ⟨3, (s.1, minI s.2 (IntKind.i64.wrap (IntKind.i64.wrap (s.1 + 1) + (k2 : Int)))), by omega, ?_⟩
      rw [ev_fn Try.f76 rfl Try.func76 rfl rfl rfl (Nat.le_of_ble_eq_true rfl)]
      simp [hm, a1, a2, a3, a4, e, e2, c1, c2, c3, c4, hg]
theorem ev_l10Open (bs : List UInt8) : ev E 30 [.v .ro false [.sl (rowsOfBytes bs)]] = some { rs := [.ptr .ro (rdL (bs.take 2000) 0)], outs := [] } := by
  have ht : rowsOfBytes (bs.take 2000) = (rowsOfBytes bs).take 2000 := by simp [rowsOfBytes]
  cases e : ltI 2000 bs.length
  · have h1 : bs.take 2000 = bs := List.take_of_length_le (by have := ltI_not.1 e; omega)
    rw [h1]
    rw [ev_fn Try.f30 rfl Try.func30 rfl rfl rfl (Nat.le_of_ble_eq_true rfl)]
    simp [e]
  · have h1 := ltI_iff.1 e
    have h2 : 2000 ≤ bs.length := by omega
    have hr : ∀ x ∈ rowsOfBytes bs, x.length = 1 := fun x hx => by
      simp only [rowsOfBytes, List.mem_map] at hx
      obtain ⟨b, _, rfl⟩ := hx
      rfl
    have h3 : (2000 : Int) ≤ bs.length := by omega
    rw [rdL, ht]
    rw [ev_fn Try.f30 rfl Try.func30 rfl rfl rfl (Nat.le_of_ble_eq_true rfl)]
    simp [e, h2, h3, hr]
    simp only [if_pos hr]
    simp
end Go.Ev
