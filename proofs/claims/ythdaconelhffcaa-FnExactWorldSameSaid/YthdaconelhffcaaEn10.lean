/- My texts joined: EvT21, EvT22, EvT25, EvT26, EvT27, EvT28, EvM2, EvT29, EvT30, EvT31, EvT37, EvT33. No condition. -/
import Derived.Test.YthdaconelhffcaaEn8
import Derived.Test.YthdaconelhffcaaEn9
/- Draws: caches. -/
set_option linter.unusedSimpArgs false
set_option linter.unusedVariables false
set_option maxRecDepth 100000
set_option maxHeartbeats 4000000
namespace Go.Ev
open Go.Proofs
structure OB (t : List UInt8) (h d : List Sp) : Prop where
  t : t.length ≤ 1000
  h : h.length ≤ 1000
  d : d.length ≤ 1000
theorem OB.w {t : List UInt8} {h d : List Sp} (o : OB t h d) : OwB t h d := ⟨by have := o.t; omega, by have := o.h; omega, by have := o.d; omega⟩
theorem OB.ok {t : List UInt8} {h d : List Sp} (e : ownOk t h d = true) : OB t h d := by
  obtain ⟨h1, h2, h3, _⟩ := ownOk_t e
  have := spsOk_len h2
  have := spsOk_len h3
  exact ⟨by omega, by omega, by omega⟩
theorem OB.nil : OB [] [] [] := ⟨by simp, by simp, by simp⟩
theorem cleanS_ex {t : List UInt8} {h d : List Sp} (p : Sp) (o : OB t h d) : ∃ t' h' d' b', cleanS t h d p = rOB t' h' d' b' ∧ OB t' h' d' := by
  unfold cleanS
  split
  · split
    · split
      · rename_i e; exact ⟨_, _, _, _, rfl, .ok e⟩
      · exact ⟨_, _, _, _, rfl, o⟩
    · exact ⟨_, _, _, _, rfl, o⟩
  · exact ⟨_, _, _, _, rfl, .nil⟩
theorem dropS_ex {t : List UInt8} {h d : List Sp} (p : Sp) (o : OB t h d) : ∃ t' h' d' b', dropS t h d p = rOB t' h' d' b' ∧ OB t' h' d' := by
  unfold dropS
  split
  · split
    · split
      · exact ⟨_, _, _, _, rfl, o⟩
      · split
        · rename_i e; exact ⟨_, _, _, _, rfl, .ok e⟩
        · exact ⟨_, _, _, _, rfl, o⟩
    · exact ⟨_, _, _, _, rfl, o⟩
  · exact ⟨_, _, _, _, rfl, .nil⟩
theorem fillS_ex {t : List UInt8} {h d : List Sp} (p : Sp) (x : List UInt8) (o : OB t h d) : ∃ t' h' d' b', fillS t h d p x = rOB t' h' d' b' ∧ OB t' h' d' := by
  unfold fillS
  split
  · split
    · split
      · rename_i e; exact ⟨_, _, _, _, rfl, .ok e⟩
      · exact ⟨_, _, _, _, rfl, o⟩
    · exact ⟨_, _, _, _, rfl, o⟩
  · exact ⟨_, _, _, _, rfl, .nil⟩
theorem writeS_ex {t : List UInt8} {h d : List Sp} (k : Int) (x : List UInt8) (o : OB t h d) : ∃ t' h' d' b', writeS t h d k x = rOB t' h' d' b' ∧ OB t' h' d' := by
  unfold writeS
  split
  · split
    · split
      · rename_i e; exact ⟨_, _, _, _, rfl, .ok e⟩
      · exact ⟨_, _, _, _, rfl, o⟩
    · exact ⟨_, _, _, _, rfl, o⟩
  · exact ⟨_, _, _, _, rfl, .nil⟩
abbrev zOw : List L := [.str [], .sl [], .sl []]
theorem lp_l6Some (bs : List UInt8) (hb : bs.length ≤ 2000) (a : Code) (ha : a = lp Try.f36 0) : ∀ (n p : Nat) (m0 : M) (t : List UInt8) (h d : List Sp), OB t h d → n ≤ 100 → p + 300 * n ≤ 1099511627776 →
    ∃ (q : Nat) (m' : M) (t' : List UInt8) (h' d' : List Sp), OB t' h' d' ∧ q ≤ 300 * n ∧ loopC E (ev E) 36 a { V := [(0, adp 0), (2, adc 2), (3, adc 3), (4, .v m0 false [.int .i64 n])], H := [rdH bs p, bx (.c 2) zOw, bx (.c 3) (owL t h d)], ps := [0] } =
      some (.exit 0, { V := [(0, adp 0), (2, adc 2), (3, adc 3), (4, .v m' false [.int .i64 0]), (11, vb false)], H := [rdH bs (p + q), bx (.c 2) zOw, bx (.c 3) (owL t' h' d')], ps := [0] })
  | 0, p, m0, t, h, d, o, hn, hp => by
    refine ⟨0, m0, t, h, d, o, by omega, ?_⟩
    rw [loopC_of _ _ _ _ ha]
    simp [lp, loopsOf, Try.f36]
  | n + 1, p, m0, t, h, d, o, hn, hp => by
    obtain ⟨s, hs, c1⟩ := ev_l1Span bs p ⟨hb, by omega⟩ (by omega)
    obtain ⟨k, hk, c2⟩ := ev_pick .ro bs (p + 2) 6 ⟨hb, by omega⟩ (by omega)
    have hw : IntKind.i64.wrap (n : Int) = n := by rw [wrap64]; omega
    have hlt : (0 : Int) < (n : Int) + 1 := by omega
    by_cases k0 : k = 0
    · subst k0
      obtain ⟨t1, h1, d1, b1, e1, o1⟩ := cleanS_ex s o
      have c3 := fun m m' hm => ev_spec_OwnClean m m' hm t h d s o.w
      rw [e1] at c3
      obtain ⟨q, m', t', h', d', o', hq, ih⟩ := lp_l6Some bs hb a ha n (p + 3) .ro t1 h1 d1 o1 (by omega) (by omega)
      refine ⟨q + 3, m', t', h', d', o', by omega, ?_⟩
      rw [loopC_of _ _ _ _ ha]
      clear ha
      simp [lp, loopsOf, Try.f36, hw, hlt, c1, c2, c3]
      simp only [show p + 3 + q = p + (q + 3) by omega] at ih
      simpa using ih
    · have e0 : eqI k 0 = false := eqI_not.2 (by omega)
      by_cases k1 : k = 1
      · subst k1
        push_cast at c2
        obtain ⟨t1, h1, d1, b1, e1, o1⟩ := dropS_ex s o
        have c3 := fun m m' hm => ev_spec_OwnDrop m m' hm t h d s o.w
        rw [e1] at c3
        obtain ⟨q, m', t', h', d', o', hq, ih⟩ := lp_l6Some bs hb a ha n (p + 3) .ro t1 h1 d1 o1 (by omega) (by omega)
        refine ⟨q + 3, m', t', h', d', o', by omega, ?_⟩
        rw [loopC_of _ _ _ _ ha]
        clear ha
        simp [lp, loopsOf, Try.f36, hw, hlt, c1, c2, c3, show eqI 1 0 = false from rfl]
        simp only [show p + 3 + q = p + (q + 3) by omega] at ih
        simpa using ih
      · have e1 : eqI k 1 = false := eqI_not.2 (by omega)
        by_cases k23 : k = 2 ∨ k = 3
        · obtain ⟨x, hx, c4⟩ := ev_l6Fit bs (p + 2 + 1) .ro s ⟨hb, by omega⟩ (by omega) (by omega) (by omega) (by omega)
          have hN : (s.2 - s.1).toNat ≤ 48 := by omega
          generalize (s.2 - s.1).toNat = N at *
          obtain ⟨t1, h1, d1, b1, e1', o1⟩ := fillS_ex s x o
          have c3 := fun m m' m'' hm => ev_spec_OwnFill m m' m'' hm t h d s x o.w (by omega)
          rw [e1'] at c3
          obtain ⟨q, m', t', h', d', o', hq, ih⟩ := lp_l6Some bs hb a ha n (p + 3 + N) .ro t1 h1 d1 o1 (by omega) (by omega)
          refine ⟨q + 3 + N, m', t', h', d', o', by omega, ?_⟩
          simp only [show p + 3 + N + q = p + (q + 3 + N) by omega] at ih
          rw [loopC_of _ _ _ _ ha]
          clear ha
          rcases k23 with rfl | rfl
          · push_cast at c2
            simp [lp, loopsOf, Try.f36, hw, hlt, c1, c2, c3, c4, show eqI 2 0 = false from rfl, show eqI 2 1 = false from rfl]
            simpa using ih
          · push_cast at c2
            simp [lp, loopsOf, Try.f36, hw, hlt, c1, c2, c3, c4, show eqI 3 0 = false from rfl, show eqI 3 1 = false from rfl, show eqI 3 2 = false from rfl]
            simpa using ih
        · have e2 : eqI k 2 = false := eqI_not.2 (by omega)
          have e3 : eqI k 3 = false := eqI_not.2 (by omega)
          obtain ⟨kk, hkk, c4⟩ := ev_pick .ro bs (p + 2 + 1) 40 ⟨hb, by omega⟩ (by omega)
          obtain ⟨x, q0, hx, hq0, c5⟩ := ev_l2Data bs (p + 2 + 1 + 1) ⟨hb, by omega⟩ (by omega)
          obtain ⟨t1, h1, d1, b1, e1', o1⟩ := writeS_ex kk x o
          have c3 := fun m m' m'' hm => ev_spec_OwnWrite m m' m'' hm t h d kk x o.w (by omega)
          rw [e1'] at c3
          obtain ⟨q, m', t', h', d', o', hq, ih⟩ := lp_l6Some bs hb a ha n (p + 4 + q0) .ro t1 h1 d1 o1 (by omega) (by omega)
          refine ⟨q + 4 + q0, m', t', h', d', o', by omega, ?_⟩
          simp only [show p + 4 + q0 + q = p + (q + 4 + q0) by omega] at ih
          rw [loopC_of _ _ _ _ ha]
          clear ha
          simp [lp, loopsOf, Try.f36, hw, hlt, c1, c2, c3, c4, c5, e0, e1, e2, e3]
          simpa using ih
end Go.Ev

/- Draws: a cache and a part. -/
set_option linter.unusedSimpArgs false
set_option linter.unusedVariables false
set_option maxRecDepth 100000
set_option maxHeartbeats 4000000
namespace Go.Ev
open Go.Proofs
theorem ev_l6Some (bs : List UInt8) (p : Nat) (b : RdB bs p) (hp : p + 2500 ≤ 1099511627776) :
    ∃ (q : Nat) (t : List UInt8) (h d : List Sp), OB t h d ∧ q ≤ 2500 ∧ ev E 36 [rdA bs p] = some { rs := [rOw t h d], outs := [rdO bs (p + q)] } := by
  obtain ⟨v, hv, c1⟩ := ev_num .tn bs p [3, 5, 8, 0, 1] b (by simp) (by simp)
  obtain ⟨N, rfl⟩ : ∃ N : Nat, v = N := ⟨v.toNat, by simp at hv; omega⟩
  have hN : N ≤ 8 := by simp at hv; omega
  have hnone := ev_l6None
  have hbl : (List.replicate 48 (46 : UInt8)).length = 48 := rfl
  generalize List.replicate 48 (46 : UInt8) = t0 at hnone hbl
  obtain ⟨q, m', t, h, d, o, hq, hl⟩ := lp_l6Some bs b.b _ rfl N (p + 1) .own t0 [] [] ⟨by omega, by simp, by simp⟩ (by omega) (by omega)
  refine ⟨1 + q, t, h, d, o, by omega, ?_⟩
  simp at c1
  simp only [owL, List.map_nil] at hl
  rw [ev_fn Try.f36 rfl Try.func36 rfl rfl rfl (Nat.le_of_ble_eq_true rfl)]
  simp [hnone, c1]
  rw [loopC_at ?_ hl]
  · simp
    omega
  · rfl
theorem ev_l10Open (bs : List UInt8) : ev E 34 [.v .ro false [.sl (rowsOfBytes bs)]] = some { rs := [.ptr .ro (rdL (bs.take 2000) 0)], outs := [] } := by
  have ht : rowsOfBytes (bs.take 2000) = (rowsOfBytes bs).take 2000 := by simp [rowsOfBytes]
  cases e : ltI 2000 bs.length
  · have h1 : bs.take 2000 = bs := List.take_of_length_le (by have := ltI_not.1 e; omega)
    rw [h1]
    rw [ev_fn Try.f34 rfl Try.func34 rfl rfl rfl (Nat.le_of_ble_eq_true rfl)]
    simp [e]
  · have h1 := ltI_iff.1 e
    have h2 : 2000 ≤ bs.length := by omega
    have hr : ∀ x ∈ rowsOfBytes bs, x.length = 1 := fun x hx => by
      simp only [rowsOfBytes, List.mem_map] at hx
      obtain ⟨b, _, rfl⟩ := hx
      rfl
    have h3 : (2000 : Int) ≤ bs.length := by omega
    rw [rdL, ht]
    rw [ev_fn Try.f34 rfl Try.func34 rfl rfl rfl (Nat.le_of_ble_eq_true rfl)]
    simp [e, h2, h3, hr]
    simp only [if_pos hr]
    simp
end Go.Ev

/- The law: cleaning keeps the data. -/
set_option linter.unusedSimpArgs false
set_option linter.unusedVariables false
set_option maxRecDepth 100000
set_option maxHeartbeats 4000000
namespace Go.Ev
open Go.Proofs
structure OC (t : List UInt8) (h d : List Sp) : Prop where
  t : t.length ≤ 2000
  h : h.length ≤ 2000
  d : d.length ≤ 2000
theorem OC.w {t : List UInt8} {h d : List Sp} (o : OC t h d) : OwB t h d := ⟨by have := o.t; omega, by have := o.h; omega, by have := o.d; omega⟩
/-- The program's way and the reference's come to the same. -/
theorem clean_eq (t : List UInt8) (h d : List Sp) (p : Sp) : chgI t h d (spOk p) (inF h) (fun j => if inF [p] j = true then false else inF d j) = cleanS t h d p := by
  unfold chgI cleanS
  cases e : ownOk t h d with
  | false => rfl
  | true =>
    obtain ⟨_, hsh, _, _⟩ := ownOk_t e
    have h1 : spansF (inF h) 48 0 = h := by rw [spans_of (g := inF h) (fun j _ => rfl)]; exact of_self hsh fun j _ => rfl
    have h2 : spansF (fun j => if inF [p] j = true then false else inF d j) 48 0 = cutS d p := spans_of fun j _ => by simp [inF]
    rw [h1, h2]
theorem cutS_get (d : List Sp) (p : Sp) (j : Nat) (hj : j < 48) : inF (cutS d p) j = (!inSp j p && inF d j) := by
  have := (of_can fun j => if inSp j p = true then false else d.any (inSp j)).2 j hj
  rw [cutS, this]
  cases inSp j p <;> simp [inF]
theorem maxI_ge (a b : Int) : a ≤ maxI a b ∧ b ≤ maxI a b := by
  simp only [maxI, ltI, decide_eq_true_eq]
  split <;> omega
theorem minI_le (a b : Int) : minI a b ≤ a ∧ minI a b ≤ b := by
  simp only [minI, ltI, decide_eq_true_eq]
  split <;> omega
theorem patF_cut (t : List UInt8) (p : Sp) (hp : 0 ≤ p.1 ∧ p.1 < p.2 ∧ p.2 ≤ 48) : ∀ (d : List Sp), (∀ s ∈ d, (0 ≤ s.1 ∧ s.1 < s.2 ∧ s.2 ≤ 48) ∧ ∀ j : Nat, s.1 ≤ j → (j : Int) < s.2 → inSp j p = false) → patF t p d = []
  | [], _ => rfl
  | s :: d, h => by
    obtain ⟨hs, hj⟩ := h s (by simp)
    have e : ltI (meetS s p).1 (meetS s p).2 = false := by
      rw [ltI_not]
      apply Classical.byContradiction
      intro hn
      have hlt : (meetS s p).1 < (meetS s p).2 := by omega
      have hb := meet_bd hs hp
      obtain ⟨j, hj0⟩ : ∃ j : Nat, (meetS s p).1 = j := ⟨(meetS s p).1.toNat, by omega⟩
      have hm : s.1 ≤ (j : Int) ∧ p.1 ≤ (j : Int) ∧ (j : Int) < s.2 ∧ (j : Int) < p.2 := by
        have m1 := maxI_ge s.1 p.1
        have m2 := minI_le s.2 p.2
        simp only [meetS] at hj0 hlt
        omega
      have := hj j hm.1 hm.2.2.1
      simp [inSp, ltI] at this
      omega
    simp only [patF, e]
    exact patF_cut t p hp d fun q hq => h q (by simp [hq])
theorem OC.ok {t : List UInt8} {h d : List Sp} (e : ownOk t h d = true) : OC t h d := by
  obtain ⟨h1, h2, h3, _⟩ := ownOk_t e
  have := spsOk_len h2
  have := spsOk_len h3
  exact ⟨by omega, by omega, by omega⟩
end Go.Ev

/- Answers: the program's caches: changes that turn the bytes. -/
set_option linter.unusedSimpArgs false
set_option linter.unusedVariables false
set_option maxRecDepth 100000
set_option maxHeartbeats 4000000
namespace Go.Ev
open Go.Proofs
def chgJ (t : List UInt8) (h d : List Sp) (may : Bool) (t' : List UInt8) (f g : Nat → Bool) : Out :=
  if ownOk t h d = true then
    if may = true then (if ownOk t' (spansF f 48 0) (spansF g 48 0) = true then rOB t' (spansF f 48 0) (spansF g 48 0) true else rOB t h d false)
    else rOB t h d false
  else rOB [] [] [] false
theorem ev_changed_one (m mb mf : M) (hm : m.isOwn = false) (t : List UInt8) (h d : List Sp) (may : Bool) (cl : FuncId) (l l2 : L) (t' : List UInt8) (f g : Nat → Bool) (b : OwB t h d) (hsig : E.sig cl = [.io, .ro, .ro]) (ht' : may = true → ownOk t h d = true → t'.length = 48)
    (hcl : may = true → ownOk t h d = true → ∀ m1 m2, ev E cl ([.io false [.sl (rowsOfBytes t)], .v m1 true (pl (inF h)), .v m2 true (pl (inF d))] ++ ([l] : List L).map fun l => .v mf false [l]) = some { rs := [.v .own true (pl f), .v .own true (pl g)], outs := [(.own, [.sl (rowsOfBytes t')])] }) :
    ev E 40 [.v m true (owL t h d), .v mb false [.bool may], .v mf false [.fn cl [l]]] = some (chgJ t h d may t' f g) := by
  have bt := b.t
  have bh := b.h
  have bd := b.d
  have c1 := fun m hm => ev_impl_OwnOk m hm t h d (by omega) (by omega) (by omega)
  have c3 := fun m hm => ev_kept m hm t h d b
  rw [ev_fn Try.f40 rfl Try.func40 rfl rfl rfl (Nat.le_of_ble_eq_true rfl)]
  cases e1 : ownOk t h d
  · simp [c1, e1, hm, chgJ]
  · cases may with
    | false => simp [c1, c3, e1, hm, chgJ]
    | true =>
      have hcl := hcl rfl e1
      have ht' := ht' rfl e1
      simp only [List.map_cons, List.map_nil, List.cons_append, List.nil_append] at hcl
      obtain ⟨ht, hsh, hsd, _⟩ := ownOk_t e1
      have hne : t ≠ [] := by intro e; rw [e] at ht; simp at ht
      have c4 : ∀ m, ev E 42 [.v m false [.sl (h.map spL)]] = some { rs := [.v .own true (pl (inF h))], outs := [] } := fun m => ev_impl_of m h (by omega) fun s hs => by have := spsOk_sp hsh s hs; omega
      have c5 : ∀ m, ev E 42 [.v m false [.sl (d.map spL)]] = some { rs := [.v .own true (pl (inF d))], outs := [] } := fun m => ev_impl_of m d (by omega) fun s hs => by have := spsOk_sp hsd s hs; omega
      have l1 := spansF_len f 48 0
      have l2 := spansF_len g 48 0
      have c6 := fun m => ev_spans m f
      have c7 := fun m => ev_spans m g
      have hbr := bytes_rows t'
      simp only [chgJ, e1, if_true]
      generalize spansF f 48 0 = h' at *
      generalize spansF g 48 0 = d' at *
      have c8 := fun m hm => ev_impl_OwnOk m hm t' h' d' (by omega) (by omega) (by omega)
      cases e3 : ownOk t' h' d' <;> simp [c1, e1, e3, hm, hne, ht, c3, c4, c5, c6, c7, c8, hcl, hsig, hbr, pl_ff]
theorem ev_changed_two (m mb mf : M) (hm : m.isOwn = false) (t : List UInt8) (h d : List Sp) (may : Bool) (cl : FuncId) (l l2 : L) (t' : List UInt8) (f g : Nat → Bool) (b : OwB t h d) (hsig : E.sig cl = [.io, .ro, .ro]) (ht' : may = true → ownOk t h d = true → t'.length = 48)
    (hcl : may = true → ownOk t h d = true → ∀ m1 m2, ev E cl ([.io false [.sl (rowsOfBytes t)], .v m1 true (pl (inF h)), .v m2 true (pl (inF d))] ++ ([l, l2] : List L).map fun l => .v mf false [l]) = some { rs := [.v .own true (pl f), .v .own true (pl g)], outs := [(.own, [.sl (rowsOfBytes t')])] }) :
    ev E 40 [.v m true (owL t h d), .v mb false [.bool may], .v mf false [.fn cl [l, l2]]] = some (chgJ t h d may t' f g) := by
  have bt := b.t
  have bh := b.h
  have bd := b.d
  have c1 := fun m hm => ev_impl_OwnOk m hm t h d (by omega) (by omega) (by omega)
  have c3 := fun m hm => ev_kept m hm t h d b
  rw [ev_fn Try.f40 rfl Try.func40 rfl rfl rfl (Nat.le_of_ble_eq_true rfl)]
  cases e1 : ownOk t h d
  · simp [c1, e1, hm, chgJ]
  · cases may with
    | false => simp [c1, c3, e1, hm, chgJ]
    | true =>
      have hcl := hcl rfl e1
      have ht' := ht' rfl e1
      simp only [List.map_cons, List.map_nil, List.cons_append, List.nil_append] at hcl
      obtain ⟨ht, hsh, hsd, _⟩ := ownOk_t e1
      have hne : t ≠ [] := by intro e; rw [e] at ht; simp at ht
      have c4 : ∀ m, ev E 42 [.v m false [.sl (h.map spL)]] = some { rs := [.v .own true (pl (inF h))], outs := [] } := fun m => ev_impl_of m h (by omega) fun s hs => by have := spsOk_sp hsh s hs; omega
      have c5 : ∀ m, ev E 42 [.v m false [.sl (d.map spL)]] = some { rs := [.v .own true (pl (inF d))], outs := [] } := fun m => ev_impl_of m d (by omega) fun s hs => by have := spsOk_sp hsd s hs; omega
      have l1 := spansF_len f 48 0
      have l2 := spansF_len g 48 0
      have c6 := fun m => ev_spans m f
      have c7 := fun m => ev_spans m g
      have hbr := bytes_rows t'
      simp only [chgJ, e1, if_true]
      generalize spansF f 48 0 = h' at *
      generalize spansF g 48 0 = d' at *
      have c8 := fun m hm => ev_impl_OwnOk m hm t' h' d' (by omega) (by omega) (by omega)
      cases e3 : ownOk t' h' d' <;> simp [c1, e1, e3, hm, hne, ht, c3, c4, c5, c6, c7, c8, hcl, hsig, hbr, pl_ff]
theorem rows_set (s : List UInt8) (i : Nat) (c : UInt8) : (rowsOfBytes s).set i [.int .u8 c.toNat] = rowsOfBytes (s.set i c) := by
  simp [rowsOfBytes, List.map_set]
def setB (c : UInt8) : Nat → Nat → List UInt8 → List UInt8
  | 0, _, s => s
  | n + 1, i, s => setB c n (i + 1) (s.set i c)
theorem setB_len (c : UInt8) : ∀ n i s, (setB c n i s).length = s.length
  | 0, _, _ => rfl
  | n + 1, i, s => by rw [setB, setB_len c n (i + 1)]; simp
theorem setB_get (c : UInt8) : ∀ (n i : Nat) (s : List UInt8) (j : Nat), i + n ≤ s.length → (setB c n i s)[j]? = if i ≤ j ∧ j < i + n then some c else s[j]?
  | 0, i, s, j, h => by rw [if_neg (by omega)]; rfl
  | n + 1, i, s, j, h => by
    rw [setB, setB_get c n (i + 1) (s.set i c) j (by simp; omega)]
    by_cases e : j = i
    · subst e
      rw [if_neg (by omega), if_pos (by omega), List.getElem?_set_self (by omega)]
    · rw [List.getElem?_set_ne (Ne.symm e)]
      by_cases h2 : i ≤ j ∧ j < i + (n + 1)
      · rw [if_pos h2, if_pos (by omega)]
      · rw [if_neg h2, if_neg (by omega)]
theorem overS_get (s x : List UInt8) (lo hi : Nat) (h1 : lo ≤ hi) (h2 : hi ≤ s.length) (hx : x.length = hi - lo) (j : Nat) : (overS s ((lo : Int), (hi : Int)) x)[j]? = if lo ≤ j ∧ j < hi then x[j - lo]? else s[j]? := by
  simp only [overS, wrap_i]
  by_cases a1 : j < lo
  · rw [List.append_assoc, List.getElem?_append_left (by simp; omega), List.getElem?_take_of_lt a1, if_neg (by omega)]
  · by_cases a2 : j < hi
    · rw [if_pos ⟨by omega, a2⟩, List.append_assoc, List.getElem?_append_right (by simp; omega), List.getElem?_append_left (by simp; omega)]
      congr 1
      simp
      omega
    · rw [if_neg (by omega), List.getElem?_append_right (by simp; omega), List.getElem?_drop]
      congr 1
      simp
      omega
theorem setB_over (c : UInt8) (s : List UInt8) (lo hi : Nat) (h1 : lo ≤ hi) (h2 : hi ≤ s.length) : setB c (hi - lo) lo s = overS s ((lo : Int), (hi : Int)) (List.replicate (hi - lo) c) := by
  refine List.ext_getElem? fun j => ?_
  rw [setB_get c _ _ _ _ (by omega), overS_get s _ lo hi h1 h2 (by simp)]
  by_cases e : lo ≤ j ∧ j < hi
  · rw [if_pos e, if_pos (by omega), List.getElem?_replicate, if_pos (by omega)]
  · rw [if_neg e, if_neg (by omega)]
theorem over1 (s x : List UInt8) (i j : Nat) (hi : i < s.length) (hj : j < x.length) : overS s ((i : Int), (i : Int) + 1) ((x.take (j + 1)).drop j) = s.set i x[j] := by
  have hx : (x.take (j + 1)).drop j = [x[j]] := by
    refine List.ext_getElem? fun k => ?_
    cases k with
    | zero => simp [hj]
    | succ k => rw [List.getElem?_eq_none (by simp; omega)]; simp
  have := overS_get s [x[j]] i (i + 1) (by omega) (by omega) (by simp)
  push_cast at this
  rw [hx]
  refine List.ext_getElem? fun k => ?_
  rw [this k, List.getElem?_set]
  by_cases e : i = k
  · subst e; simp [hi]
  · rw [if_neg e, if_neg (by omega)]
abbrev ato (i : Nat) : AV := .at (.p i) 0 0 0 [] 1 false
abbrev vim (m : M) (i : Int) : AV := .v m false [.int .i64 i]
theorem lp_dropFn (m3 : M) (lo hi : Nat) (hhi : hi ≤ 48) (z : Nat → Bool) (f g : Nat → Bool) (a : Code) (ha : a = lp Try.f59 0) : ∀ (n i : Nat) (mi : M) (s : List UInt8), i + n = hi → s.length = 48 →
    ∃ me, loopC E (ev E) 59 a { V := [(0, ato 0), (3, .v m3 false [.ref [.int .i64 lo, .int .i64 hi]]), (5, adc 5), (6, adc 6), (7, adc 7), (8, adc 8), (9, vim mi i)], H := [ow (.p 0) [.sl (rowsOfBytes s)], bx (.c 5) (pl f), bx (.c 6) (pl g), bx (.c 7) (pl z), bx (.c 8) (pl z)], ps := [0] } =
      some (.exit 0, { V := [(0, ato 0), (3, .v m3 false [.ref [.int .i64 lo, .int .i64 hi]]), (5, adc 5), (6, adc 6), (7, adc 7), (8, adc 8), (9, vim me hi), (15, vb false)], H := [ow (.p 0) [.sl (rowsOfBytes (setB 46 n i s))], bx (.c 5) (pl f), bx (.c 6) (pl g), bx (.c 7) (pl z), bx (.c 8) (pl z)], ps := [0] })
  | 0, i, mi, s, h0, hs => by
    refine ⟨mi, ?_⟩
    rw [loopC_of _ _ _ _ ha]
    obtain rfl : i = hi := by omega
    simp [lp, loopsOf, Try.f59, setB]
  | n + 1, i, mi, s, h0, hs => by
    have hlt : i < hi := by omega
    have hw := wrapN i (by omega)
    have hi2 : i < s.length := by omega
    have hset := rows_set s i 46
    obtain ⟨me, ih⟩ := lp_dropFn m3 lo hi hhi z f g a ha n (i + 1) .ro (s.set i 46) (by omega) (by simpa using hs)
    refine ⟨me, ?_⟩
    push_cast at ih
    rw [loopC_of _ _ _ _ ha]
    clear ha
    simp [lp, loopsOf, Try.f59, hlt, hw, hi2, setB]
    rw [← hset] at ih
    simpa using ih
end Go.Ev

/- Answers: the program's drops and fills. -/
set_option linter.unusedSimpArgs false
set_option linter.unusedVariables false
set_option maxRecDepth 100000
set_option maxHeartbeats 4000000
namespace Go.Ev
open Go.Proofs
theorem nat_sp {p : Sp} (hp : 0 ≤ p.1 ∧ p.1 < p.2 ∧ p.2 ≤ 48) : ∃ lo hi : Nat, p = ((lo : Int), (hi : Int)) ∧ lo < hi ∧ hi ≤ 48 := by
  obtain ⟨a, b⟩ := p
  dsimp only at hp
  exact ⟨a.toNat, b.toNat, by simp only [Prod.mk.injEq]; omega, by omega, by omega⟩
theorem ev_dropFn (m1 m2 m3 : M) (s : List UInt8) (f g : Nat → Bool) (lo hi : Nat) (hp : lo < hi) (hhi : hi ≤ 48) (hs : s.length = 48) :
    ev E 59 [.io false [.sl (rowsOfBytes s)], .v m1 true (pl f), .v m2 true (pl g), .v m3 false [.ref [.int .i64 lo, .int .i64 hi]]] =
      some { rs := [.v .own true (pl fun j => if inF [((lo : Int), (hi : Int))] j = true then false else f j), .v .own true (pl g)], outs := [(.own, [.sl (rowsOfBytes (setB 46 (hi - lo) lo s))])] } := by
  have c1 : ∀ m, ev E 42 [.v m false [.sl [[.int .i64 lo, .int .i64 hi]]]] = some { rs := [.v .own true (pl (inF [((lo : Int), (hi : Int))]))], outs := [] } := fun m => ev_impl_of m [((lo : Int), (hi : Int))] (by simp) fun s hs => by simp only [List.mem_singleton] at hs; subst hs; dsimp only; omega
  have c2 := fun m m' m'' f => ev_put m m' m'' f (inF [((lo : Int), (hi : Int))]) false
  obtain ⟨me, hl⟩ := lp_dropFn m3 lo hi hhi (fun _ => false) f g _ rfl (hi - lo) lo m3 s (by omega) hs
  rw [ev_fn Try.f59 rfl Try.func59 rfl rfl rfl (Nat.le_of_ble_eq_true rfl)]
  simp [pl_ff]
  rw [loopC_at ?_ hl]
  · simp [c1, c2, pl_ff]
  · rfl
theorem chgJ_ex (t : List UInt8) (h d : List Sp) (may : Bool) (t' : List UInt8) (f g : Nat → Bool) : ∃ T H D b', chgJ t h d may t' f g = rOB T H D b' := by
  unfold chgJ
  split
  · split
    · split <;> exact ⟨_, _, _, _, rfl⟩
    · exact ⟨_, _, _, _, rfl⟩
  · exact ⟨_, _, _, _, rfl⟩
theorem ev_dropFnP (m1 m2 m3 : M) (s : List UInt8) (f g : Nat → Bool) (p : Sp) (hp : 0 ≤ p.1 ∧ p.1 < p.2 ∧ p.2 ≤ 48) (hs : s.length = 48) :
    ev E 59 [.io false [.sl (rowsOfBytes s)], .v m1 true (pl f), .v m2 true (pl g), .v m3 false [.ref (spL p)]] =
      some { rs := [.v .own true (pl fun j => if inF [p] j = true then false else f j), .v .own true (pl g)], outs := [(.own, [.sl (rowsOfBytes (setB 46 (p.2.toNat - p.1.toNat) p.1.toNat s))])] } := by
  obtain ⟨lo, hi, rfl, hp1, hp2⟩ := nat_sp hp
  exact ev_dropFn m1 m2 m3 s f g lo hi hp1 hp2 hs
def dropMay (t : List UInt8) (h d : List Sp) (p : Sp) : Bool := spOk p && eqI (patI t h d p).length 0
theorem ev_impl_OwnDrop (m m' : M) (hm : m.isOwn = false) (t : List UInt8) (h d : List Sp) (p : Sp) (b : OwB t h d) :
    ev E 20 [.v m true (owL t h d), .v m' true (spL p)] = some (chgJ t h d (dropMay t h d p) (setB 46 (p.2.toNat - p.1.toNat) p.1.toNat t) (fun j => if inF [p] j = true then false else inF h j) (inF d)) := by
  have c1 := fun m => ev_impl_SpanOk m p
  have c0 := fun m m' hm => ev_OwnPatches m m' hm t h d p b
  have c2 := fun m mb mf hm => ev_changed_one m mb mf hm t h d (dropMay t h d p) 59 (.ref (spL p)) (.int .i64 0) _ _ _ b rfl (fun _ e => by rw [setB_len]; exact (ownOk_t e).1) (fun h1 h2 m1 m2 => ev_dropFnP m1 m2 mf t (inF h) (inF d) p (spOk_iff.1 (by simp only [dropMay, Bool.and_eq_true] at h1; exact h1.1)) (ownOk_t h2).1)
  obtain ⟨T, H, D, b', hr⟩ := chgJ_ex t h d (dropMay t h d p) (setB 46 (p.2.toNat - p.1.toNat) p.1.toNat t) (fun j => if inF [p] j = true then false else inF h j) (inF d)
  rw [hr] at c2 ⊢
  simp only [dropMay] at c2
  rw [ev_fn Try.f20 rfl Try.func20 rfl rfl rfl (Nat.le_of_ble_eq_true rfl)]
  cases e1 : spOk p
  · simp only [e1, Bool.false_and] at c2
    simp [c1, e1, c2, hm]
  · simp only [e1, Bool.true_and] at c2
    simp [c0, c1, e1, c2, hm]
end Go.Ev

/- Answers: the program's fills. -/
set_option linter.unusedSimpArgs false
set_option linter.unusedVariables false
set_option maxRecDepth 100000
set_option maxHeartbeats 4000000
namespace Go.Ev
open Go.Proofs
def fillI (g : Nat → Bool) (x : List UInt8) (lo : Nat) : Nat → Nat → List UInt8 → List UInt8
  | 0, _, s => s
  | n + 1, i, s => fillI g x lo n (i + 1) (if g i = true then s else s.set i (x.getD (i - lo) 0))
theorem fillI_len (g : Nat → Bool) (x : List UInt8) (lo : Nat) : ∀ (n i : Nat) (s : List UInt8), (fillI g x lo n i s).length = s.length
  | 0, _, _ => rfl
  | n + 1, i, s => by
    rw [fillI, fillI_len g x lo n (i + 1)]
    split <;> simp
theorem lp_fillFn (m3 m4 : M) (x : List UInt8) (lo hi : Nat) (hlo : lo ≤ hi) (hhi : hi ≤ 48) (hx : x.length = hi - lo) (z : Nat → Bool) (f g : Nat → Bool) (a : Code) (ha : a = lp Try.f52 0) : ∀ (n i : Nat) (mi : M) (s : List UInt8), i + n = hi → lo ≤ i → s.length = 48 →
    ∃ me, loopC E (ev E) 52 a { V := [(0, ato 0), (3, .v m3 false [.ref [.int .i64 lo, .int .i64 hi]]), (4, .v m4 false [.ref [.str x]]), (6, adc 6), (7, adc 7), (8, adc 8), (9, adc 9), (10, vim mi i)], H := [ow (.p 0) [.sl (rowsOfBytes s)], bx (.c 6) (pl f), bx (.c 7) (pl g), bx (.c 8) (pl z), bx (.c 9) (pl z)], ps := [0] } =
      some (.exit 0, { V := [(0, ato 0), (3, .v m3 false [.ref [.int .i64 lo, .int .i64 hi]]), (4, .v m4 false [.ref [.str x]]), (6, adc 6), (7, adc 7), (8, adc 8), (9, adc 9), (10, vim me hi), (16, vb false)], H := [ow (.p 0) [.sl (rowsOfBytes (fillI g x lo n i s))], bx (.c 6) (pl f), bx (.c 7) (pl g), bx (.c 8) (pl z), bx (.c 9) (pl z)], ps := [0] })
  | 0, i, mi, s, h0, h1, hs => by
    refine ⟨mi, ?_⟩
    rw [loopC_of _ _ _ _ ha]
    obtain rfl : i = hi := by omega
    simp [lp, loopsOf, Try.f52, fillI]
  | n + 1, i, mi, s, h0, h1, hs => by
    have hlt : i < hi := by omega
    have hw := wrapN i (by omega)
    have hi2 : i < s.length := by omega
    have hi48 : i < 48 := by omega
    have hI : (i : Int) < 48 := by omega
    have pt := pl_take g hi48
    have pg := pl_get g hi48
    cases e : g i
    · obtain ⟨me, ih⟩ := lp_fillFn m3 m4 x lo hi hlo hhi hx z f g a ha n (i + 1) .ro (s.set i (x.getD (i - lo) 0)) (by omega) (by omega) (by simpa using hs)
      refine ⟨me, ?_⟩
      push_cast at ih
      rw [loopC_of _ _ _ _ ha]
      clear ha
      have w2 : IntKind.i64.wrap ((i : Int) - lo) = ((i - lo : Nat) : Int) := by rw [wrap64] <;> omega
      have hj : i - lo < x.length := by omega
      have hset := rows_set s i (x.getD (i - lo) 0)
      simp [lp, loopsOf, Try.f52, hlt, hw, hi2, fillI, e, hI, hi48, pt, pg, show i ≤ 48 by omega, show 1 ≤ 48 - i by omega, w2, hj]
      rw [← hset] at ih
      simpa [hj] using ih
    · obtain ⟨me, ih⟩ := lp_fillFn m3 m4 x lo hi hlo hhi hx z f g a ha n (i + 1) .ro s (by omega) (by omega) hs
      refine ⟨me, ?_⟩
      push_cast at ih
      rw [loopC_of _ _ _ _ ha]
      clear ha
      simp [lp, loopsOf, Try.f52, hlt, hw, hi2, fillI, e, hI, hi48, pt, pg, show i ≤ 48 by omega, show 1 ≤ 48 - i by omega]
      simpa using ih
theorem ev_fillFn (m1 m2 m3 m4 : M) (s x : List UInt8) (f g : Nat → Bool) (lo hi : Nat) (hp : lo < hi) (hhi : hi ≤ 48) (hx : x.length = hi - lo) (hs : s.length = 48) :
    ev E 52 [.io false [.sl (rowsOfBytes s)], .v m1 true (pl f), .v m2 true (pl g), .v m3 false [.ref [.int .i64 lo, .int .i64 hi]], .v m4 false [.ref [.str x]]] =
      some { rs := [.v .own true (pl fun j => if inF [((lo : Int), (hi : Int))] j = true then true else f j), .v .own true (pl g)], outs := [(.own, [.sl (rowsOfBytes (fillI g x lo (hi - lo) lo s))])] } := by
  have c1 : ∀ m, ev E 42 [.v m false [.sl [[.int .i64 lo, .int .i64 hi]]]] = some { rs := [.v .own true (pl (inF [((lo : Int), (hi : Int))]))], outs := [] } := fun m => ev_impl_of m [((lo : Int), (hi : Int))] (by simp) fun s hs => by simp only [List.mem_singleton] at hs; subst hs; dsimp only; omega
  have c2 := fun m m' m'' f => ev_put m m' m'' f (inF [((lo : Int), (hi : Int))]) true
  obtain ⟨me, hl⟩ := lp_fillFn m3 m4 x lo hi (by omega) hhi hx (fun _ => false) f g _ rfl (hi - lo) lo m3 s (by omega) (by omega) hs
  rw [ev_fn Try.f52 rfl Try.func52 rfl rfl rfl (Nat.le_of_ble_eq_true rfl)]
  simp [pl_ff]
  rw [loopC_at ?_ hl]
  · simp [c1, c2, pl_ff]
  · rfl
theorem ev_fillFnP (m1 m2 m3 m4 : M) (s x : List UInt8) (f g : Nat → Bool) (p : Sp) (hp : 0 ≤ p.1 ∧ p.1 < p.2 ∧ p.2 ≤ 48) (hx : (x.length : Int) = p.2 - p.1) (hs : s.length = 48) :
    ev E 52 [.io false [.sl (rowsOfBytes s)], .v m1 true (pl f), .v m2 true (pl g), .v m3 false [.ref (spL p)], .v m4 false [.ref [.str x]]] =
      some { rs := [.v .own true (pl fun j => if inF [p] j = true then true else f j), .v .own true (pl g)], outs := [(.own, [.sl (rowsOfBytes (fillI g x p.1.toNat (p.2.toNat - p.1.toNat) p.1.toNat s))])] } := by
  obtain ⟨lo, hi, rfl, hp1, hp2⟩ := nat_sp hp
  dsimp only at hx
  exact ev_fillFn m1 m2 m3 m4 s x f g lo hi hp1 hp2 (by omega) hs
theorem fillOk_sp {p : Sp} {x : List UInt8} (e : fillOk p x = true) : (0 ≤ p.1 ∧ p.1 < p.2 ∧ p.2 ≤ 48) ∧ (x.length : Int) = p.2 - p.1 := by
  simp only [fillOk, Bool.and_eq_true] at e
  exact ⟨spOk_iff.1 e.1.1, eqI_iff.1 e.2⟩
theorem ev_impl_OwnFill (m m' m'' : M) (hm : m.isOwn = false) (t : List UInt8) (h d : List Sp) (p : Sp) (x : List UInt8) (b : OwB t h d) (hx : x.length ≤ 4000000) :
    ev E 13 [.v m true (owL t h d), .v m' true (spL p), .v m'' false [.str x]] = some (chgJ t h d (fillOk p x) (fillI (inF d) x p.1.toNat (p.2.toNat - p.1.toNat) p.1.toNat t) (fun j => if inF [p] j = true then true else inF h j) (inF d)) := by
  have c1 := fun m => ev_impl_SpanOk m p
  have c0 := fun m => ev_impl_TextOk m x (by omega)
  have c2 := fun m mb mf hm => ev_changed_two m mb mf hm t h d (fillOk p x) 52 (.ref (spL p)) (.ref [.str x]) _ _ _ b rfl (fun _ e => by rw [fillI_len]; exact (ownOk_t e).1) (fun h1 h2 m1 m2 => ev_fillFnP m1 m2 mf mf t x (inF h) (inF d) p (fillOk_sp h1).1 (fillOk_sp h1).2 (ownOk_t h2).1)
  obtain ⟨T, H, D, b', hr⟩ := chgJ_ex t h d (fillOk p x) (fillI (inF d) x p.1.toNat (p.2.toNat - p.1.toNat) p.1.toNat t) (fun j => if inF [p] j = true then true else inF h j) (inF d)
  rw [hr] at c2 ⊢
  simp only [fillOk] at c2
  rw [ev_fn Try.f13 rfl Try.func13 rfl rfl rfl (Nat.le_of_ble_eq_true rfl)]
  cases e1 : spOk p
  · simp only [e1, Bool.false_and] at c2
    simp [c1, e1, c2, hm]
  · simp only [e1, Bool.true_and] at c2
    have hp := spOk_iff.1 e1
    have hw : IntKind.i64.wrap (p.2 - p.1) = p.2 - p.1 := by rw [wrap64] <;> omega
    cases e4 : (x.all okB && !ltI 48 x.length)
    · simp only [e4, Bool.false_and] at c2
      simp [c0, c1, e1, e4, c2, hm, -Bool.and_eq_false_imp, -List.all_eq_true, -List.all_eq_false, -Bool.and_eq_true]
    · simp only [e4, Bool.true_and] at c2
      simp [c0, c1, e1, e4, hw, c2, hm, -Bool.and_eq_false_imp, -List.all_eq_true, -List.all_eq_false, -Bool.and_eq_true]
/-! the program's way and the reference's come to the same -/
theorem addS_spans (h : List Sp) (p : Sp) : spansF (fun j => if inF [p] j = true then true else inF h j) 48 0 = addS h p :=
  spans_of fun j _ => by simp [inF]
theorem drop_eq (t : List UInt8) (h d : List Sp) (p : Sp) : chgJ t h d (dropMay t h d p) (setB 46 (p.2.toNat - p.1.toNat) p.1.toNat t) (fun j => if inF [p] j = true then false else inF h j) (inF d) = dropS t h d p := by
  unfold chgJ dropS
  cases e : ownOk t h d with
  | false => rfl
  | true =>
    obtain ⟨ht, _, hsd, _⟩ := ownOk_t e
    have h1 : spansF (inF d) 48 0 = d := by rw [spans_of (g := inF d) (fun j _ => rfl)]; exact of_self hsd fun j _ => rfl
    have h2 : spansF (fun j => if inF [p] j = true then false else inF h j) 48 0 = cutS h p := spans_of fun j _ => by simp [inF]
    rw [h1, h2]
    cases e2 : spOk p with
    | false => simp [dropMay, e2]
    | true =>
      obtain ⟨lo, hi, rfl, hp1, hp2⟩ := nat_sp (spOk_iff.1 e2)
      have h3 := setB_over 46 t lo hi (by omega) (by omega)
      have h4 : ((hi : Int) - (lo : Int)).toNat = hi - lo := by omega
      simp only [wrap_i, h3, h4, dropMay, e2, patI, e, Bool.true_and, if_true]
      cases patF t ((lo : Int), (hi : Int)) d with
      | nil => simp [ltI, eqI]
      | cons q qs =>
        have : ¬ ((qs.length : Int) + 1 = 0) := by omega
        have : (0 : Int) < (qs.length : Int) + 1 := by omega
        simp [ltI, eqI, *]
theorem fill_eq (t : List UInt8) (h d : List Sp) (p : Sp) (x : List UInt8) : chgJ t h d (fillOk p x) (fillI (inF d) x p.1.toNat (p.2.toNat - p.1.toNat) p.1.toNat t) (fun j => if inF [p] j = true then true else inF h j) (inF d) = fillS t h d p x := by
  unfold chgJ fillS
  cases e : ownOk t h d with
  | false => rfl
  | true =>
    obtain ⟨ht, _, hsd, _⟩ := ownOk_t e
    have h1 : spansF (inF d) 48 0 = d := by rw [spans_of (g := inF d) (fun j _ => rfl)]; exact of_self hsd fun j _ => rfl
    rw [h1, addS_spans]
    cases e2 : fillOk p x with
    | false => simp
    | true =>
      obtain ⟨hp, hx⟩ := fillOk_sp e2
      obtain ⟨lo, hi, rfl, hp1, hp2⟩ := nat_sp hp
      have h4 : ((hi : Int) - (lo : Int)).toNat = hi - lo := by omega
      dsimp only at hx
      have h5 : ∀ n i (s : List UInt8), i + n = hi → lo ≤ i → s.length = 48 → fillI (inF d) x lo n i s = fillT d x lo n i s := by
        intro n
        induction n with
        | zero => intro i s _ _ _; rfl
        | succ n ih =>
          intro i s hi2 hlo hs
          simp only [fillI, fillT]
          cases inF d i with
          | true => exact ih (i + 1) s (by omega) (by omega) hs
          | false =>
            have hj : i - lo < x.length := by omega
            have := over1 s x i (i - lo) (by omega) hj
            simp only [Bool.false_eq_true, if_false, this, List.getD_eq_getElem?_getD, List.getElem?_eq_getElem hj, Option.getD_some]
            exact ih (i + 1) _ (by omega) (by omega) (by simpa using hs)
      simp only [wrap_i, h4, h5 (hi - lo) lo t (by omega) (Nat.le_refl lo) ht]
end Go.Ev

/- Plain laws of caches: what is read after a change. -/
set_option linter.unusedSimpArgs false
set_option linter.unusedVariables false
namespace Go.Ev
open Go.Proofs
theorem inSp_one {i j : Nat} : inSp (j : Int) ((i : Int), (i : Int) + 1) = decide (j = i) := by
  rw [Bool.eq_iff_iff, inSp_iff]
  simp only [decide_eq_true_eq]
  omega
theorem have1 {h : List Sp} (hs : spsOk h = true) {i : Nat} (hi : i < 48) : haveS h ((i : Int), (i : Int) + 1) = inF h i := by
  have h1 : spOk ((i : Int), (i : Int) + 1) = true := by
    rw [spOk_iff]
    dsimp only
    omega
  simp only [haveS, hs, h1, Bool.true_and]
  rw [Bool.eq_iff_iff, eqP_iff]
  have h2 : ∀ j : Nat, inF [((i : Int), (i : Int) + 1)] j = decide (j = i) := fun j => by simp [inF, inSp_one]
  constructor
  · intro h
    have := h i hi
    rw [h2] at this
    simpa using this
  · intro h j _
    rw [h2]
    by_cases e : j = i
    · subst e; simp [h]
    · simp [e]
theorem subS_one {t : List UInt8} {i : Nat} (hi : i < t.length) : subS t ((i : Int), (i : Int) + 1) = [t[i]] := by
  have h1 : ((i : Int) + 1).toNat = i + 1 := by omega
  simp only [subS, wrap_i, h1]
  refine List.ext_getElem? fun k => ?_
  cases k with
  | zero => simp [hi]
  | succ k => rw [List.getElem?_eq_none (by simp; omega)]; simp
theorem read_keep {t t' : List UInt8} {h d h' d' : List Sp} (e : ownOk t h d = true) (e' : ownOk t' h' d' = true) {i : Nat} (hi : i < 48) (h1 : inF h i = inF h' i) (h2 : t[i]? = t'[i]?) :
    readS t h d ((i : Int), (i : Int) + 1) = readS t' h' d' ((i : Int), (i : Int) + 1) := by
  obtain ⟨ht, hs, _, _⟩ := ownOk_t e
  obtain ⟨ht', hs', _, _⟩ := ownOk_t e'
  simp only [readS, e, e', if_true, have1 hs hi, have1 hs' hi, h1, subS_one (show i < t.length by omega), subS_one (show i < t'.length by omega)]
  rw [List.getElem?_eq_getElem (by omega), List.getElem?_eq_getElem (by omega)] at h2
  simp only [Option.some.injEq] at h2
  rw [h2]
theorem addS_get (h : List Sp) (p : Sp) (j : Nat) (hj : j < 48) : inF (addS h p) j = (inSp j p || inF h j) := by
  have := (of_can fun j => if inSp j p = true then true else h.any (inSp j)).2 j hj
  rw [addS, this]
  cases inSp j p <;> simp [inF]
theorem patF_nil (t : List UInt8) (p : Sp) (hp : 0 ≤ p.1 ∧ p.1 < p.2 ∧ p.2 ≤ 48) : ∀ (d : List Sp), patF t p d = [] → ∀ s ∈ d, (0 ≤ s.1 ∧ s.1 < s.2 ∧ s.2 ≤ 48) → ∀ j : Nat, inSp j s = true → inSp j p = false
  | [], _, s, hs, _, _, _ => by simp at hs
  | q :: d, h, s, hs, hb, j, hj => by
    simp only [patF] at h
    cases e : ltI (meetS q p).1 (meetS q p).2 with
    | true => rw [e] at h; simp at h
    | false =>
      rw [e] at h
      simp only [Bool.false_eq_true, if_false] at h
      rcases List.mem_cons.1 hs with rfl | hs
      · rw [ltI_not] at e
        apply Classical.byContradiction
        intro hn
        simp only [Bool.not_eq_false] at hn
        rw [inSp_iff] at hj hn
        simp only [meetS] at e
        have m1 : maxI s.1 p.1 = s.1 ∨ maxI s.1 p.1 = p.1 := by simp only [maxI]; split <;> simp
        have m2 : minI s.2 p.2 = s.2 ∨ minI s.2 p.2 = p.2 := by simp only [minI]; split <;> simp
        omega
      · exact patF_nil t p hp d h s hs hb j hj
theorem fillI_get (g : Nat → Bool) (x : List UInt8) (lo : Nat) : ∀ (n i : Nat) (s : List UInt8) (j : Nat), i + n ≤ s.length → (fillI g x lo n i s)[j]? = if i ≤ j ∧ j < i + n ∧ g j = false then some (x.getD (j - lo) 0) else s[j]?
  | 0, i, s, j, h => by rw [if_neg (by omega)]; rfl
  | n + 1, i, s, j, h => by
    have hl : (if g i = true then s else s.set i (x.getD (i - lo) 0)).length = s.length := by split <;> simp
    rw [fillI, fillI_get g x lo n (i + 1) _ j (by rw [hl]; omega)]
    by_cases e : j = i
    · subst e
      rw [if_neg (by omega)]
      cases e2 : g j with
      | true => simp
      | false =>
        simp [show j < s.length by omega]
    · have hk : (if g i = true then s else s.set i (x.getD (i - lo) 0))[j]? = s[j]? := by
        split
        · rfl
        · exact List.getElem?_set_ne (Ne.symm e)
      rw [hk]
      cases hg : g j with
      | true => simp
      | false =>
        simp only [and_true]
        by_cases h2 : i ≤ j ∧ j < i + (n + 1)
        · rw [if_pos h2, if_pos (by omega)]
        · rw [if_neg h2, if_neg (by omega)]
end Go.Ev

/- The law: unsaved writes are never dropped. -/
set_option linter.unusedSimpArgs false
set_option linter.unusedVariables false
set_option maxRecDepth 100000
set_option maxHeartbeats 4000000
namespace Go.Ev
open Go.Proofs
end Go.Ev

/- The law: fetched data never hides unsaved writes. -/
set_option linter.unusedSimpArgs false
set_option linter.unusedVariables false
set_option maxRecDepth 100000
set_option maxHeartbeats 4000000
namespace Go.Ev
open Go.Proofs
theorem fillT_get (d : List Sp) (x : List UInt8) (lo hi : Nat) (h1 : lo ≤ hi) (h2 : hi ≤ 48) (hx : x.length = hi - lo) : ∀ (n i : Nat) (s : List UInt8) (j : Nat), i + n = hi → lo ≤ i → s.length = 48 → (fillT d x lo n i s)[j]? = if i ≤ j ∧ j < i + n then (if inF d j = true then s[j]? else x[j - lo]?) else s[j]? := by
  intro n i s j h3 h4 hs
  have h5 : ∀ n i (s : List UInt8), i + n = hi → lo ≤ i → s.length = 48 → fillT d x lo n i s = fillI (inF d) x lo n i s := by
    intro n
    induction n with
    | zero => intro i s _ _ _; rfl
    | succ n ih =>
      intro i s hi2 hlo hs
      simp only [fillI, fillT]
      cases inF d i with
      | true => exact ih (i + 1) s (by omega) (by omega) hs
      | false =>
        have hj : i - lo < x.length := by omega
        have := over1 s x i (i - lo) (by omega) hj
        simp only [Bool.false_eq_true, if_false, this, List.getD_eq_getElem?_getD, List.getElem?_eq_getElem hj, Option.getD_some]
        exact ih (i + 1) _ (by omega) (by omega) (by simpa using hs)
  rw [h5 n i s h3 h4 hs, fillI_get _ _ _ _ _ _ _ (by omega)]
  by_cases h6 : i ≤ j ∧ j < i + n
  · have hj : j - lo < x.length := by omega
    cases inF d j with
    | true => simp
    | false => simp [h6, hj]
  · rw [if_neg (fun h7 => h6 ⟨h7.1, h7.2.1⟩), if_neg h6]
end Go.Ev

/- The law: unsaved work is kept. -/
set_option linter.unusedSimpArgs false
set_option linter.unusedVariables false
set_option maxRecDepth 100000
set_option maxHeartbeats 4000000
namespace Go.Ev
open Go.Proofs
theorem dirty_have {t : List UInt8} {h d : List Sp} (e : ownOk t h d = true) {j : Nat} (hj : j < 48) (hd : inF d j = true) : inF h j = true := by
  simp only [ownOk, Bool.and_eq_true] at e
  have := (allTo_iff _ 48 0).1 e.2 j (Nat.zero_le j) (by omega)
  simpa [okAt, hd] using this
theorem read_sub {t : List UInt8} {h d : List Sp} (e : ownOk t h d = true) {s : Sp} (hs : s ∈ d) : readS t h d s = (subS t s, true) := by
  obtain ⟨ht, hsh, hsd, _⟩ := ownOk_t e
  have hb := spsOk_sp hsd s hs
  have h1 : haveS h s = true := by
    simp only [haveS, hsh, spOk_iff.2 hb, Bool.true_and]
    rw [eqP_iff]
    intro j hj
    simp only [inF, List.any_cons, List.any_nil, Bool.or_false]
    cases e2 : inSp j s with
    | false => simp
    | true =>
      have := dirty_have e hj (inF_iff.2 ⟨s, hs, inSp_iff.1 e2⟩)
      simp only [inF] at this
      simp [this]
  simp only [readS, e, h1, if_true]
theorem drop_out {t : List UInt8} {h d : List Sp} (p : Sp) (e1 : ownOk t h d = true) : ∃ T H b', dropS t h d p = rOB T H d b' ∧ ownOk T H d = true ∧ ∀ j : Nat, inF d j = true → T[j]? = t[j]? := by
  cases e2 : spOk p
  · exact ⟨t, h, false, by simp [dropS, e1, e2], e1, fun _ _ => rfl⟩
  · cases e4 : ltI 0 (patF t p d).length
    · cases e3 : ownOk (overS t p (List.replicate (p.2 - p.1).toNat 46)) (cutS h p) d
      · exact ⟨t, h, false, by simp [dropS, e1, e2, e3, e4], e1, fun _ _ => rfl⟩
      · refine ⟨_, _, true, by simp [dropS, e1, e2, e3, e4], e3, fun j hj => ?_⟩
        have hp := spOk_iff.1 e2
        have hpat : patF t p d = [] := by
          have := ltI_not.1 e4
          exact List.length_eq_zero_iff.1 (by omega)
        obtain ⟨ht, hsh, hsd, _⟩ := ownOk_t e1
        obtain ⟨s, hs, hin⟩ := inF_iff.1 hj
        have hn := patF_nil t _ hp d hpat s hs (spsOk_sp hsd s hs) j (inSp_iff.2 hin)
        rw [← Bool.not_eq_true, inSp_iff] at hn
        obtain ⟨lo, hi, rfl, hp1, hp2⟩ := nat_sp hp
        have hn4 : ((hi : Int) - (lo : Int)).toNat = hi - lo := by omega
        dsimp only at hn
        simp only [hn4]
        rw [overS_get t (List.replicate (hi - lo) 46) lo hi (by omega) (by omega) (by simp) j, if_neg (by omega)]
    · exact ⟨t, h, false, by simp [dropS, e1, e2, e4], e1, fun _ _ => rfl⟩
theorem subS_keep {t t' : List UInt8} (s : Sp) (hs : 0 ≤ s.1) (h : ∀ j : Nat, inSp j s = true → t'[j]? = t[j]?) : subS t' s = subS t s := by
  refine List.ext_getElem? fun k => ?_
  simp only [subS, List.getElem?_drop]
  by_cases hk : s.1.toNat + k < s.2.toNat
  · rw [List.getElem?_take_of_lt hk, List.getElem?_take_of_lt hk]
    exact h _ (inSp_iff.2 ⟨by omega, by omega⟩)
  · rw [List.getElem?_eq_none (by simp; omega), List.getElem?_eq_none (by simp; omega)]
end Go.Ev

/- Answers: the program's writes into a cache. -/
set_option linter.unusedSimpArgs false
set_option linter.unusedVariables false
set_option maxRecDepth 100000
set_option maxHeartbeats 4000000
namespace Go.Ev
open Go.Proofs
theorem rows_over (s x : List UInt8) (k : Nat) : (rowsOfBytes s).take k ++ (rowsOfBytes x ++ (rowsOfBytes s).drop (k + x.length)) = rowsOfBytes (overS s ((k : Int), (k : Int) + x.length) x) := by
  have h2 : ((k : Int) + x.length).toNat = k + x.length := by omega
  simp [overS, rowsOfBytes, h2]
theorem rows_one (s : List UInt8) : ∀ x ∈ rowsOfBytes s, x.length = 1 := by
  intro x hx
  simp only [rowsOfBytes, List.mem_map] at hx
  obtain ⟨c, _, rfl⟩ := hx
  rfl
theorem ev_writeFn (m1 m2 m3 m4 : M) (s x : List UInt8) (f g : Nat → Bool) (k : Nat) (h0 : 0 < x.length) (hk : k + x.length ≤ 48) (hs : s.length = 48) :
    ev E 41 [.io false [.sl (rowsOfBytes s)], .v m1 true (pl f), .v m2 true (pl g), .v m3 false [.ref [.int .i64 k]], .v m4 false [.ref [.str x]]] =
      some { rs := [.v .own true (pl fun j => if inF [((k : Int), (k : Int) + x.length)] j = true then true else f j), .v .own true (pl fun j => if inF [((k : Int), (k : Int) + x.length)] j = true then true else g j)], outs := [(.own, [.sl (rowsOfBytes (overS s ((k : Int), (k : Int) + x.length) x))])] } := by
  have c1 : ∀ m, ev E 42 [.v m false [.sl [[.int .i64 k, .int .i64 ((k : Int) + x.length)]]]] = some { rs := [.v .own true (pl (inF [((k : Int), (k : Int) + x.length)]))], outs := [] } := fun m => ev_impl_of m [((k : Int), (k : Int) + x.length)] (by simp) fun s hs => by simp only [List.mem_singleton] at hs; subst hs; dsimp only; omega
  have c2 := fun m m' m'' f => ev_put m m' m'' f (inF [((k : Int), (k : Int) + x.length)]) true
  have hw : IntKind.i64.wrap ((k : Int) + x.length) = (k : Int) + x.length := by rw [wrap64] <;> omega
  have ho := rows_over s x k
  have hr := rows_one s
  have hl := rows_len s
  have hlx := rows_len x
  have hxt : x.take (48 - k) = x := List.take_of_length_le (by omega)
  generalize rowsOfBytes s = ys at *
  have q1 : k < 48 := by omega
  have q2 : (k : Int) ≤ 48 := by omega
  rw [ev_fn Try.f41 rfl Try.func41 rfl rfl rfl (Nat.le_of_ble_eq_true rfl)]
  simp [pl_ff, c1, c2, hw, hl, hs, hxt, hlx, q1, q2, ho, eq_true hr, Nat.le_of_lt q1]
theorem ev_writeFnP (m1 m2 m3 m4 : M) (s x : List UInt8) (f g : Nat → Bool) (k : Int) (h : wrOk k x = true) (hs : s.length = 48) :
    ev E 41 [.io false [.sl (rowsOfBytes s)], .v m1 true (pl f), .v m2 true (pl g), .v m3 false [.ref [.int .i64 k]], .v m4 false [.ref [.str x]]] =
      some { rs := [.v .own true (pl fun j => if inF [(k, k + x.length)] j = true then true else f j), .v .own true (pl fun j => if inF [(k, k + x.length)] j = true then true else g j)], outs := [(.own, [.sl (rowsOfBytes (overS s (k, k + x.length) x))])] } := by
  simp only [wrOk, Bool.and_eq_true, Bool.not_eq_true', ltI_not, eqS_not] at h
  have := List.length_pos_iff.2 h.1.2
  obtain ⟨n, rfl⟩ : ∃ n : Nat, k = n := ⟨k.toNat, by omega⟩
  exact ev_writeFn m1 m2 m3 m4 s x f g n this (by omega) hs
theorem wrOk_sp {k : Int} {x : List UInt8} (h : wrOk k x = true) : (0 ≤ k ∧ k < k + x.length ∧ k + x.length ≤ 48) ∧ x.all okB = true := by
  simp only [wrOk, Bool.and_eq_true, Bool.not_eq_true', ltI_not, eqS_not] at h
  have := List.length_pos_iff.2 h.1.2
  exact ⟨by omega, h.1.1.2.1⟩
theorem ev_impl_OwnWrite (m m' m'' : M) (hm : m.isOwn = false) (t : List UInt8) (h d : List Sp) (k : Int) (x : List UInt8) (b : OwB t h d) (hx : x.length ≤ 4000000) :
    ev E 10 [.v m true (owL t h d), .v m' false [.int .i64 k], .v m'' false [.str x]] = some (chgJ t h d (wrOk k x) (overS t (k, k + x.length) x) (fun j => if inF [(k, k + x.length)] j = true then true else inF h j) (fun j => if inF [(k, k + x.length)] j = true then true else inF d j)) := by
  have c0 := fun m m' m'' => ev_impl_TextWrite m m' m'' [] x k (by simp) hx
  have hb : (twS [] k x).2 = wrOk k x := by
    have : txtOk [] = true := rfl
    simp only [twS, this, if_true]
    cases wrOk k x <;> rfl
  rw [hb] at c0
  have c2 := fun m mb mf hm => ev_changed_two m mb mf hm t h d (wrOk k x) 41 (.ref [.int .i64 k]) (.ref [.str x]) (overS t (k, k + x.length) x) (fun j => if inF [(k, k + x.length)] j = true then true else inF h j) (fun j => if inF [(k, k + x.length)] j = true then true else inF d j) b rfl (fun e0 e => by
      have ht := (ownOk_t e).1
      have hw := (wrOk_sp e0).1
      rw [overS_len _ _ _ (by dsimp only; omega) (by dsimp only; omega) (by dsimp only; omega)]
      dsimp only
      omega) (fun h1 h2 m1 m2 => ev_writeFnP m1 m2 mf mf t x (inF h) (inF d) k h1 (ownOk_t h2).1)
  obtain ⟨T, H, D, b', hr⟩ := chgJ_ex t h d (wrOk k x) (overS t (k, k + x.length) x) (fun j => if inF [(k, k + x.length)] j = true then true else inF h j) (fun j => if inF [(k, k + x.length)] j = true then true else inF d j)
  rw [hr] at c2 ⊢
  rw [ev_fn Try.f10 rfl Try.func10 rfl rfl rfl (Nat.le_of_ble_eq_true rfl)]
  simp [c0, c2, hm]
theorem write_eq (t : List UInt8) (h d : List Sp) (k : Int) (x : List UInt8) : chgJ t h d (wrOk k x) (overS t (k, k + x.length) x) (fun j => if inF [(k, k + x.length)] j = true then true else inF h j) (fun j => if inF [(k, k + x.length)] j = true then true else inF d j) = writeS t h d k x := by
  unfold chgJ writeS
  rw [addS_spans, addS_spans]
theorem ev_l2At (m : M) (bs : List UInt8) (p : Nat) (s : List UInt8) (b : RdB bs p) (hp : p + 3 ≤ 1099511627776) (hs : s.length ≤ 4000000) :
    ∃ k : Int, ev E 37 [rdA bs p, .v m false [.str s]] = some { rs := [.v .own false [.int .i64 k]], outs := [rdO bs (p + 3)] } := by
  obtain ⟨k1, _, c1⟩ := ev_pick .ro bs p 12 b (by omega)
  obtain ⟨k2, _, c2⟩ := ev_pick .ro bs (p + 1) 30 (b.add (by omega)) (by omega)
  obtain ⟨v, hv, c3⟩ := ev_num .tn bs (p + 1 + 1) [0, 1, 3, k1, k2, s.length, s.length + 2, 47, 48, -1, 9223372036854775807] (b.add (q := 2) (by omega)) (by simp) (by simp)
  refine ⟨v, ?_⟩
  have hw : IntKind.i64.wrap ((s.length : Int) + 2) = (s.length : Int) + 2 := by rw [wrap64] <;> omega
  push_cast at c3
  rw [ev_fn Try.f37 rfl Try.func37 rfl rfl rfl (Nat.le_of_ble_eq_true rfl)]
  simp at c3
  simp [c1, c2, c3, hw]
theorem ev_DrawOwnWrite (bs : List UInt8) : ∃ (t : List UInt8) (h d : List Sp) (k : Int) (x : List UInt8), OC t h d ∧ x.length ≤ 200 ∧ ev E 9 [.v .ro false [.sl (rowsOfBytes bs)]] = some { rs := [rOw t h d, .v .own false [.int .i64 k], .v .own false [.str x]], outs := [] } := by
  have c0 := ev_l10Open bs
  have hb : (bs.take 2000).length ≤ 2000 := by simp; omega
  generalize bs.take 2000 = b2 at c0 hb
  obtain ⟨q, t, h, d, o, hq, c1⟩ := ev_l6Some b2 0 ⟨hb, by omega⟩ (by omega)
  obtain ⟨q2, t2, h2, d2, ht2, hh2, hd2, hq2, c2⟩ := ev_l6Bent b2 (0 + q) .tn rfl t h d ⟨hb, by omega⟩ (by omega) o.t o.h o.d
  obtain ⟨k, c3⟩ := ev_l2At .ro b2 (0 + q + q2) [97, 98, 99, 100, 101, 102, 103] ⟨hb, by omega⟩ (by omega) (by simp)
  obtain ⟨x, q3, hx, hq3, c5⟩ := ev_l2Data b2 (0 + q + q2 + 3) ⟨hb, by omega⟩ (by omega)
  push_cast at c0
  refine ⟨t2, h2, d2, k, x, ⟨ht2, hh2, hd2⟩, hx, ?_⟩
  simp only [Nat.zero_add] at c1 c2 c3 c5
  rw [ev_fn Try.f9 rfl Try.func9 rfl rfl rfl (Nat.le_of_ble_eq_true rfl)]
  simp [c0, c1, c2, c3, c5]
theorem ev_DrawOwnOk (bs : List UInt8) : ∃ (t : List UInt8) (h d : List Sp), (t.length ≤ 3000 ∧ h.length ≤ 3000 ∧ d.length ≤ 3000) ∧ ev E 15 [.v .ro false [.sl (rowsOfBytes bs)]] = some { rs := [rOw t h d], outs := [] } := by
  have c0 := ev_l10Open bs
  have hb : (bs.take 2000).length ≤ 2000 := by simp; omega
  generalize bs.take 2000 = b2 at c0 hb
  obtain ⟨q, t, h, d, o, hq, c1⟩ := ev_l6Some b2 0 ⟨hb, by omega⟩ (by omega)
  obtain ⟨q2, t2, h2, d2, ht2, hh2, hd2, hq2, c2⟩ := ev_l6Bent b2 (0 + q) .tn rfl t h d ⟨hb, by omega⟩ (by omega) o.t o.h o.d
  obtain ⟨q3, t3, h3, d3, ht3, hh3, hd3, hq3, c3⟩ := ev_l6BentB 2000 (by omega) b2 (0 + q + q2) .tn rfl t2 h2 d2 ⟨hb, by omega⟩ (by omega) ht2 hh2 hd2
  push_cast at c0
  refine ⟨t3, h3, d3, ⟨ht3, hh3, hd3⟩, ?_⟩
  simp only [Nat.zero_add] at c1 c2 c3
  rw [ev_fn Try.f15 rfl Try.func15 rfl rfl rfl (Nat.le_of_ble_eq_true rfl)]
  simp [c0, c1, c2, c3]
def cutT (s : List UInt8) (n : Nat) : List UInt8 := sizedS s n
theorem ev_TextCut0 (m m' : M) (n : Nat) (hn : n ≤ 48) : ev E 12 [.v m false [.str []], .v m' false [.int .i64 n]] = some { rs := [.v .own false [.str (List.replicate n 46)], .v .own false [.bool true]], outs := [] } := by
  have c1 : ∀ m, ev E 49 [.v m false [.str []]] = some (rB true) := fun m => ev_impl_TextOk m [] (by simp)
  have c2 := fun m m' => ev_sized m m' [] n (by omega) (by simp)
  have hz : sizedS [] n = List.replicate n 46 := by
    unfold sizedS
    cases n with
    | zero => rfl
    | succ n => simp [ltI]
  have q1 : (n : Int) ≤ 48 := by omega
  rw [hz] at c2
  rw [ev_fn Try.f12 rfl Try.func12 rfl rfl rfl (Nat.le_of_ble_eq_true rfl)]
  simp [c1, c2, q1]
def manyN : List Sp → Int
  | [] => 0
  | s :: d => (s.2 - s.1) + manyN d
theorem manyN_bd : ∀ (d : List Sp), (∀ s ∈ d, 0 ≤ s.1 ∧ s.1 < s.2 ∧ s.2 ≤ 48) → 0 ≤ manyN d ∧ manyN d ≤ 48 * d.length
  | [], _ => by simp [manyN]
  | s :: d, h => by
    have h1 := h s (by simp)
    have h2 := manyN_bd d fun q hq => h q (by simp [hq])
    simp only [manyN, List.length_cons]
    omega
theorem lp_SpansMany (m : M) (d : List Sp) (hd : ∀ s ∈ d, 0 ≤ s.1 ∧ s.1 < s.2 ∧ s.2 ≤ 48) (hl : d.length ≤ 4000000) (a : Code) (ha : a = lp Try.f21 0) : ∀ (n i : Nat) (mi : M) (k : Int), i + n = d.length → 0 ≤ k → k ≤ 48 * i →
    ∃ me, loopC E (ev E) 21 a { V := [(3, vim mi k), (9, .v m false [.sl (d.map spL)]), (10, vi d.length), (11, vi i)], H := [], ps := [] } =
      some (.exit 0, { V := [(3, vim me (k + manyN (d.drop i))), (9, .v m false [.sl (d.map spL)]), (10, vi d.length), (11, vi d.length), (12, vb false)], H := [], ps := [] })
  | 0, i, mi, k, h0, hk, hk2 => by
    refine ⟨mi, ?_⟩
    rw [loopC_of _ _ _ _ ha]
    obtain rfl : i = d.length := by omega
    simp [lp, loopsOf, Try.f21, manyN]
  | n + 1, i, mi, k, h0, hk, hk2 => by
    have hlt : i < d.length := by omega
    have hw := wrapN i (by omega)
    have hs := hd d[i] (List.getElem_mem hlt)
    have w1 : IntKind.i64.wrap (d[i].2 - d[i].1) = d[i].2 - d[i].1 := by rw [wrap64] <;> omega
    have w2 : IntKind.i64.wrap (k + (d[i].2 - d[i].1)) = k + (d[i].2 - d[i].1) := by rw [wrap64] <;> omega
    obtain ⟨me, ih⟩ := lp_SpansMany m d hd hl a ha n (i + 1) .ro (k + (d[i].2 - d[i].1)) (by omega) (by omega) (by omega)
    refine ⟨me, ?_⟩
    push_cast at ih
    rw [loopC_of _ _ _ _ ha]
    clear ha
    rw [List.drop_eq_getElem_cons hlt, manyN, ← Int.add_assoc]
    simp [lp, loopsOf, Try.f21, hlt, hw, w1, w2]
    simpa using ih
theorem ev_SpansMany (m : M) (d : List Sp) (hs : spsOk d = true) : ev E 21 [.v m false [.sl (d.map spL)]] = some { rs := [.v .own false [.int .i64 (manyN d)]], outs := [] } := by
  have hl := spsOk_len hs
  have c1 := fun m => ev_impl_SpansOk m d (by omega)
  rw [hs] at c1
  obtain ⟨me, hlp⟩ := lp_SpansMany m d (fun s h => spsOk_sp hs s h) (by omega) _ rfl d.length 0 .ro 0 (by omega) (by omega) (by omega)
  push_cast at hlp
  rw [ev_fn Try.f21 rfl Try.func21 rfl rfl rfl (Nat.le_of_ble_eq_true rfl)]
  simp [c1]
  rw [loopC_at ?_ hlp]
  · simp
  · rfl
end Go.Ev

/- Answers: patches put one behind the other. -/
set_option linter.unusedSimpArgs false
set_option linter.unusedVariables false
set_option maxRecDepth 100000
set_option maxHeartbeats 4000000
namespace Go.Ev
open Go.Proofs
def taF (s : List UInt8) : List Pt → Option (List UInt8)
  | [] => some s
  | q :: qs => if (twS s q.1 q.2).2 = true then taF (twS s q.1 q.2).1 qs else none
theorem twS_ok {s : List UInt8} {k : Int} {x : List UInt8} (h : (twS s k x).2 = true) : txtOk s = true ∧ wrOk k x = true ∧ twS s k x = (wrS s k.toNat x, true) := by
  unfold twS at h ⊢
  cases e1 : txtOk s <;> cases e2 : wrOk k x <;> simp [e1, e2] at h ⊢
theorem wrOk_len {k : Int} {x : List UInt8} (h : wrOk k x = true) : 0 ≤ k ∧ k + x.length ≤ 48 ∧ 0 < x.length ∧ x.all okB = true := by
  simp only [wrOk, Bool.and_eq_true, Bool.not_eq_true', ltI_not, eqS_not] at h
  have := List.length_pos_iff.2 h.1.2
  exact ⟨by omega, by omega, this, h.1.1.2.1⟩
theorem txtOk_wr {s : List UInt8} {k : Int} {x : List UInt8} (h1 : txtOk s = true) (h2 : wrOk k x = true) : txtOk (wrS s k.toNat x) = true := by
  obtain ⟨a1, a2, a3, a4⟩ := wrOk_len h2
  have hs := txtOk_len h1
  simp only [txtOk, Bool.and_eq_true, Bool.not_eq_true', ltI_not] at h1 ⊢
  refine ⟨?_, by rw [wrS_len]; omega⟩
  have h46 : okB 46 = true := by decide
  rw [List.all_eq_true] at h1 a4 ⊢
  intro c hc
  simp only [wrS, List.mem_append] at hc
  rcases hc with (hc | hc) | hc
  · have := List.mem_of_mem_take hc
    rcases List.mem_append.1 this with hc | hc
    · exact h1.1 c hc
    · rw [(List.mem_replicate.1 hc).2]; exact h46
  · exact a4 c hc
  · exact h1.1 c (List.mem_of_mem_drop hc)
end Go.Ev
