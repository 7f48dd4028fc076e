/- My texts joined: EvT30, EvT31. -/
import Derived.Test.YtehlceiadmkbbaaEm11
/- The law: fetched data never hides unsaved writes. -/
set_option linter.unusedSimpArgs false
set_option linter.unusedVariables false
set_option maxRecDepth 100000
set_option maxHeartbeats 4000000
namespace Go.Ev
open Go.Proofs
theorem ev_DrawOwnFill (bs : List UInt8) : ∃ (t : List UInt8) (h d : List Sp) (p : Sp) (x : List UInt8), OC t h d ∧ x.length ≤ 200 ∧ ev E 8 [.v .ro false [.sl (rowsOfBytes bs)]] = some { rs := [rOw t h d, .v .own true (spL p), .v .own false [.str x]], outs := [] } := by
  have c0 := ev_l10Open bs
  have hb : (bs.take 2000).length ≤ 2000 := by simp; omega
  generalize bs.take 2000 = b2 at c0 hb
  obtain ⟨q, t, h, d, o, hq, c1⟩ := ev_l6Some b2 0 ⟨hb, by omega⟩ (by omega)
  obtain ⟨q2, t2, h2, d2, ht2, hh2, hd2, hq2, c2⟩ := ev_l6Bent b2 (0 + q) .tn rfl t h d ⟨hb, by omega⟩ (by omega) o.t o.h o.d
  obtain ⟨s, c3⟩ := ev_l1Some b2 (0 + q + q2) ⟨hb, by omega⟩ (by omega)
  obtain ⟨k, hk, c4⟩ := ev_pick .ro b2 (0 + q + q2 + 3) 16 ⟨hb, by omega⟩ (by omega)
  obtain ⟨x, q3, hx, hq3, c5⟩ := ev_l2Data b2 (0 + q + q2 + 3 + 1) ⟨hb, by omega⟩ (by omega)
  have c6 := fun m => ev_spec_SpanOk m s
  push_cast at c0
  cases e : spOk s
  · refine ⟨t2, h2, d2, s, x, ⟨ht2, hh2, hd2⟩, hx, ?_⟩
    simp only [Nat.zero_add] at c1 c2 c3 c4 c5
    rw [ev_fn Try.f8 rfl Try.func8 rfl rfl rfl (Nat.le_of_ble_eq_true rfl)]
    by_cases hk0 : k = 0
    · subst hk0
      simp [c0, c1, c2, c3, c4, c5, c6, e]
    · simp [c0, c1, c2, c3, c4, c5, c6, e, hk0]
  · have hs := spOk_iff.1 e
    obtain ⟨y, hy, c7⟩ := ev_l6Fit b2 (0 + q + q2 + 3 + 1) .ro s ⟨hb, by omega⟩ (by omega) (by omega) (by omega) (by omega)
    by_cases hk0 : k = 0
    · refine ⟨t2, h2, d2, s, x, ⟨ht2, hh2, hd2⟩, hx, ?_⟩
      simp only [Nat.zero_add] at c1 c2 c3 c4 c5
      subst hk0
      rw [ev_fn Try.f8 rfl Try.func8 rfl rfl rfl (Nat.le_of_ble_eq_true rfl)]
      simp [c0, c1, c2, c3, c4, c5, c6, e]
    · refine ⟨t2, h2, d2, s, y, ⟨ht2, hh2, hd2⟩, by omega, ?_⟩
      simp only [Nat.zero_add] at c1 c2 c3 c4 c5 c7
      rw [ev_fn Try.f8 rfl Try.func8 rfl rfl rfl (Nat.le_of_ble_eq_true rfl)]
      simp [c0, c1, c2, c3, c4, c5, c6, c7, e, hk0]
theorem fillT_get (d : List Sp) (x : List UInt8) (lo hi : Nat) (h1 : lo ≤ hi) (h2 : hi ≤ 48) (hx : x.length = hi - lo) : ∀ (n i : Nat) (s : List UInt8) (j : Nat), i + n = hi → lo ≤ i → s.length = 48 → (fillT d x lo n i s)[j]? = if i ≤ j ∧ j < i + n then (if inF d j = true then s[j]? else x[j - lo]?) else s[j]? := by
  intro n i s j h3 h4 hs
  have h5 : ∀ n i (s : List UInt8), i + n = hi → lo ≤ i → s.length = 48 → fillT d x lo n i s = fillI (inF d) x lo n i s := by
    intro n
    induction n with
    | zero => intro i s _ _ _; rfl
    | succ n ih =>
      intro i s hi2 hlo hs
      simp only [fillI, fillT]
      cases inF d i with
      | true => exact ih (i + 1) s (by omega) (by omega) hs
      | false =>
        have hj : i - lo < x.length := by omega
        have := over1 s x i (i - lo) (by omega) hj
        simp only [Bool.false_eq_true, if_false, this, List.getD_eq_getElem?_getD, List.getElem?_eq_getElem hj, Option.getD_some]
        exact ih (i + 1) _ (by omega) (by omega) (by simpa using hs)
  rw [h5 n i s h3 h4 hs, fillI_get _ _ _ _ _ _ _ (by omega)]
  by_cases h6 : i ≤ j ∧ j < i + n
  · have hj : j - lo < x.length := by omega
    cases inF d j with
    | true => simp
    | false => simp [h6, hj]
  · rw [if_neg (fun h7 => h6 ⟨h7.1, h7.2.1⟩), if_neg h6]
theorem lp_FnOwnFill (t t' x : List UInt8) (h d h' : List Sp) (lo hi : Nat) (hhi : hi ≤ 48) (hx : x.length = hi - lo) (ht : t.length = 48) (ht' : t'.length = 48) (b : OwB t h d) (b' : OwB t' h' d) (hget : ∀ j : Nat, t'[j]? = if lo ≤ j ∧ j < hi then (if inF d j = true then t[j]? else x[j - lo]?) else t[j]?) (a : Code) (ha : a = lp Try.f3 0) : ∀ (n i : Nat) (mi : M), i + n = hi → lo ≤ i →
    ∃ me, loopC E (ev E) 3 a { V := [(3, adc 3), (4, adc 4), (5, .v .own false [.str x]), (6, adc 6), (10, .v .own false [.str (subS t' ((lo : Int), (hi : Int)))]), (11, .v .own false [.bool true]), (12, vim mi i)], H := [bx (.c 3) (owL t h d), bx (.c 4) [.int .i64 lo, .int .i64 hi], bx (.c 6) (owL t' h' d)], ps := [] } =
      some (.exit 0, { V := [(3, adc 3), (4, adc 4), (5, .v .own false [.str x]), (6, adc 6), (10, .v .own false [.str (subS t' ((lo : Int), (hi : Int)))]), (11, .v .own false [.bool true]), (12, vim me hi), (69, vb false)], H := [bx (.c 3) (owL t h d), bx (.c 4) [.int .i64 lo, .int .i64 hi], bx (.c 6) (owL t' h' d)], ps := [] })
  | 0, i, mi, h0, hl => by
    refine ⟨mi, ?_⟩
    rw [loopC_of _ _ _ _ ha]
    obtain rfl : i = hi := by omega
    simp [lp, loopsOf, Try.f3]
  | n + 1, i, mi, h0, hl => by
    have hlt : i < hi := by omega
    have hw := wrapN i (by omega)
    obtain ⟨me, ih⟩ := lp_FnOwnFill t t' x h d h' lo hi hhi hx ht ht' b b' hget a ha n (i + 1) .ro (by omega) (by omega)
    refine ⟨me, ?_⟩
    push_cast at ih
    have bd := b.d
    have w2 : IntKind.i64.wrap ((i : Int) - lo) = ((i - lo : Nat) : Int) := by rw [wrap64] <;> omega
    have hj : i - lo < x.length := by omega
    have hj2 : i < t.length := by omega
    have c4 : ∀ m m', ev E 13 [.v m false [.sl (d.map spL)], .v m' false [.int .i64 i]] = some (rB (inF d i)) := fun m m' => ev_laws_wpIn m m' d i (by omega)
    have hsl : (subS t' ((lo : Int), (hi : Int))).length = hi - lo := by simp [subS]; omega
    have hsg : (subS t' ((lo : Int), (hi : Int)))[i - lo]? = t'[i]? := by
      simp only [subS, wrap_i, List.getElem?_drop]
      rw [List.getElem?_take_of_lt (by omega)]
      congr 1
      omega
    have hg := hget i
    rw [if_pos ⟨hl, hlt⟩] at hg
    rw [hg] at hsg
    generalize subS t' ((lo : Int), (hi : Int)) = s at *
    have hj3 : i - lo < s.length := by omega
    rw [loopC_of _ _ _ _ ha]
    clear ha
    cases e : inF d i
    · rw [e] at c4 hsg
      simp only [Bool.false_eq_true, if_false, List.getElem?_eq_getElem hj, List.getElem?_eq_getElem hj3, Option.some.injEq] at hsg
      simp [lp, loopsOf, Try.f3, hlt, hw, w2, c4, hj, hj2, hj3, hsg]
      simpa using ih
    · rw [e] at c4 hsg
      simp only [if_true, List.getElem?_eq_getElem hj2, List.getElem?_eq_getElem hj3, Option.some.injEq] at hsg
      simp [lp, loopsOf, Try.f3, hlt, hw, w2, c4, hj, hj2, hj3, hsg]
      simpa using ih
theorem law_FnOwnFill (code : List UInt8) : ev E 3 [.v .ro false [.sl (rowsOfBytes code)]] = some (rB true) := by
  cases e0 : ltI 1048576 code.length
  · obtain ⟨t, h, d, p, x, o, hx, c1⟩ := ev_DrawOwnFill code
    have b := o.w
    have c2 := fun m m' m'' hm => ev_impl_OwnFill m m' m'' hm t h d p x b (by omega)
    have c3 := fun m m' m'' hm => ev_spec_OwnFill m m' m'' hm t h d p x b (by omega)
    simp only [fill_eq] at c2
    have fin : ∀ T H D, OC T H D → fillS t h d p x = rOB T H D false → ev E 3 [.v .ro false [.sl (rowsOfBytes code)]] = some (rB true) := by
      intro T H D O hr
      rw [hr] at c2 c3
      have bO := O.w
      have c4 := fun m m' hm hm' => ev_OwnSame m m' hm hm' T T H D H D (by have := O.h; omega) (by have := O.d; omega)
      rw [ev_fn Try.f3 rfl Try.func3 rfl rfl rfl (Nat.le_of_ble_eq_true rfl)]
      simp [e0, c1, c2, c3, c4]
    cases e1 : ownOk t h d
    · exact fin [] [] [] ⟨by simp, by simp, by simp⟩ (by simp [fillS, e1])
    · cases e2 : fillOk p x
      · exact fin t h d o (by simp [fillS, e1, e2])
      · cases e3 : ownOk (fillT d x p.1.toNat (p.2 - p.1).toNat p.1.toNat t) (addS h p) d
        · exact fin t h d o (by simp [fillS, e1, e2, e3])
        · have hr : fillS t h d p x = rOB (fillT d x p.1.toNat (p.2 - p.1).toNat p.1.toNat t) (addS h p) d true := by simp [fillS, e1, e2, e3]
          rw [hr] at c2 c3
          have O := OC.ok e3
          have bO := O.w
          obtain ⟨hp, hxl⟩ := fillOk_sp e2
          have hps := spOk_iff.2 hp
          obtain ⟨lo, hi, rfl, hp1, hp2⟩ := nat_sp hp
          dsimp only at hxl
          obtain ⟨ht, hsh, hsd, _⟩ := ownOk_t e1
          obtain ⟨ht', hsh', _, _⟩ := ownOk_t e3
          have hn4 : ((hi : Int) - (lo : Int)).toNat = hi - lo := by omega
          simp only [hn4, wrap_i] at *
          have hget := fun j => fillT_get d x lo hi (by omega) hp2 (by omega) (hi - lo) lo t j (by omega) (by omega) ht
          rw [show lo + (hi - lo) = hi by omega] at hget
          generalize fillT d x lo (hi - lo) lo t = t' at *
          have hadd : ∀ j : Nat, j < 48 → inF (addS h ((lo : Int), (hi : Int))) j = (inSp j ((lo : Int), (hi : Int)) || inF h j) := fun j hj => addS_get h _ j hj
          generalize addS h ((lo : Int), (hi : Int)) = h' at *
          have hhave : haveS h' ((lo : Int), (hi : Int)) = true := by
            simp only [haveS, hsh', hps, Bool.true_and]
            rw [eqP_iff]
            intro j hj
            rw [hadd j hj]
            simp only [inF, List.any_cons, List.any_nil, Bool.or_false]
            cases inSp j ((lo : Int), (hi : Int)) <;> simp
          have hread : readS t' h' d ((lo : Int), (hi : Int)) = (subS t' ((lo : Int), (hi : Int)), true) := by simp only [readS, e3, hhave, if_true]
          have c4 := fun m m' hm hm' => ev_OwnSame m m' hm hm' t' t' h' d h' d (by have := O.h; omega) (by have := O.d; omega)
          have c5 := fun m m' hm => ev_OwnRead m m' hm t' h' d ((lo : Int), (hi : Int)) bO
          rw [hread] at c5
          have c7 := fun m m' m'' hm hm' => ev_wpOwnKeeps m m' m'' hm hm' t h d t' h' d ((lo : Int), (hi : Int)) b bO fun i hi9 hn => ⟨read_keep e1 e3 hi9 (by
              rw [hadd i hi9]
              have : inSp i ((lo : Int), (hi : Int)) = false := by
                rw [← Bool.not_eq_true, inSp_iff]
                exact hn
              simp [this]) (by rw [hget i, if_neg (by dsimp only at hn; omega)]), rfl⟩
          have c8 := fun m hm => ev_impl_OwnOk m hm t' h' d (by have := O.t; omega) (by have := O.h; omega) (by have := O.d; omega)
          rw [e3] at c8
          obtain ⟨me, hl⟩ := lp_FnOwnFill t t' x h d h' lo hi (by omega) (by omega) ht ht' b bO hget _ rfl (hi - lo) lo .ro (by omega) (by omega)
          rw [ev_fn Try.f3 rfl Try.func3 rfl rfl rfl (Nat.le_of_ble_eq_true rfl)]
          simp [e0, c1, c2, c3, c4, c5, c7, c8]
          rw [loopC_at ?_ hl]
          · simp [c7, c8]
          · rfl
  · rw [ev_fn Try.f3 rfl Try.func3 rfl rfl rfl (Nat.le_of_ble_eq_true rfl)]
    simp [e0]
end Go.Ev

/- The law: unsaved work is kept. -/
set_option linter.unusedSimpArgs false
set_option linter.unusedVariables false
set_option maxRecDepth 100000
set_option maxHeartbeats 4000000
namespace Go.Ev
open Go.Proofs
theorem dirty_have {t : List UInt8} {h d : List Sp} (e : ownOk t h d = true) {j : Nat} (hj : j < 48) (hd : inF d j = true) : inF h j = true := by
  simp only [ownOk, Bool.and_eq_true] at e
  have := (allTo_iff _ 48 0).1 e.2 j (Nat.zero_le j) (by omega)
  simpa [okAt, hd] using this
theorem read_sub {t : List UInt8} {h d : List Sp} (e : ownOk t h d = true) {s : Sp} (hs : s ∈ d) : readS t h d s = (subS t s, true) := by
  obtain ⟨ht, hsh, hsd, _⟩ := ownOk_t e
  have hb := spsOk_sp hsd s hs
  have h1 : haveS h s = true := by
    simp only [haveS, hsh, spOk_iff.2 hb, Bool.true_and]
    rw [eqP_iff]
    intro j hj
    simp only [inF, List.any_cons, List.any_nil, Bool.or_false]
    cases e2 : inSp j s with
    | false => simp
    | true =>
      have := dirty_have e hj (inF_iff.2 ⟨s, hs, inSp_iff.1 e2⟩)
      simp only [inF] at this
      simp [this]
  simp only [readS, e, h1, if_true]
theorem drop_out {t : List UInt8} {h d : List Sp} (p : Sp) (e1 : ownOk t h d = true) : ∃ T H b', dropS t h d p = rOB T H d b' ∧ ownOk T H d = true ∧ ∀ j : Nat, inF d j = true → T[j]? = t[j]? := by
  cases e2 : spOk p
  · exact ⟨t, h, false, by simp [dropS, e1, e2], e1, fun _ _ => rfl⟩
  · cases e4 : ltI 0 (patF t p d).length
    · cases e3 : ownOk (overS t p (List.replicate (p.2 - p.1).toNat 46)) (cutS h p) d
      · exact ⟨t, h, false, by simp [dropS, e1, e2, e3, e4], e1, fun _ _ => rfl⟩
      · refine ⟨_, _, true, by simp [dropS, e1, e2, e3, e4], e3, fun j hj => ?_⟩
        have hp := spOk_iff.1 e2
        have hpat : patF t p d = [] := by
          have := ltI_not.1 e4
          exact List.length_eq_zero_iff.1 (by omega)
        obtain ⟨ht, hsh, hsd, _⟩ := ownOk_t e1
        obtain ⟨s, hs, hin⟩ := inF_iff.1 hj
        have hn := patF_nil t _ hp d hpat s hs (spsOk_sp hsd s hs) j (inSp_iff.2 hin)
        rw [← Bool.not_eq_true, inSp_iff] at hn
        obtain ⟨lo, hi, rfl, hp1, hp2⟩ := nat_sp hp
        have hn4 : ((hi : Int) - (lo : Int)).toNat = hi - lo := by omega
        dsimp only at hn
        simp only [hn4]
        rw [overS_get t (List.replicate (hi - lo) 46) lo hi (by omega) (by omega) (by simp) j, if_neg (by omega)]
    · exact ⟨t, h, false, by simp [dropS, e1, e2, e4], e1, fun _ _ => rfl⟩
theorem subS_keep {t t' : List UInt8} (s : Sp) (hs : 0 ≤ s.1) (h : ∀ j : Nat, inSp j s = true → t'[j]? = t[j]?) : subS t' s = subS t s := by
  refine List.ext_getElem? fun k => ?_
  simp only [subS, List.getElem?_drop]
  by_cases hk : s.1.toNat + k < s.2.toNat
  · rw [List.getElem?_take_of_lt hk, List.getElem?_take_of_lt hk]
    exact h _ (inSp_iff.2 ⟨by omega, by omega⟩)
  · rw [List.getElem?_eq_none (by simp; omega), List.getElem?_eq_none (by simp; omega)]
theorem lp_FnOwnKept (t t' : List UInt8) (h d h' : List Sp) (b : OwB t h d) (b' : OwB t' h' d) (e : ownOk t h d = true) (e' : ownOk t' h' d = true) (hk : ∀ s ∈ d, subS t' s = subS t s) (a : Code) (ha : a = lp Try.f4 0) : ∀ (n i : Nat), i + n = d.length →
    loopC E (ev E) 4 a { V := [(5, adc 5), (14, adc 14), (16, vi i)], H := [bx (.c 5) (owL t h d), bx (.c 14) (owL t' h' d)], ps := [] } =
      some (.exit 0, { V := [(5, adc 5), (14, adc 14), (16, vi d.length), (80, vb false)], H := [bx (.c 5) (owL t h d), bx (.c 14) (owL t' h' d)], ps := [] })
  | 0, i, h0 => by
    rw [loopC_of _ _ _ _ ha]
    obtain rfl : i = d.length := by omega
    simp [lp, loopsOf, Try.f4]
  | n + 1, i, h0 => by
    have hlt : i < d.length := by omega
    have bd := b.d
    have hw := wrapN i (by omega)
    have ih := lp_FnOwnKept t t' h d h' b b' e e' hk a ha n (i + 1) (by omega)
    push_cast at ih
    have c3 := fun m m' hm => ev_OwnRead m m' hm t h d d[i] b
    have c4 := fun m m' hm => ev_OwnRead m m' hm t' h' d d[i] b'
    have hm := List.getElem_mem hlt
    rw [read_sub e hm] at c3
    rw [read_sub e' hm, hk _ hm] at c4
    rw [loopC_of _ _ _ _ ha]
    clear ha
    simp [lp, loopsOf, Try.f4, hlt, hw, c3, c4]
    simpa using ih
theorem law_FnOwnKept (code more : List UInt8) : ev E 4 [.v .ro false [.sl (rowsOfBytes code)], .v .ro false [.sl (rowsOfBytes more)]] = some (rB true) := by
  cases e0 : ltI 1048576 code.length
  · cases e9 : ltI 1048576 more.length
    · obtain ⟨t, h, d, p, o, c1⟩ := ev_DrawOwnClean code
      obtain ⟨t9, h9, d9, q, x, o9, hx, c9⟩ := ev_DrawOwnFill more
      have b := o.w
      have c2 := fun m m' m'' hm => ev_impl_OwnFill m m' m'' hm t h d q x b (by omega)
      have c3 := fun m m' m'' hm => ev_spec_OwnFill m m' m'' hm t h d q x b (by omega)
      simp only [fill_eq] at c2
      have fin : ∀ T H D, OC T H D → fillS t h d q x = rOB T H D false → ev E 4 [.v .ro false [.sl (rowsOfBytes code)], .v .ro false [.sl (rowsOfBytes more)]] = some (rB true) := by
        intro T H D O hr
        rw [hr] at c2 c3
        have bO := O.w
        rw [ev_fn Try.f4 rfl Try.func4 rfl rfl rfl (Nat.le_of_ble_eq_true rfl)]
        simp [e0, e9, c1, c2, c3, c9]
      cases e1 : ownOk t h d
      · exact fin [] [] [] ⟨by simp, by simp, by simp⟩ (by simp [fillS, e1])
      · cases e2 : fillOk q x
        · exact fin t h d o (by simp [fillS, e1, e2])
        · cases e3 : ownOk (fillT d x q.1.toNat (q.2 - q.1).toNat q.1.toNat t) (addS h q) d
          · exact fin t h d o (by simp [fillS, e1, e2, e3])
          · have hr : fillS t h d q x = rOB (fillT d x q.1.toNat (q.2 - q.1).toNat q.1.toNat t) (addS h q) d true := by simp [fillS, e1, e2, e3]
            rw [hr] at c2 c3
            have O := OC.ok e3
            have bO := O.w
            obtain ⟨hp, hxl⟩ := fillOk_sp e2
            obtain ⟨lo, hi, rfl, hp1, hp2⟩ := nat_sp hp
            dsimp only at hxl
            obtain ⟨ht, hsh, hsd, _⟩ := ownOk_t e1
            have hn4 : ((hi : Int) - (lo : Int)).toNat = hi - lo := by omega
            simp only [hn4, wrap_i] at *
            have hget : ∀ j, inF d j = true → (fillT d x lo (hi - lo) lo t)[j]? = t[j]? := fun j hj => by
              rw [fillT_get d x lo hi (by omega) hp2 (by omega) (hi - lo) lo t j (by omega) (by omega) ht, hj]
              simp
            generalize fillT d x lo (hi - lo) lo t = t' at *
            generalize addS h ((lo : Int), (hi : Int)) = h' at *
            obtain ⟨T, H, b'', hr2, e5, hT⟩ := drop_out p e3
            have O2 := OC.ok e5
            have bO2 := O2.w
            have c4 := fun m m' hm => ev_impl_OwnDrop m m' hm t' h' d p bO
            simp only [drop_eq, hr2] at c4
            have c5 := fun m m' => ev_wpSpans m m' d d (by have := O.d; omega)
            have hl := lp_FnOwnKept t T h d H b bO2 e1 e5 (fun s hs => subS_keep s (spsOk_sp hsd s hs).1 fun j hj => by
              have := inF_iff.2 ⟨s, hs, inSp_iff.1 hj⟩
              rw [hT j this, hget j this]) _ rfl d.length 0 (by omega)
            rw [ev_fn Try.f4 rfl Try.func4 rfl rfl rfl (Nat.le_of_ble_eq_true rfl)]
            simp [e0, e9, c1, c2, c3, c4, c5, c9]
            rw [loopC_at ?_ (by simpa using hl)]
            · simp
            · rfl
    · rw [ev_fn Try.f4 rfl Try.func4 rfl rfl rfl (Nat.le_of_ble_eq_true rfl)]
      simp [e0, e9]
  · rw [ev_fn Try.f4 rfl Try.func4 rfl rfl rfl (Nat.le_of_ble_eq_true rfl)]
    simp [e0]
end Go.Ev
