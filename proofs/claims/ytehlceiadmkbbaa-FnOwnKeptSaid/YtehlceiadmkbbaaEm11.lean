/- My texts joined: EvT29. -/
import Derived.Test.YtehlceiadmkbbaaEm10
/- The law: unsaved writes are never dropped. -/
set_option linter.unusedSimpArgs false
set_option linter.unusedVariables false
set_option maxRecDepth 100000
set_option maxHeartbeats 4000000
namespace Go.Ev
open Go.Proofs
theorem ev_DrawOwnDrop (bs : List UInt8) : ∃ (t : List UInt8) (h d : List Sp) (p : Sp), OC t h d ∧ ev E 22 [.v .ro false [.sl (rowsOfBytes bs)]] = some { rs := [rOw t h d, .v .own true (spL p)], outs := [] } := by
  obtain ⟨t, h, d, p, o, c⟩ := ev_l6Both bs
  refine ⟨t, h, d, p, o, ?_⟩
  rw [ev_fn Try.f22 rfl Try.func22 rfl rfl rfl (Nat.le_of_ble_eq_true rfl)]
  simp [c]
theorem lp_FnOwnDrop (t t' : List UInt8) (h d h' d' : List Sp) (lo hi : Nat) (hhi : hi ≤ 48) (b : OwB t h d) (b' : OwB t' h' d') (hs : spsOk h' = true) (h1 : ∀ j : Nat, lo ≤ j → j < hi → inF d j = false) (h2 : ∀ j : Nat, lo ≤ j → j < hi → inF h' j = false) (a : Code) (ha : a = lp Try.f6 0) : ∀ (n i : Nat) (mi : M), i + n = hi → lo ≤ i →
    ∃ me, loopC E (ev E) 6 a { V := [(3, adc 3), (4, adc 4), (5, adc 5), (9, vim mi i)], H := [bx (.c 3) (owL t h d), bx (.c 4) [.int .i64 lo, .int .i64 hi], bx (.c 5) (owL t' h' d')], ps := [] } =
      some (.exit 0, { V := [(3, adc 3), (4, adc 4), (5, adc 5), (9, vim me hi), (56, vb false)], H := [bx (.c 3) (owL t h d), bx (.c 4) [.int .i64 lo, .int .i64 hi], bx (.c 5) (owL t' h' d')], ps := [] })
  | 0, i, mi, h0, hl => by
    refine ⟨mi, ?_⟩
    rw [loopC_of _ _ _ _ ha]
    obtain rfl : i = hi := by omega
    simp [lp, loopsOf, Try.f6]
  | n + 1, i, mi, h0, hl => by
    have hlt : i < hi := by omega
    have hw := wrapN i (by omega)
    obtain ⟨me, ih⟩ := lp_FnOwnDrop t t' h d h' d' lo hi hhi b b' hs h1 h2 a ha n (i + 1) .ro (by omega) (by omega)
    refine ⟨me, ?_⟩
    push_cast at ih
    rw [loopC_of _ _ _ _ ha]
    clear ha
    have bd := b.d
    have c1 := fun m => ev_wpAt m (i : Int) (by omega)
    have c3 := fun m m' hm => ev_OwnRead m m' hm t' h' d' ((i : Int), (i : Int) + 1) b'
    have hr : readS t' h' d' ((i : Int), (i : Int) + 1) = ([], false) := by
      simp only [readS, have1 hs (show i < 48 by omega), h2 i hl hlt]
      cases ownOk t' h' d' <;> rfl
    have c4 : ∀ m m', ev E 13 [.v m false [.sl (d.map spL)], .v m' false [.int .i64 i]] = some (rB (inF d i)) := fun m m' => ev_laws_wpIn m m' d i (by omega)
    rw [h1 i hl hlt] at c4
    rw [hr] at c3
    simp only [spL] at c1 c3
    simp [lp, loopsOf, Try.f6, hlt, hw, c1, c3, c4]
    simpa using ih
theorem law_FnOwnDrop (code : List UInt8) : ev E 6 [.v .ro false [.sl (rowsOfBytes code)]] = some (rB true) := by
  cases e0 : ltI 1048576 code.length
  · obtain ⟨t, h, d, p, o, c1⟩ := ev_DrawOwnDrop code
    have b := o.w
    have c2 := fun m m' hm => ev_impl_OwnDrop m m' hm t h d p b
    have c3 := fun m m' hm => ev_spec_OwnDrop m m' hm t h d p b
    have c0 := fun m hm => ev_spec_OwnOk m hm t h d (by have := o.t; omega) (by have := o.h; omega) (by have := o.d; omega)
    simp only [drop_eq] at c2
    have fin : ∀ T H D, OC T H D → dropS t h d p = rOB T H D false → (ownOk t h d = true → T = t ∧ H = h ∧ D = d) → ev E 6 [.v .ro false [.sl (rowsOfBytes code)]] = some (rB true) := by
      intro T H D O hr hk
      rw [hr] at c2 c3
      have bO := O.w
      have c4 := fun m m' hm hm' => ev_OwnSame m m' hm hm' T T H D H D (by have := O.h; omega) (by have := O.d; omega)
      cases e1 : ownOk t h d
      · rw [e1] at c0
        rw [ev_fn Try.f6 rfl Try.func6 rfl rfl rfl (Nat.le_of_ble_eq_true rfl)]
        simp [e0, c0, c1, c2, c3, c4]
      · obtain ⟨rfl, rfl, rfl⟩ := hk e1
        rw [e1] at c0
        rw [ev_fn Try.f6 rfl Try.func6 rfl rfl rfl (Nat.le_of_ble_eq_true rfl)]
        simp [e0, c0, c1, c2, c3, c4]
    cases e1 : ownOk t h d
    · exact fin [] [] [] ⟨by simp, by simp, by simp⟩ (by simp [dropS, e1]) (by simp [e1])
    · cases e2 : spOk p
      · exact fin t h d o (by simp [dropS, e1, e2]) (by simp)
      · cases e4 : ltI 0 (patF t p d).length
        · cases e3 : ownOk (overS t p (List.replicate (p.2 - p.1).toNat 46)) (cutS h p) d
          · exact fin t h d o (by simp [dropS, e1, e2, e3, e4]) (by simp)
          · have hr : dropS t h d p = rOB (overS t p (List.replicate (p.2 - p.1).toNat 46)) (cutS h p) d true := by simp [dropS, e1, e2, e3, e4]
            rw [hr] at c2 c3
            have O := OC.ok e3
            have bO := O.w
            have hp := spOk_iff.1 e2
            obtain ⟨lo, hi, rfl, hp1, hp2⟩ := nat_sp hp
            have hpat : patF t ((lo : Int), (hi : Int)) d = [] := by
              have := ltI_not.1 e4
              exact List.length_eq_zero_iff.1 (by omega)
            obtain ⟨ht, hsh, hsd, _⟩ := ownOk_t e1
            obtain ⟨ht', hsh', _, _⟩ := ownOk_t e3
            have hnd : ∀ j : Nat, lo ≤ j → j < hi → inF d j = false := fun j h1 h2 => by
              rw [inF_false]
              intro s hs hn
              have := patF_nil t _ hp d hpat s hs (spsOk_sp hsd s hs) j (inSp_iff.2 hn)
              rw [← Bool.not_eq_true, inSp_iff] at this
              dsimp only at this
              omega
            have hn4 : ((hi : Int) - (lo : Int)).toNat = hi - lo := by omega
            have hget := fun j => overS_get t (List.replicate (hi - lo) 46) lo hi (by omega) (by omega) (by simp) j
            simp only [hn4] at *
            generalize htt : overS t ((lo : Int), (hi : Int)) (List.replicate (hi - lo) 46) = t' at *
            have hcut : ∀ j : Nat, j < 48 → inF (cutS h ((lo : Int), (hi : Int))) j = (!inSp j ((lo : Int), (hi : Int)) && inF h j) := fun j hj => cutS_get h _ j hj
            generalize hhh : cutS h ((lo : Int), (hi : Int)) = h' at *
            have c4 := fun m m' hm hm' => ev_OwnSame m m' hm hm' t' t' h' d h' d (by have := O.h; omega) (by have := O.d; omega)
            have c5 := fun m m' => ev_wpSpans m m' d d (by have := O.d; omega)
            have c7 := fun m m' m'' hm hm' => ev_wpOwnKeeps m m' m'' hm hm' t h d t' h' d ((lo : Int), (hi : Int)) b bO fun i hi9 hn => ⟨read_keep e1 e3 hi9 (by
                rw [hcut i hi9]
                have : inSp i ((lo : Int), (hi : Int)) = false := by
                  rw [← Bool.not_eq_true, inSp_iff]
                  exact hn
                simp [this]) (by rw [hget i, if_neg (by dsimp only at hn; omega)]), rfl⟩
            have c8 := fun m hm => ev_impl_OwnOk m hm t' h' d (by have := O.t; omega) (by have := O.h; omega) (by have := O.d; omega)
            rw [e3] at c8
            rw [ev_fn Try.f6 rfl Try.func6 rfl rfl rfl (Nat.le_of_ble_eq_true rfl)]
            obtain ⟨me, hl⟩ := lp_FnOwnDrop t t' h d h' d lo hi (by omega) b bO hsh' hnd (fun j h1 h2 => by rw [hcut j (by omega), show inSp j ((lo : Int), (hi : Int)) = true from inSp_iff.2 ⟨by dsimp only; omega, by dsimp only; omega⟩]; rfl) _ rfl (hi - lo) lo .ro (by omega) (by omega)
            simp [e0, c0, c1, c2, c3, c4, c5, c7, c8]
            rw [loopC_at ?_ hl]
            · simp [c5, c7, c8]
            · rfl
        · exact fin t h d o (by simp [dropS, e1, e2, e4]) (by simp)
  · rw [ev_fn Try.f6 rfl Try.func6 rfl rfl rfl (Nat.le_of_ble_eq_true rfl)]
    simp [e0]
end Go.Ev
