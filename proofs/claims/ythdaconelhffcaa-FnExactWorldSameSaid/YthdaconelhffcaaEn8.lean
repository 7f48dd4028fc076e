/- My texts joined: EvT10, EvT11, EvT12, EvT13, EvT32, EvM1, EvT23. No condition. -/
import Derived.Test.YthdaconelhffcaaEn7
/- Answers: valid caches. -/
set_option linter.unusedSimpArgs false
set_option linter.unusedVariables false
set_option maxRecDepth 100000
set_option maxHeartbeats 4000000
namespace Go.Ev
open Go.Proofs
abbrev bxm (r : Root) (m : M) (ls : List L) : Root × HC := (r, { box := true, wr := true, m, ls, e0 := 0, e1 := 0 })
def allTo (p : Nat → Bool) : Nat → Nat → Bool
  | 0, _ => true
  | n + 1, i => p i && allTo p n (i + 1)
theorem allTo_iff (p : Nat → Bool) : ∀ (n i : Nat), allTo p n i = true ↔ ∀ j, i ≤ j → j < i + n → p j = true
  | 0, i => by simp [allTo]; omega
  | n + 1, i => by
    simp only [allTo, Bool.and_eq_true, allTo_iff p n (i + 1)]
    constructor
    · intro ⟨h1, h2⟩ j hj hk
      by_cases e : j = i
      · subst e; exact h1
      · exact h2 j (by omega) (by omega)
    · intro h
      exact ⟨h i (by omega) (by omega), fun j hj hk => h j (by omega) (by omega)⟩
def okAt (t : List UInt8) (hf df : Nat → Bool) (i : Nat) : Bool := hf i || (eqI (t.getD i 0).toNat 46 && !df i)
theorem lp_iOwnOk (m : M) (hm : m.isOwn = false) (t : List UInt8) (h d : List Sp) (ht : t.length = 48) (hf df : Nat → Bool) (a : Code) (ha : a = lp Try.f16 0) : ∀ (n i : Nat), i + n = 48 →
    loopC E (ev E) 16 a { V := [(1, adc 1), (3, adc 3), (4, adc 4), (34, vi i)], H := [bxm (.c 1) m (owL t h d), bx (.c 3) (pl hf), bx (.c 4) (pl df)], ps := [] } =
      if allTo (okAt t hf df) n i then some (.exit 0, { V := [(1, adc 1), (3, adc 3), (4, adc 4), (34, vi 48), (35, vb false)], H := [bxm (.c 1) m (owL t h d), bx (.c 3) (pl hf), bx (.c 4) (pl df)], ps := [] })
      else some (.ret, { V := [(2, vb false)], H := [], ps := [] })
  | 0, i, h0 => by
    rw [loopC_of _ _ _ _ ha]
    obtain rfl : i = 48 := by omega
    simp [lp, loopsOf, Try.f16, allTo, hm]
  | n + 1, i, h0 => by
    have hlt : i < 48 := by omega
    have hI : (i : Int) < 48 := by omega
    have h1 : 1 ≤ 48 - i := by omega
    have hw := wrapN i (by omega)
    have hlt2 : i < t.length := by omega
    have hp := pl_take hf hlt
    have hq := pl_take df hlt
    have ih := lp_iOwnOk m hm t h d ht hf df a ha n (i + 1) (by omega)
    push_cast at ih
    rw [loopC_of _ _ _ _ ha, allTo]
    have hg : t.getD i 0 = t[i] := by simp [hlt2]
    simp only [okAt, hg]
    clear ha hg
    generalize allTo (okAt t hf df) n (i + 1) = r at ih ⊢
    cases e1 : hf i <;> rw [e1] at hp
    · cases e2 : eqI t[i].toNat 46
      · simp [lp, loopsOf, Try.f16, hI, hlt2, hw, hp, h1, show i ≤ 48 by omega, hm, e2]
      · cases e3 : df i <;> rw [e3] at hq <;> simp [lp, loopsOf, Try.f16, hI, hlt2, hw, hp, hq, h1, show i ≤ 48 by omega, hm, e2, ih]
    · simp [lp, loopsOf, Try.f16, hI, hlt2, hw, hp, h1, show i ≤ 48 by omega, hm, ih]
def inF (xs : List Sp) : Nat → Bool := fun j => xs.any (inSp j)
def ownOk (t : List UInt8) (h d : List Sp) : Bool := t.all okB && eqI t.length 48 && spsOk h && spsOk d && allTo (okAt t (inF h) (inF d)) 48 0
theorem spOk_iff {s : Sp} : spOk s = true ↔ 0 ≤ s.1 ∧ s.1 < s.2 ∧ s.2 ≤ 48 := by
  simp [spOk, ltI, and_assoc]
theorem stepsOk_sp {xs : List Sp} : ∀ (n i : Nat), stepsOk xs n i = true → ∀ j, i ≤ j → j < i + n → j < xs.length → spOk (xs.getD j (0, 0)) = true
  | 0, i, _, j, h1, h2, _ => by omega
  | n + 1, i, h, j, h1, h2, h3 => by
    simp only [stepsOk, Bool.and_eq_true] at h
    by_cases e : j = i
    · subst e
      simp only [stepOk, Bool.and_eq_true] at h
      exact h.1.1
    · exact stepsOk_sp n (i + 1) h.2 j (by omega) (by omega) h3
theorem spsOk_sp {xs : List Sp} (h : spsOk xs = true) : ∀ s ∈ xs, 0 ≤ s.1 ∧ s.1 < s.2 ∧ s.2 ≤ 48 := by
  intro s hs
  simp only [spsOk, Bool.and_eq_true] at h
  obtain ⟨j, hj, rfl⟩ := List.mem_iff_getElem.1 hs
  have := stepsOk_sp _ _ h.1 j (by omega) (by omega) hj
  simp only [List.getD_eq_getElem?_getD, List.getElem?_eq_getElem hj, Option.getD_some] at this
  exact spOk_iff.1 this
theorem spsOk_len {xs : List Sp} (h : spsOk xs = true) : xs.length ≤ 12 := by
  simp only [spsOk, Bool.and_eq_true, Bool.not_eq_true', ltI_not] at h
  omega
theorem ev_impl_OwnOk (m : M) (hm : m.isOwn = false) (t : List UInt8) (h d : List Sp) (tb : t.length ≤ 1099511627776) (hb : h.length ≤ 1099511627776) (db : d.length ≤ 1099511627776) :
    ev E 16 [.v m true (owL t h d)] = some (rB (ownOk t h d)) := by
  have c1 := fun m => ev_impl_TextOk m t tb
  have c2 := fun m => ev_impl_SpansOk m h hb
  have c3 := fun m => ev_impl_SpansOk m d db
  rw [ev_fn Try.f16 rfl Try.func16 rfl rfl rfl (Nat.le_of_ble_eq_true rfl)]
  cases e1 : t.all okB
  · simp [c1, e1, hm, ownOk, -List.all_eq_true, -List.all_eq_false]
  · cases e2 : eqI t.length 48
    · cases e3 : ltI 48 t.length <;> simp [c1, e1, e2, e3, hm, ownOk, -List.all_eq_true, -List.all_eq_false]
    · have hl : t.length = 48 := by simp only [eqI_iff] at e2; omega
      have e3 : ltI 48 t.length = false := by simp only [ltI_not]; omega
      cases e4 : spsOk h
      · simp [c1, c2, e1, e2, e3, e4, hm, ownOk, -List.all_eq_true, -List.all_eq_false]
      · cases e5 : spsOk d
        · simp [c1, c2, c3, e1, e2, e3, e4, e5, hm, ownOk, -List.all_eq_true, -List.all_eq_false]
        · have c4 : ∀ m, ev E 42 [.v m false [.sl (h.map spL)]] = some { rs := [.v .own true (pl (inF h))], outs := [] } := fun m => ev_impl_of m h hb fun s hs => by have := spsOk_sp e4 s hs; omega
          have c5 : ∀ m, ev E 42 [.v m false [.sl (d.map spL)]] = some { rs := [.v .own true (pl (inF d))], outs := [] } := fun m => ev_impl_of m d db fun s hs => by have := spsOk_sp e5 s hs; omega
          have hl2 := lp_iOwnOk m hm t h d hl (inF h) (inF d) _ rfl 48 0 (by omega)
          push_cast at hl2
          simp [c1, c2, c3, c4, c5, e1, e2, e3, e4, e5, hm, ownOk, -List.all_eq_true, -List.all_eq_false, pl_ff]
          rw [loopC_at ?_ hl2]
          · cases e6 : allTo (okAt t (inF h) (inF d)) 48 0 <;> simp
          · rfl
theorem lp_sOwnOk (m : M) (hm : m.isOwn = false) (t : List UInt8) (h d : List Sp) (ht : t.length = 48) (hb : h.length ≤ 1099511627776) (db : d.length ≤ 1099511627776) (a : Code) (ha : a = lp Try.f17 0) : ∀ (n i : Nat), i + n = 48 →
    loopC E (ev E) 17 a { V := [(1, adc 1), (3, vi i)], H := [bxm (.c 1) m (owL t h d)], ps := [] } =
      if allTo (okAt t (inF h) (inF d)) n i then some (.exit 0, { V := [(1, adc 1), (3, vi 48), (30, vb false)], H := [bxm (.c 1) m (owL t h d)], ps := [] })
      else some (.ret, { V := [(2, vb false)], H := [], ps := [] })
  | 0, i, h0 => by
    rw [loopC_of _ _ _ _ ha]
    obtain rfl : i = 48 := by omega
    simp [lp, loopsOf, Try.f17, allTo, hm, ht]
  | n + 1, i, h0 => by
    have hI : (i : Int) < 48 := by omega
    have hw := wrapN i (by omega)
    have hlt2 : i < t.length := by omega
    have hltc : i < 48 := by omega
    have ih := lp_sOwnOk m hm t h d ht hb db a ha n (i + 1) (by omega)
    push_cast at ih
    rw [loopC_of _ _ _ _ ha, allTo]
    have hg : t.getD i 0 = t[i] := by simp [hlt2]
    simp only [okAt, hg]
    clear ha hg
    have c1 : ∀ m m', ev E 56 [.v m false [.sl (h.map spL)], .v m' false [.int .i64 i]] = some (rB (inF h i)) := fun m m' => ev_spec_l1In m m' h i hb
    have c2 : ∀ m m', ev E 56 [.v m false [.sl (d.map spL)], .v m' false [.int .i64 i]] = some (rB (inF d i)) := fun m m' => ev_spec_l1In m m' d i db
    generalize allTo (okAt t (inF h) (inF d)) n (i + 1) = r at ih ⊢
    cases e1 : inF h i
    · cases e2 : eqI t[i].toNat 46
      · simp [lp, loopsOf, Try.f17, hI, hltc, hlt2, ht, hw, hm, e1, e2, c1, c2]
      · cases e3 : inF d i <;> simp [lp, loopsOf, Try.f17, hI, hltc, hlt2, ht, hw, hm, e1, e2, e3, c1, c2, ih]
    · simp [lp, loopsOf, Try.f17, hI, hltc, hlt2, ht, hw, hm, ih, e1, c1, c2]
theorem ev_spec_OwnOk (m : M) (hm : m.isOwn = false) (t : List UInt8) (h d : List Sp) (tb : t.length ≤ 1099511627776) (hb : h.length ≤ 1099511627776) (db : d.length ≤ 1099511627776) :
    ev E 17 [.v m true (owL t h d)] = some (rB (ownOk t h d)) := by
  have c1 := fun m => ev_spec_TextOk m t tb
  have c2 := fun m => ev_spec_SpansOk m h hb
  have c3 := fun m => ev_spec_SpansOk m d db
  rw [ev_fn Try.f17 rfl Try.func17 rfl rfl rfl (Nat.le_of_ble_eq_true rfl)]
  cases e1 : t.all okB
  · simp [c1, e1, hm, ownOk, -List.all_eq_true, -List.all_eq_false]
  · cases e2 : eqI t.length 48
    · cases e3 : ltI 48 t.length <;> simp [c1, e1, e2, e3, hm, ownOk, -List.all_eq_true, -List.all_eq_false]
    · have hl : t.length = 48 := by simp only [eqI_iff] at e2; omega
      have e3 : ltI 48 t.length = false := by simp only [ltI_not]; omega
      cases e4 : spsOk h
      · simp [c1, c2, e1, e2, e3, e4, hm, ownOk, -List.all_eq_true, -List.all_eq_false]
      · cases e5 : spsOk d
        · simp [c1, c2, c3, e1, e2, e3, e4, e5, hm, ownOk, -List.all_eq_true, -List.all_eq_false]
        · have hl2 := lp_sOwnOk m hm t h d hl hb db _ rfl 48 0 (by omega)
          push_cast at hl2
          simp [c1, c2, c3, e1, e2, e3, e4, e5, hm, ownOk, -List.all_eq_true, -List.all_eq_false]
          rw [loopC_at ?_ hl2]
          · cases e6 : allTo (okAt t (inF h) (inF d)) 48 0 <;> simp
          · rfl
theorem ev_l6Put (m m' : M) (hm : m.isOwn = false) (hm' : m'.isOwn = false) (t : List UInt8) (h d : List Sp) (t' : List UInt8) (h' d' : List Sp) (hb : h.length ≤ 1099511627776) (db : d.length ≤ 1099511627776) (tb' : t'.length ≤ 1099511627776) (hb' : h'.length ≤ 1099511627776) (db' : d'.length ≤ 1099511627776) :
    ev E 46 [.v m true (owL t h d), .v m' true (owL t' h' d')] = some (if ownOk t' h' d' = true then { rs := [rOw t' h' d', .v .own false [.bool true]], outs := [] } else { rs := [rOw t h d, .v .own false [.bool false]], outs := [] }) := by
  have c1 := fun m hm => ev_spec_OwnOk m hm t' h' d' tb' hb' db'
  have c2 := fun m hm => ev_l6Copy m hm t h d hb db
  have c3 := fun m hm => ev_l6Copy m hm t' h' d' hb' db'
  rw [ev_fn Try.f46 rfl Try.func46 rfl rfl rfl (Nat.le_of_ble_eq_true rfl)]
  cases e : ownOk t' h' d' <;> simp [c1, c2, c3, hm, hm', e]
end Go.Ev

/- Answers: the reference's caches. -/
set_option linter.unusedSimpArgs false
set_option linter.unusedVariables false
set_option maxRecDepth 100000
set_option maxHeartbeats 4000000
namespace Go.Ev
open Go.Proofs
abbrev rOB (t : List UInt8) (h d : List Sp) (b : Bool) : Out := { rs := [rOw t h d, .v .own false [.bool b]], outs := [] }
def cutS (xs : List Sp) (s : Sp) : List Sp := ofL (fun j => if inSp j s = true then false else xs.any (inSp j)) 48 0 []
def addS (xs : List Sp) (s : Sp) : List Sp := ofL (fun j => if inSp j s = true then true else xs.any (inSp j)) 48 0 []
theorem ofL_len (f : Nat → Bool) : ∀ (n i : Nat) (out : List Sp), (ofL f n i out).length ≤ out.length + n
  | 0, i, out => by simp [ofL]
  | n + 1, i, out => by
    have := ofL_len f n (i + 1) (ofStep out i (f i))
    have := ofStep_len out i (f i)
    simp only [ofL]
    omega
theorem cutS_len (xs : List Sp) (s : Sp) : (cutS xs s).length ≤ 48 := by
  exact ofL_len (fun j => if inSp j s = true then false else xs.any (inSp j)) 48 0 []
theorem addS_len (xs : List Sp) (s : Sp) : (addS xs s).length ≤ 48 := by
  exact ofL_len (fun j => if inSp j s = true then true else xs.any (inSp j)) 48 0 []
structure OwB (t : List UInt8) (h d : List Sp) : Prop where
  t : t.length ≤ 4000000
  h : h.length ≤ 4000000
  d : d.length ≤ 4000000
def cleanS (t : List UInt8) (h d : List Sp) (p : Sp) : Out :=
  if ownOk t h d = true then
    if spOk p = true then (if ownOk t h (cutS d p) = true then rOB t h (cutS d p) true else rOB t h d false)
    else rOB t h d false
  else rOB [] [] [] false
theorem ev_spec_OwnClean (m m' : M) (hm : m.isOwn = false) (t : List UInt8) (h d : List Sp) (p : Sp) (b : OwB t h d) :
    ev E 118 [.v m true (owL t h d), .v m' true (spL p)] = some (cleanS t h d p) := by
  have bt := b.t
  have bh := b.h
  have bd := b.d
  have c1 := fun m hm => ev_spec_OwnOk m hm t h d (by omega) (by omega) (by omega)
  have c2 := fun m => ev_spec_SpanOk m p
  have c3 := fun m hm => ev_l6Copy m hm t h d (by omega) (by omega)
  rw [ev_fn Try.f118 rfl Try.func118 rfl rfl rfl (Nat.le_of_ble_eq_true rfl)]
  cases e1 : ownOk t h d
  · simp [c1, e1, hm, cleanS]
  · cases e2 : spOk p
    · simp [c1, c2, c3, e1, e2, hm, cleanS]
    · have hp := spOk_iff.1 e2
      have c4 : ∀ m m', ev E 158 [.v m false [.sl (d.map spL)], .v m' true (spL p)] = some { rs := [.v .own false [.sl ((cutS d p).map spL)]], outs := [] } := fun m m' => ev_spec_l1Cut m m' d p (by omega) (by omega) (by omega) (by omega)
      have hl := cutS_len d p
      have c5 := fun m m' hm hm' => ev_l6Put m m' hm hm' t h d t h (cutS d p) (by omega) (by omega) (by omega) (by omega) (by omega)
      cases e3 : ownOk t h (cutS d p) <;> simp [c1, c2, c3, c4, c5, e1, e2, e3, hm, cleanS]
theorem lp_l2Long (m : M) (N : Nat) (hN : N ≤ 4000000) (a : Code) (ha : a = lp Try.f122 0) : ∀ (n : Nat) (m0 : M) (s : List UInt8), N ≤ s.length + n → s.length ≤ 4000000 →
    ∃ m', loopC E (ev E) 122 a { V := [(0, .v m0 false [.str s]), (1, .v m false [.int .i64 N])], H := [], ps := [] } =
      some (.exit 0, { V := [(0, .v m' false [.str (s ++ List.replicate (N - s.length) 46)]), (1, .v m false [.int .i64 N]), (8, vb false)], H := [], ps := [] })
  | 0, m0, s, h, hs => by
    refine ⟨m0, ?_⟩
    rw [loopC_of _ _ _ _ ha]
    have h1 : N ≤ s.length := by omega
    have h2 : N - s.length = 0 := by omega
    simp [lp, loopsOf, Try.f122, h1, h2]
  | n + 1, m0, s, h, hs => by
    by_cases hlt : s.length < N
    · obtain ⟨m', ih⟩ := lp_l2Long m N hN a ha n .ro (s ++ [46]) (by simp; omega) (by simp; omega)
      refine ⟨m', ?_⟩
      rw [loopC_of _ _ _ _ ha]
      clear ha
      have h2 : N - s.length = (N - (s.length + 1)) + 1 := by omega
      have h3 : s.length + 1 ≤ 4611686018427387904 := by omega
      rw [h2, List.replicate_succ]
      simp at ih
      simp [lp, loopsOf, Try.f122, hlt, h3]
      exact ih
    · refine ⟨m0, ?_⟩
      rw [loopC_of _ _ _ _ ha]
      have h1 : N ≤ s.length := by omega
      have h2 : N - s.length = 0 := by omega
      simp [lp, loopsOf, Try.f122, h1, h2]
theorem ev_l2Long (m m' : M) (s : List UInt8) (N : Nat) (hN : N ≤ 4000000) (hs : s.length ≤ 4000000) :
    ev E 122 [.v m' false [.str s], .v m false [.int .i64 N]] = some { rs := [.v .own false [.str (s ++ List.replicate (N - s.length) 46)]], outs := [] } := by
  obtain ⟨m0, hl⟩ := lp_l2Long m N hN _ rfl N m' s (by omega) hs
  rw [ev_fn Try.f122 rfl Try.func122 rfl rfl rfl (Nat.le_of_ble_eq_true rfl)]
  simp
  rw [loopC_at ?_ hl]
  · simp
  · rfl
theorem ev_l6Blank (m : M) (N : Nat) (hN : N ≤ 4000000) : ev E 132 [.v m false [.int .i64 N]] = some { rs := [.v .own false [.str (List.replicate N 46)]], outs := [] } := by
  have c := fun m m' => ev_l2Long m m' [] N hN (by simp)
  rw [ev_fn Try.f132 rfl Try.func132 rfl rfl rfl (Nat.le_of_ble_eq_true rfl)]
  simp [c]
theorem ev_l6None : ev E 66 [] = some { rs := [rOw (List.replicate 48 46) [] []], outs := [] } := by
  have c := fun m => ev_l6Blank m 48 (by omega)
  push_cast at c
  rw [ev_fn Try.f66 rfl Try.func66 rfl rfl rfl (Nat.le_of_ble_eq_true rfl)]
  simp [c, -List.reduceReplicate]
  rfl
def overS (s : List UInt8) (p : Sp) (x : List UInt8) : List UInt8 := s.take p.1.toNat ++ x ++ s.drop p.2.toNat
theorem ev_l6Over (m m' m'' : M) (s x : List UInt8) (p : Sp) (h1 : 0 ≤ p.1) (h2 : p.1 ≤ s.length) (h3 : 0 ≤ p.2) (h4 : p.2 ≤ s.length) (hs : s.length ≤ 4000000) (hx : x.length ≤ 4000000) :
    ev E 47 [.v m false [.str s], .v m' true (spL p), .v m'' false [.str x]] = some { rs := [.v .own false [.str (overS s p x)]], outs := [] } := by
  have a1 : min p.1.toNat s.length + x.length ≤ 4611686018427387904 := by omega
  have a2 : min p.1.toNat s.length + x.length + (s.length - p.2.toNat) ≤ 4611686018427387904 := by omega
  have a3 : min p.1.toNat s.length + (x.length + (s.length - p.2.toNat)) ≤ 4611686018427387904 := by omega
  rw [ev_fn Try.f47 rfl Try.func47 rfl rfl rfl (Nat.le_of_ble_eq_true rfl)]
  have a4 : p.1.toNat + x.length ≤ 4611686018427387904 := by omega
  have a5 : p.1.toNat + x.length + (s.length - p.2.toNat) ≤ 4611686018427387904 := by omega
  have a6 : p.1.toNat + (x.length + (s.length - p.2.toNat)) ≤ 4611686018427387904 := by omega
  simp [h1, h2, h3, h4, a1, a2, a3, a4, a5, a6, overS]
end Go.Ev

/- Answers: the reference's patches, drops, fills and writes. -/
set_option linter.unusedSimpArgs false
set_option linter.unusedVariables false
set_option maxRecDepth 100000
set_option maxHeartbeats 4000000
namespace Go.Ev
open Go.Proofs
abbrev Pt := Int × List UInt8
abbrev ptL (q : Pt) : List L := [.int .i64 q.1, .str q.2]
def subS (t : List UInt8) (s : Sp) : List UInt8 := (t.take s.2.toNat).drop s.1.toNat
def patF (t : List UInt8) (p : Sp) : List Sp → List Pt
  | [] => []
  | s :: d => if ltI (meetS s p).1 (meetS s p).2 = true then ((meetS s p).1, subS t (meetS s p)) :: patF t p d else patF t p d
theorem patF_len (t : List UInt8) (p : Sp) : ∀ d, (patF t p d).length ≤ d.length
  | [] => by simp [patF]
  | s :: d => by
    have := patF_len t p d
    simp only [patF]
    split <;> simp <;> omega
theorem meet_bd {s p : Sp} (hs : 0 ≤ s.1 ∧ s.1 < s.2 ∧ s.2 ≤ 48) (hp : 0 ≤ p.1 ∧ p.1 < p.2 ∧ p.2 ≤ 48) : 0 ≤ (meetS s p).1 ∧ (meetS s p).2 ≤ 48 ∧ 0 ≤ (meetS s p).2 ∧ (meetS s p).1 ≤ 48 := by
  simp only [meetS, maxI, minI]
  split <;> split <;> refine ⟨?_, ?_, ?_, ?_⟩ <;> (try dsimp only) <;> omega
theorem lp_l6Patches (m : M) (hm : m.isOwn = false) (t : List UInt8) (h d : List Sp) (p : Sp) (ht : t.length = 48) (hd : ∀ s ∈ d, 0 ≤ s.1 ∧ s.1 < s.2 ∧ s.2 ≤ 48) (hp : 0 ≤ p.1 ∧ p.1 < p.2 ∧ p.2 ≤ 48) (hdl : d.length ≤ 4000000) (a : Code) (ha : a = lp Try.f159 0) : ∀ (n i : Nat) (out : List Pt), i + n = d.length → out.length ≤ i →
    loopC E (ev E) 159 a { V := [(2, adc 2), (3, adc 3), (5, at1 5), (6, vi i)], H := [bxm (.c 2) m (owL t h d), bx (.c 3) (spL p), ow (.c 5) [.sl (out.map ptL)]], ps := [] } =
      some (.exit 0, { V := [(2, adc 2), (3, adc 3), (5, at1 5), (6, vi d.length), (14, vb false)], H := [bxm (.c 2) m (owL t h d), bx (.c 3) (spL p), ow (.c 5) [.sl ((out ++ patF t p (d.drop i)).map ptL)]], ps := [] })
  | 0, i, out, h0, ho => by
    rw [loopC_of _ _ _ _ ha]
    obtain rfl : i = d.length := by omega
    simp [lp, loopsOf, Try.f159, patF, hm]
  | n + 1, i, out, h0, ho => by
    have hlt : i < d.length := by omega
    have hw := wrapN i (by omega)
    have hb := meet_bd (hd d[i] (List.getElem_mem hlt)) hp
    have hc := fun m m' => ev_l1Meet m m' d[i] p
    have hsz : (out.length + 1) * 24 ≤ 17592186044416 := by omega
    have hsz1 : (out.length + 1) * 32 ≤ 17592186044416 := by omega
    have hsz2 : out.length + 1 ≤ 17592186044416 := by omega
    rw [List.drop_eq_getElem_cons hlt, patF]
    cases e : ltI (meetS d[i] p).1 (meetS d[i] p).2
    · have ih := lp_l6Patches m hm t h d p ht hd hp hdl a ha n (i + 1) out (by omega) (by omega)
      push_cast at ih
      rw [loopC_of _ _ _ _ ha]
      clear ha
      simp [lp, loopsOf, Try.f159, hlt, hw, hm, hc, e]
      simpa using ih
    · have ih := lp_l6Patches m hm t h d p ht hd hp hdl a ha n (i + 1) (out ++ [((meetS d[i] p).1, subS t (meetS d[i] p))]) (by omega) (by simp; omega)
      push_cast at ih
      rw [loopC_of _ _ _ _ ha]
      clear ha
      have e' := ltI_iff.1 e
      have q1 : (meetS d[i] p).1 ≤ ((meetS d[i] p).2.toNat : Int) := by omega
      have q2 : (meetS d[i] p).2 ≤ (48 : Int) := by omega
      have q3 : (meetS d[i] p).1.toNat ≤ (meetS d[i] p).2.toNat := by omega
      have q4 : max (meetS d[i] p).2 0 = (meetS d[i] p).2 := by omega
      simp [lp, loopsOf, Try.f159, hlt, hw, hm, hc, e, ht, hb, q1, q2, q3, q4, hsz, hsz1, hsz2, Int.le_of_lt e']
      simpa [subS] using ih
theorem ev_l6Patches (m m' : M) (hm : m.isOwn = false) (t : List UInt8) (h d : List Sp) (p : Sp) (ht : t.length = 48) (hd : ∀ s ∈ d, 0 ≤ s.1 ∧ s.1 < s.2 ∧ s.2 ≤ 48) (hp : 0 ≤ p.1 ∧ p.1 < p.2 ∧ p.2 ≤ 48) (hdl : d.length ≤ 4000000) :
    ev E 159 [.v m true (owL t h d), .v m' true (spL p)] = some { rs := [.v .own false [.sl ((patF t p d).map ptL)]], outs := [] } := by
  have hl := lp_l6Patches m hm t h d p ht hd hp hdl _ rfl d.length 0 [] (by omega) (by simp)
  rw [ev_fn Try.f159 rfl Try.func159 rfl rfl rfl (Nat.le_of_ble_eq_true rfl)]
  push_cast at hl
  simp [hm]
  rw [loopC_at ?_ (by simpa using hl)]
  · simp
  · rfl
end Go.Ev

/- Answers: the reference's drops, fills and writes. -/
set_option linter.unusedSimpArgs false
set_option linter.unusedVariables false
set_option maxRecDepth 100000
set_option maxHeartbeats 4000000
namespace Go.Ev
open Go.Proofs
theorem ownOk_t {t : List UInt8} {h d : List Sp} (e : ownOk t h d = true) : t.length = 48 ∧ spsOk h = true ∧ spsOk d = true ∧ t.all okB = true := by
  simp only [ownOk, Bool.and_eq_true, eqI_iff] at e
  exact ⟨by omega, e.1.1.2, e.1.2, e.1.1.1.1⟩
theorem overS_len (s x : List UInt8) (p : Sp) (h1 : 0 ≤ p.1) (h2 : p.1 ≤ p.2) (h4 : p.2 ≤ s.length) : (overS s p x).length = s.length - (p.2.toNat - p.1.toNat) + x.length := by
  simp only [overS, List.length_append, List.length_take, List.length_drop]
  omega
def dropS (t : List UInt8) (h d : List Sp) (p : Sp) : Out :=
  if ownOk t h d = true then
    if spOk p = true then
      if ltI 0 (patF t p d).length = true then rOB t h d false
      else if ownOk (overS t p (List.replicate (p.2 - p.1).toNat 46)) (cutS h p) d = true then rOB (overS t p (List.replicate (p.2 - p.1).toNat 46)) (cutS h p) d true else rOB t h d false
    else rOB t h d false
  else rOB [] [] [] false
theorem ev_spec_OwnDrop (m m' : M) (hm : m.isOwn = false) (t : List UInt8) (h d : List Sp) (p : Sp) (b : OwB t h d) :
    ev E 119 [.v m true (owL t h d), .v m' true (spL p)] = some (dropS t h d p) := by
  have bt := b.t
  have bh := b.h
  have bd := b.d
  have c1 := fun m hm => ev_spec_OwnOk m hm t h d (by omega) (by omega) (by omega)
  have c2 := fun m => ev_spec_SpanOk m p
  have c3 := fun m hm => ev_l6Copy m hm t h d (by omega) (by omega)
  rw [ev_fn Try.f119 rfl Try.func119 rfl rfl rfl (Nat.le_of_ble_eq_true rfl)]
  cases e1 : ownOk t h d
  · simp [c1, e1, hm, dropS]
  · obtain ⟨ht, hsh, hsd, _⟩ := ownOk_t e1
    cases e2 : spOk p
    · simp [c1, c2, c3, e1, e2, hm, dropS]
    · have hp := spOk_iff.1 e2
      have c4 := fun m m' hm => ev_l6Patches m m' hm t h d p ht (spsOk_sp hsd) hp (by omega)
      cases e4 : ltI 0 (patF t p d).length
      · have c5 : ∀ m m', ev E 158 [.v m false [.sl (h.map spL)], .v m' true (spL p)] = some { rs := [.v .own false [.sl ((cutS h p).map spL)]], outs := [] } := fun m m' => ev_spec_l1Cut m m' h p (by omega) (by omega) (by omega) (by omega)
        have hl := cutS_len h p
        have hN : (p.2 - p.1).toNat ≤ 48 := by omega
        have hw : IntKind.i64.wrap (p.2 - p.1) = (((p.2 - p.1).toNat : Nat) : Int) := by rw [wrap64] <;> omega
        have c6 := fun m => ev_l6Blank m (p.2 - p.1).toNat (by omega)
        generalize hNN : (p.2 - p.1).toNat = N at *
        have c7 := fun m m' m'' => ev_l6Over m m' m'' t (List.replicate N 46) p (by omega) (by omega) (by omega) (by omega) (by omega) (by simp; omega)
        have hol := overS_len t (List.replicate N 46) p (by omega) (by omega) (by omega)
        rw [List.length_replicate] at hol
        generalize htt : overS t p (List.replicate N 46) = t' at *
        have c8 := fun m m' hm hm' => ev_l6Put m m' hm hm' t h d t' (cutS h p) d (by omega) (by omega) (by omega) (by omega) (by omega)
        cases e3 : ownOk t' (cutS h p) d <;> simp [c1, c2, c3, c4, c5, c6, c7, c8, e1, e2, e3, e4, hm, hw, dropS, hNN, htt]
      · simp [c1, c2, c3, c4, e1, e2, e4, hm, dropS]
def wrOk (k : Int) (x : List UInt8) : Bool := !ltI k 0 && !ltI 48 k && (x.all okB && !ltI 48 x.length) && !eqS x [] && !ltI 48 (k + x.length)
def writeS (t : List UInt8) (h d : List Sp) (k : Int) (x : List UInt8) : Out :=
  if ownOk t h d = true then
    if wrOk k x = true then
      if ownOk (overS t (k, k + x.length) x) (addS h (k, k + x.length)) (addS d (k, k + x.length)) = true then rOB (overS t (k, k + x.length) x) (addS h (k, k + x.length)) (addS d (k, k + x.length)) true else rOB t h d false
    else rOB t h d false
  else rOB [] [] [] false
theorem ev_spec_OwnWrite (m m' m'' : M) (hm : m.isOwn = false) (t : List UInt8) (h d : List Sp) (k : Int) (x : List UInt8) (b : OwB t h d) (hx : x.length ≤ 4000000) :
    ev E 11 [.v m true (owL t h d), .v m' false [.int .i64 k], .v m'' false [.str x]] = some (writeS t h d k x) := by
  have bt := b.t
  have bh := b.h
  have bd := b.d
  have c1 := fun m hm => ev_spec_OwnOk m hm t h d (by omega) (by omega) (by omega)
  have c2 := fun m => ev_spec_TextOk m x (by omega)
  have c3 := fun m hm => ev_l6Copy m hm t h d (by omega) (by omega)
  rw [ev_fn Try.f11 rfl Try.func11 rfl rfl rfl (Nat.le_of_ble_eq_true rfl)]
  cases e1 : ownOk t h d
  · simp [c1, e1, hm, writeS]
  · obtain ⟨ht, hsh, hsd, _⟩ := ownOk_t e1
    cases e2 : ltI k 0
    · cases e3 : ltI 48 k
      · cases e4 : (x.all okB && !ltI 48 x.length)
        · simp [c1, c2, c3, e1, e2, e3, e4, hm, writeS, wrOk, -Bool.and_eq_false_imp, -List.all_eq_true, -List.all_eq_false]
        · cases e5 : eqS x []
          · have hk1 := ltI_not.1 e2
            have hk2 := ltI_not.1 e3
            have hx2 : x.length ≤ 48 := by
              simp only [Bool.and_eq_true, Bool.not_eq_true', ltI_not] at e4
              omega
            have hw : IntKind.i64.wrap (k + x.length) = k + x.length := by rw [wrap64] <;> omega
            cases e6 : ltI 48 (k + x.length)
            · have hk3 := ltI_not.1 e6
              have hne : x ≠ [] := eqS_not.1 e5
              have hpos : 0 < x.length := List.length_pos_iff.2 hne
              have c5 : ∀ m m', ev E 48 [.v m false [.sl (h.map spL)], .v m' true (spL (k, k + x.length))] = some { rs := [.v .own false [.sl ((addS h (k, k + x.length)).map spL)]], outs := [] } := fun m m' => ev_spec_l1Add m m' h (k, k + x.length) (by omega) (by dsimp only; omega) (by dsimp only; omega) (by dsimp only; omega)
              have c6 : ∀ m m', ev E 48 [.v m false [.sl (d.map spL)], .v m' true (spL (k, k + x.length))] = some { rs := [.v .own false [.sl ((addS d (k, k + x.length)).map spL)]], outs := [] } := fun m m' => ev_spec_l1Add m m' d (k, k + x.length) (by omega) (by dsimp only; omega) (by dsimp only; omega) (by dsimp only; omega)
              have hl1 := addS_len h (k, k + x.length)
              have hl2 := addS_len d (k, k + x.length)
              have c7 := fun m m' m'' => ev_l6Over m m' m'' t x (k, k + x.length) (by dsimp only; omega) (by dsimp only; omega) (by dsimp only; omega) (by dsimp only; omega) (by omega) (by omega)
              have hol := overS_len t x (k, k + x.length) (by dsimp only; omega) (by dsimp only; omega) (by dsimp only; omega)
              have c8 := fun m m' hm hm' => ev_l6Put m m' hm hm' t h d (overS t (k, k + x.length) x) (addS h (k, k + x.length)) (addS d (k, k + x.length)) (by omega) (by omega) (by rw [hol]; omega) (by omega) (by omega)
              simp only [spL] at c5 c6 c7
              cases e7 : ownOk (overS t (k, k + x.length) x) (addS h (k, k + x.length)) (addS d (k, k + x.length)) <;>
                simp [c1, c2, c3, c5, c6, c7, e1, e2, e3, e4, e5, e6, e7, hw, hm, writeS, wrOk, -Bool.and_eq_false_imp, -List.all_eq_true, -List.all_eq_false, -Bool.and_eq_true]
              all_goals (rw [c8 m .tn hm rfl]; simp [e7])
            · simp [c1, c2, c3, e1, e2, e3, e4, e5, e6, hw, hm, writeS, wrOk, -Bool.and_eq_false_imp, -List.all_eq_true, -List.all_eq_false, -Bool.and_eq_true]
          · simp [c1, c2, c3, e1, e2, e3, e4, e5, hm, writeS, wrOk, -Bool.and_eq_false_imp, -List.all_eq_true, -List.all_eq_false, -Bool.and_eq_true]
      · simp [c1, c2, c3, e1, e2, e3, hm, writeS, wrOk]
    · simp [c1, c2, c3, e1, e2, hm, writeS, wrOk]
end Go.Ev

/- Answers: the program's file contents. -/
set_option linter.unusedSimpArgs false
set_option linter.unusedVariables false
set_option maxRecDepth 100000
set_option maxHeartbeats 4000000
namespace Go.Ev
open Go.Proofs
theorem repeatL_dot : ∀ n, Lib.repeatL [46] n = List.replicate n 46
  | 0 => rfl
  | n + 1 => by rw [Lib.repeatL, repeatL_dot n]; rfl
theorem ev_Repeat (m m' : M) (k : Nat) (hk : k ≤ 8200000) : ev E 129 [.v m false [.str [46]], .v m' false [.int .i64 (k : Int)]] = some { rs := [.v .own false [.str (List.replicate k 46)]], outs := [] } := by
  rw [ev_eq]
  have q0 : (0 : Int) ≤ (k : Int) := by omega
  have q4 : (k : Int) ≤ 9223372036854775807 := by omega
  have q2 : k ≤ 140737488355328 := by omega
  simp [repK, q0, q4, q2, repeatL_dot, leafOut]
def txtOk (s : List UInt8) : Bool := s.all okB && !ltI 48 s.length
theorem txtOk_len {s : List UInt8} (h : txtOk s = true) : s.length ≤ 48 := by
  simp only [txtOk, Bool.and_eq_true, Bool.not_eq_true', ltI_not] at h
  omega
def sizedS (s : List UInt8) (n : Nat) : List UInt8 := if ltI s.length n = true then s ++ List.replicate (n - s.length) 46 else s.take n
theorem ev_sized (m m' : M) (s : List UInt8) (n : Nat) (hn : n ≤ 8200000) (hs : s.length ≤ 4000000) : ev E 50 [.v m false [.str s], .v m' false [.int .i64 n]] = some { rs := [.v .own false [.str (sizedS s n)]], outs := [] } := by
  rw [ev_fn Try.f50 rfl Try.func50 rfl rfl rfl (Nat.le_of_ble_eq_true rfl)]
  cases e : ltI s.length n
  · have h1 := ltI_not.1 e
    have h2 : n ≤ s.length := by omega
    simp [e, sizedS, h2]
  · have h1 := ltI_iff.1 e
    have hw : IntKind.i64.wrap ((n : Int) - s.length) = ((n - s.length : Nat) : Int) := by rw [wrap64] <;> omega
    have q1 : n - s.length ≤ 9223372036854775807 := by omega
    have q3 : s.length + (n - s.length) ≤ 4611686018427387904 := by omega
    have c := fun m m' => ev_Repeat m m' (n - s.length) (by omega)
    generalize hk : n - s.length = k at *
    simp [e, sizedS, hw, c, q3, hk]
def wrS (s : List UInt8) (k : Nat) (x : List UInt8) : List UInt8 := (s ++ List.replicate (k - s.length) 46).take k ++ x ++ s.drop (k + x.length)
theorem wrS_sized (s x : List UInt8) (k : Nat) : (sizedS s (max s.length (k + x.length))).take k ++ x ++ s.drop (min (k + x.length) s.length) = wrS s k x := by
  unfold wrS sizedS
  congr 1
  · congr 1
    split
    · rename_i h
      rw [ltI_iff] at h
      apply List.ext_getElem?
      intro j
      simp only [List.getElem?_take, List.getElem?_append, List.getElem?_replicate]
      grind
    · rename_i h
      rw [Bool.not_eq_true, ltI_not] at h
      apply List.ext_getElem?
      intro j
      simp only [List.getElem?_take, List.getElem?_append, List.getElem?_replicate]
      grind
  · apply List.ext_getElem?
    intro j
    simp only [List.getElem?_drop]
    by_cases h : k + x.length ≤ s.length
    · rw [Nat.min_eq_left h]
    · rw [Nat.min_eq_right (by omega), List.getElem?_eq_none (by omega), List.getElem?_eq_none (by omega)]
theorem wrS_len (s x : List UInt8) (k : Nat) : (wrS s k x).length = max s.length (k + x.length) := by
  simp [wrS]
  omega
def twS (s : List UInt8) (k : Int) (x : List UInt8) : List UInt8 × Bool := if txtOk s = true then (if wrOk k x = true then (wrS s k.toNat x, true) else (s, false)) else ([], false)
theorem ev_impl_TextWrite (m m' m'' : M) (s x : List UInt8) (k : Int) (hs : s.length ≤ 4000000) (hx : x.length ≤ 4000000) : ev E 39 [.v m false [.str s], .v m' false [.int .i64 k], .v m'' false [.str x]] = some { rs := [.v .own false [.str (twS s k x).1], .v .own false [.bool (twS s k x).2]], outs := [] } := by
  have c1 : ∀ m, ev E 49 [.v m false [.str s]] = some (rB (txtOk s)) := fun m => ev_impl_TextOk m s (by omega)
  have c2 : ∀ m, ev E 49 [.v m false [.str x]] = some (rB (txtOk x)) := fun m => ev_impl_TextOk m x (by omega)
  have hwr : wrOk k x = (!ltI k 0 && !ltI 48 k && txtOk x && !eqS x [] && !ltI 48 (k + x.length)) := rfl
  by_cases hk : 0 ≤ k ∧ k ≤ 48
  · obtain ⟨n, rfl⟩ : ∃ n : Nat, k = n := ⟨k.toNat, by omega⟩
    have f1 : ltI n 0 = false := ltI_not.2 (by omega)
    have f2 : ltI 48 n = false := ltI_not.2 (by omega)
    have hw : IntKind.i64.wrap ((n : Int) + x.length) = ((n + x.length : Nat) : Int) := by rw [wrap64] <;> omega
    have hm : maxI s.length ((n : Int) + x.length) = ((max s.length (n + x.length) : Nat) : Int) := by simp only [maxI, ltI, decide_eq_true_eq]; split <;> omega
    have hmi : minI ((n : Int) + x.length) s.length = ((min (n + x.length) s.length : Nat) : Int) := by simp only [minI, ltI, decide_eq_true_eq]; split <;> omega
    have c3 := fun m m' => ev_sized m m' s (max s.length (n + x.length)) (by omega) hs
    have hl : (sizedS s (max s.length (n + x.length))).length = max s.length (n + x.length) := by
      unfold sizedS
      split
      · rename_i h; rw [ltI_iff] at h; simp; omega
      · rename_i h; rw [Bool.not_eq_true, ltI_not] at h; simp; omega
    have hws := wrS_sized s x n
    generalize sizedS s (max s.length (n + x.length)) = z at c3 hl hws
    rw [ev_fn Try.f39 rfl Try.func39 rfl rfl rfl (Nat.le_of_ble_eq_true rfl)]
    cases e1 : txtOk s
    · simp [c1, e1, twS]
    · cases e5 : eqS x []
      · cases e4 : txtOk x
        · simp [c1, c2, f1, f2, e1, e4, e5, twS, hwr]
        · have hx48 := txtOk_len e4
          have hs48 := txtOk_len e1
          have g1 : (n : Int) ≤ (max s.length (n + x.length) : Nat) := by omega
          have g2 : n ≤ max s.length (n + x.length) := by omega
          have g3 : min (n + x.length) s.length ≤ s.length := by omega
          have g4 : n + x.length ≤ 4611686018427387904 := by omega
          have g5 : n + (x.length + (s.length - min (n + x.length) s.length)) ≤ 4611686018427387904 := by omega
          have g6 : n + x.length + (s.length - min (n + x.length) s.length) ≤ 4611686018427387904 := by omega
          generalize hmx : max s.length (n + x.length) = mx at *
          generalize hmn : min (n + x.length) s.length = mn at *
          cases e6 : ltI 48 (n + x.length)
          · simp [c1, c2, f1, f2, e1, e4, e5, e6, hw, maxJ, minJ, hm, hmi, c3, hl, twS, hwr, g1, g2, g3, g4, g5, g6, ← hws]
          · simp [c1, c2, f1, f2, e1, e4, e5, e6, hw, twS, hwr]
      · simp [c1, f1, f2, e1, e5, twS, hwr]
  · have hb : wrOk k x = false := by
      rw [hwr]
      by_cases h0 : 0 ≤ k
      · rw [(ltI_iff.2 (by omega) : ltI 48 k = true)]; simp
      · rw [(ltI_iff.2 (by omega) : ltI k 0 = true)]; simp
    rw [ev_fn Try.f39 rfl Try.func39 rfl rfl rfl (Nat.le_of_ble_eq_true rfl)]
    cases e1 : txtOk s
    · simp [c1, e1, twS]
    · cases e2 : ltI k 0
      · have e3 : ltI 48 k = true := ltI_iff.2 (by have := ltI_not.1 e2; omega)
        simp [c1, e1, e2, e3, twS, hb]
      · simp [c1, e1, e2, twS, hb]
end Go.Ev

/- Plain laws: ranges in their one form. -/
set_option linter.unusedSimpArgs false
set_option linter.unusedVariables false
namespace Go.Ev
theorem inSp_iff {j : Int} {s : Sp} : inSp j s = true ↔ s.1 ≤ j ∧ j < s.2 := by
  simp [inSp, ltI]
theorem inF_iff {xs : List Sp} {j : Nat} : inF xs j = true ↔ ∃ s ∈ xs, s.1 ≤ (j : Int) ∧ (j : Int) < s.2 := by
  simp [inF, List.any_eq_true, inSp_iff]
theorem inF_false {xs : List Sp} {j : Nat} : inF xs j = false ↔ ∀ s ∈ xs, ¬ (s.1 ≤ (j : Int) ∧ (j : Int) < s.2) := by
  rw [← Bool.not_eq_true, inF_iff]
  simp
/-- In order, apart, none empty, all up to N. -/
structure Can (N : Int) (xs : List Sp) : Prop where
  ok : ∀ s ∈ xs, 0 ≤ s.1 ∧ s.1 < s.2 ∧ s.2 ≤ N
  pw : xs.Pairwise fun a b => a.2 < b.1
theorem Can.tail {N : Int} {s : Sp} {xs : List Sp} (h : Can N (s :: xs)) : Can N xs := ⟨fun u hu => h.ok u (by simp [hu]), (List.pairwise_cons.1 h.pw).2⟩
theorem can_uniq {N : Int} : ∀ (xs ys : List Sp) (a : Int), Can N xs → Can N ys → 0 ≤ a → (∀ s ∈ xs, a ≤ s.1) → (∀ s ∈ ys, a ≤ s.1) → (∀ j : Int, a ≤ j → ((∃ s ∈ xs, s.1 ≤ j ∧ j < s.2) ↔ (∃ s ∈ ys, s.1 ≤ j ∧ j < s.2))) → xs = ys
  | [], [], _, _, _, _, _, _, _ => rfl
  | [], u :: v, a, hx, hy, h0, h1, h2, hj => by
    have := (hj u.1 (h2 u (by simp))).2 ⟨u, by simp, by omega, (hy.ok u (by simp)).2.1⟩
    simp at this
  | s :: r, [], a, hx, hy, h0, h1, h2, hj => by
    have := (hj s.1 (h1 s (by simp))).1 ⟨s, by simp, by omega, (hx.ok s (by simp)).2.1⟩
    simp at this
  | s :: r, u :: v, a, hx, hy, h0, h1, h2, hj => by
    have hs := hx.ok s (by simp)
    have hu := hy.ok u (by simp)
    have pr := (List.pairwise_cons.1 hx.pw).1
    have pv := (List.pairwise_cons.1 hy.pw).1
    have l1 : u.1 ≤ s.1 := by
      obtain ⟨q, hq, q1, q2⟩ := (hj s.1 (h1 s (by simp))).1 ⟨s, by simp, by omega, hs.2.1⟩
      rcases List.mem_cons.1 hq with rfl | hq
      · exact q1
      · have := pv q hq; omega
    have l2 : s.1 ≤ u.1 := by
      obtain ⟨q, hq, q1, q2⟩ := (hj u.1 (h2 u (by simp))).2 ⟨u, by simp, by omega, hu.2.1⟩
      rcases List.mem_cons.1 hq with rfl | hq
      · exact q1
      · have := pr q hq; omega
    have e1 : s.1 = u.1 := by omega
    have n1 : ¬ ∃ q ∈ s :: r, q.1 ≤ s.2 ∧ s.2 < q.2 := by
      rintro ⟨q, hq, q1, q2⟩
      rcases List.mem_cons.1 hq with rfl | hq
      · omega
      · have := pr q hq; omega
    have n2 : ¬ ∃ q ∈ u :: v, q.1 ≤ u.2 ∧ u.2 < q.2 := by
      rintro ⟨q, hq, q1, q2⟩
      rcases List.mem_cons.1 hq with rfl | hq
      · omega
      · have := pv q hq; omega
    have m1 : ¬ s.2 < u.2 := fun hlt => n1 ((hj s.2 (by have := h1 s (by simp); omega)).2 ⟨u, by simp, by omega, hlt⟩)
    have m2 : ¬ u.2 < s.2 := fun hlt => n2 ((hj u.2 (by have := h2 u (by simp); omega)).1 ⟨s, by simp, by omega, hlt⟩)
    have e2 : s.2 = u.2 := by omega
    have e : s = u := Prod.ext e1 e2
    subst e
    congr 1
    refine can_uniq r v (s.2 + 1) hx.tail hy.tail (by omega) (fun q hq => by have := pr q hq; omega) (fun q hq => by have := pv q hq; omega) fun j hjj => ?_
    have := hj j (by have := h1 s (by simp); omega)
    constructor
    · rintro ⟨q, hq, q1, q2⟩
      obtain ⟨q', hq', w1, w2⟩ := this.1 ⟨q, by simp [hq], q1, q2⟩
      rcases List.mem_cons.1 hq' with rfl | hq'
      · omega
      · exact ⟨q', hq', w1, w2⟩
    · rintro ⟨q, hq, q1, q2⟩
      obtain ⟨q', hq', w1, w2⟩ := this.2 ⟨q, by simp [hq], q1, q2⟩
      rcases List.mem_cons.1 hq' with rfl | hq'
      · omega
      · exact ⟨q', hq', w1, w2⟩
theorem can_eq {xs ys : List Sp} (hx : Can 48 xs) (hy : Can 48 ys) (h : ∀ j : Nat, j < 48 → inF xs j = inF ys j) : xs = ys := by
  refine can_uniq xs ys 0 hx hy (by omega) (fun s hs => (hx.ok s hs).1) (fun s hs => (hy.ok s hs).1) fun j hj => ?_
  obtain ⟨n, rfl⟩ : ∃ n : Nat, j = n := ⟨j.toNat, by omega⟩
  by_cases hn : n < 48
  · have := h n hn
    rw [← inF_iff, ← inF_iff, this]
  · constructor
    · rintro ⟨s, hs, h1, h2⟩
      have := hx.ok s hs
      omega
    · rintro ⟨s, hs, h1, h2⟩
      have := hy.ok s hs
      omega
theorem ofL_can (f : Nat → Bool) : ∀ (n i : Nat) (out : List Sp), Can i out → (∀ j, j < i → inF out j = f j) → Can ((i + n : Nat) : Int) (ofL f n i out) ∧ ∀ j, j < i + n → inF (ofL f n i out) j = f j
  | 0, i, out, h, hj => ⟨h, hj⟩
  | n + 1, i, out, h, hj => by
    have step : Can ((i + 1 : Nat) : Int) (ofStep out i (f i)) ∧ ∀ j, j < i + 1 → inF (ofStep out i (f i)) j = f j := by
      cases hf : f i with
      | false =>
        simp only [ofStep]
        refine ⟨⟨fun s hs => by have := h.ok s hs; omega, h.pw⟩, fun j hjj => ?_⟩
        by_cases e : j = i
        · subst e
          rw [hf]
          simp only [Bool.false_eq_true, if_false]
          rw [inF_false]
          intro s hs
          have := h.ok s hs
          omega
        · exact hj j (by omega)
      | true =>
        rcases List.eq_nil_or_concat out with rfl | ⟨pre, ⟨lo, hi⟩, rfl⟩
        · simp only [ofStep, if_true, List.getLast?_nil]
          refine ⟨⟨fun s hs => by simp only [List.mem_singleton] at hs; subst hs; dsimp only; omega, by simp⟩, fun j hjj => ?_⟩
          by_cases e : j = i
          · subst e
            rw [hf, inF_iff]
            exact ⟨((j : Int), (j : Int) + 1), by simp, by dsimp only; omega, by dsimp only; omega⟩
          · rw [← hj j (by omega)]
            have : inF ([] : List Sp) j = false := rfl
            rw [this, inF_false]
            intro s hs
            simp only [List.mem_singleton] at hs
            subst hs
            dsimp only
            omega
        · rw [List.concat_eq_append] at h hj ⊢
          have hl := h.ok (lo, hi) (by simp)
          dsimp only at hl
          have hp := List.pairwise_append.1 h.pw
          have hpl : ∀ s ∈ pre, s.2 < lo := fun s hs => hp.2.2 s hs (lo, hi) (by simp)
          simp only [ofStep, if_true, List.getLast?_append, List.getLast?_singleton, Option.or_some, Option.some_or]
          cases e : eqI hi i with
          | true =>
            have e := eqI_iff.1 e
            simp only [if_true, List.dropLast_concat]
            refine ⟨⟨fun s hs => ?_, List.pairwise_append.2 ⟨hp.1, by simp, fun a ha b hb => ?_⟩⟩, fun j hjj => ?_⟩
            · rcases List.mem_append.1 hs with hs | hs
              · have := h.ok s (by simp [hs]); omega
              · simp only [List.mem_singleton] at hs; subst hs; dsimp only; omega
            · simp only [List.mem_singleton] at hb
              subst hb
              exact hpl a ha
            · by_cases ej : j = i
              · subst ej
                rw [hf, inF_iff]
                exact ⟨(lo, (j : Int) + 1), by simp, by dsimp only; omega, by dsimp only; omega⟩
              · rw [← hj j (by omega), Bool.eq_iff_iff, inF_iff, inF_iff]
                constructor
                · rintro ⟨s, hs, h1, h2⟩
                  rcases List.mem_append.1 hs with hs | hs
                  · exact ⟨s, by simp [hs], h1, h2⟩
                  · simp only [List.mem_singleton] at hs; subst hs; dsimp only at h1 h2
                    exact ⟨(lo, hi), by simp, by dsimp only; omega, by dsimp only; omega⟩
                · rintro ⟨s, hs, h1, h2⟩
                  rcases List.mem_append.1 hs with hs | hs
                  · exact ⟨s, by simp [hs], h1, h2⟩
                  · simp only [List.mem_singleton] at hs; subst hs; dsimp only at h1 h2
                    exact ⟨(lo, (i : Int) + 1), by simp, by dsimp only; omega, by dsimp only; omega⟩
          | false =>
            have e := eqI_not.1 e
            simp only [Bool.false_eq_true, if_false]
            refine ⟨⟨fun s hs => ?_, List.pairwise_append.2 ⟨h.pw, by simp, fun a ha b hb => ?_⟩⟩, fun j hjj => ?_⟩
            · rcases List.mem_append.1 hs with hs | hs
              · have := h.ok s hs; omega
              · simp only [List.mem_singleton] at hs; subst hs; dsimp only; omega
            · simp only [List.mem_singleton] at hb
              subst hb
              dsimp only
              rcases List.mem_append.1 ha with ha | ha
              · have := hpl a ha; omega
              · simp only [List.mem_singleton] at ha; subst ha; dsimp only; omega
            · by_cases ej : j = i
              · subst ej
                rw [hf, inF_iff]
                exact ⟨((j : Int), (j : Int) + 1), by simp, by dsimp only; omega, by dsimp only; omega⟩
              · rw [← hj j (by omega), Bool.eq_iff_iff, inF_iff, inF_iff]
                constructor
                · rintro ⟨s, hs, h1, h2⟩
                  rcases List.mem_append.1 hs with hs | hs
                  · exact ⟨s, hs, h1, h2⟩
                  · simp only [List.mem_singleton] at hs; subst hs; dsimp only at h1 h2; omega
                · rintro ⟨s, hs, h1, h2⟩
                  exact ⟨s, List.mem_append.2 (.inl hs), h1, h2⟩
    have := ofL_can f n (i + 1) (ofStep out i (f i)) step.1 step.2
    rw [show i + 1 + n = i + (n + 1) by omega] at this
    exact this
theorem of_can (f : Nat → Bool) : Can 48 (ofL f 48 0 []) ∧ ∀ j, j < 48 → inF (ofL f 48 0 []) j = f j := by
  have := ofL_can f 48 0 [] ⟨by simp, by simp⟩ (fun j hj => by omega)
  simpa using this
theorem runEnd_spec (f : Nat → Bool) : ∀ n i, (∀ j, i ≤ j → j < runEnd f n i → f j = true) ∧ (runEnd f n i = i + n ∨ f (runEnd f n i) = false)
  | 0, i => ⟨fun j h1 h2 => by simp [runEnd] at h2; omega, .inl rfl⟩
  | n + 1, i => by
    have := runEnd_spec f n (i + 1)
    simp only [runEnd]
    split
    · rename_i hf
      refine ⟨fun j h1 h2 => ?_, this.2.imp (fun h => by omega) id⟩
      by_cases e : j = i
      · subst e; exact hf
      · exact this.1 j (by omega) h2
    · rename_i hf
      exact ⟨fun j h1 h2 => by omega, .inr (by simpa using hf)⟩
theorem spansF_can (f : Nat → Bool) : ∀ (n i : Nat), 48 ≤ i + n → Can 48 (spansF f n i) ∧ (∀ s ∈ spansF f n i, (i : Int) ≤ s.1) ∧ ∀ j, i ≤ j → j < 48 → inF (spansF f n i) j = f j
  | 0, i, h => ⟨⟨by simp [spansF], by simp [spansF]⟩, by simp [spansF], fun j h1 h2 => by omega⟩
  | n + 1, i, h => by
    simp only [spansF]
    split
    · rename_i hi
      split
      · rename_i hf
        have hs := runEnd_spec f (48 - i) i
        have hl := runEnd_le f (48 - i) i
        have hgt : i < runEnd f (48 - i) i := by
          have : 48 - i = (47 - i) + 1 := by omega
          rw [this, runEnd, if_pos hf]
          have := (runEnd_le f (47 - i) (i + 1)).1
          omega
        generalize runEnd f (48 - i) i = e at hs hl hgt
        obtain ⟨c, lo, hm⟩ := spansF_can f n (e + 1) (by omega)
        refine ⟨⟨fun s hs => ?_, List.pairwise_cons.2 ⟨fun s hs => ?_, c.pw⟩⟩, fun s hs => ?_, fun j h1 h2 => ?_⟩
        · rcases List.mem_cons.1 hs with rfl | hs
          · dsimp only; omega
          · exact c.ok s hs
        · have := lo s hs
          dsimp only
          omega
        · rcases List.mem_cons.1 hs with rfl | hs
          · dsimp only; omega
          · have := lo s hs; omega
        · by_cases hje : j < e
          · rw [hs.1 j h1 hje, inF_iff]
            exact ⟨((i : Int), (e : Int)), by simp, by dsimp only; omega, by dsimp only; omega⟩
          · have hc : inF (((i : Int), (e : Int)) :: spansF f n (e + 1)) j = inF (spansF f n (e + 1)) j := by
              rw [Bool.eq_iff_iff, inF_iff, inF_iff]
              constructor
              · rintro ⟨s, hs, q1, q2⟩
                rcases List.mem_cons.1 hs with rfl | hs
                · dsimp only at q1 q2; omega
                · exact ⟨s, hs, q1, q2⟩
              · rintro ⟨s, hs, q1, q2⟩
                exact ⟨s, by simp [hs], q1, q2⟩
            rw [hc]
            by_cases hje2 : j = e
            · subst hje2
              rcases hs.2 with h | h
              · omega
              · rw [h, inF_false]
                intro s hs
                have := lo s hs
                omega
            · exact hm j (by omega) h2
      · rename_i hf
        obtain ⟨c, lo, hm⟩ := spansF_can f n (i + 1) (by omega)
        refine ⟨c, fun s hs => by have := lo s hs; omega, fun j h1 h2 => ?_⟩
        by_cases e : j = i
        · subst e
          have : f j = false := by simpa using hf
          rw [this, inF_false]
          intro s hs
          have := lo s hs
          omega
        · exact hm j (by omega) h2
    · exact ⟨⟨by simp, by simp⟩, by simp, fun j h1 h2 => by omega⟩
/-- Both ways of telling the ranges of a set come to the same. -/
theorem spans_of {f g : Nat → Bool} (h : ∀ j, j < 48 → f j = g j) : spansF f 48 0 = ofL g 48 0 [] := by
  obtain ⟨c1, _, m1⟩ := spansF_can f 48 0 (by omega)
  obtain ⟨c2, m2⟩ := of_can g
  exact can_eq c1 c2 fun j hj => by rw [m1 j (by omega) hj, m2 j hj, h j hj]
theorem stepsOk_at {xs : List Sp} : ∀ (n i : Nat), stepsOk xs n i = true → ∀ j, i ≤ j → j < i + n → stepOk xs j = true
  | 0, i, _, j, h1, h2 => by omega
  | n + 1, i, h, j, h1, h2 => by
    simp only [stepsOk, Bool.and_eq_true] at h
    by_cases e : j = i
    · subst e; exact h.1
    · exact stepsOk_at n (i + 1) h.2 j (by omega) (by omega)
theorem spsOk_can {xs : List Sp} (h : spsOk xs = true) : Can 48 xs := by
  have hok := spsOk_sp h
  refine ⟨hok, ?_⟩
  simp only [spsOk, Bool.and_eq_true] at h
  have hst := stepsOk_at _ _ h.1
  have hc : ∀ i, (hi : i + 1 < xs.length) → (xs[i]'(by omega)).2 < xs[i + 1].1 := fun i hi => by
    have := hst (i + 1) (by omega) (by omega)
    simp only [stepOk, Bool.and_eq_true, ltI_iff] at this
    have h2 := this.2
    rw [List.getD_eq_getElem?_getD, List.getD_eq_getElem?_getD, List.getElem?_eq_getElem (by omega : i < xs.length), List.getElem?_eq_getElem hi] at h2
    exact h2
  rw [List.pairwise_iff_getElem]
  intro i j hi hj hij
  obtain ⟨k, rfl⟩ : ∃ k, j = i + 1 + k := ⟨j - i - 1, by omega⟩
  induction k with
  | zero => exact hc i hj
  | succ k ih =>
    have h1 := ih (by omega) (by omega)
    have h2 := hc (i + 1 + k) hj
    have h3 := hok (xs[i + 1 + k]'(by omega)) (List.getElem_mem _)
    have : xs[i + 1 + (k + 1)] = xs[i + 1 + k + 1] := rfl
    rw [this]
    omega
theorem of_self {xs : List Sp} (h : spsOk xs = true) {f : Nat → Bool} (hf : ∀ j, j < 48 → f j = inF xs j) : ofL f 48 0 [] = xs := by
  obtain ⟨c, m⟩ := of_can f
  exact can_eq c (spsOk_can h) fun j hj => by rw [m j hj, hf j hj]
end Go.Ev

/- Answers: the program's caches: changes that keep the bytes. -/
set_option linter.unusedSimpArgs false
set_option linter.unusedVariables false
set_option maxRecDepth 100000
set_option maxHeartbeats 4000000
namespace Go.Ev
open Go.Proofs
theorem ev_Clone (m : M) (xs : List Sp) (hb : xs.length ≤ 4000000) : ev E 160 [.v m false [.sl (xs.map spL)]] = some { rs := [.v .own false [.sl (xs.map spL)]], outs := [] } := by
  have h1 : xs.length * 16 ≤ 17592186044416 := by omega
  have h2 : xs.length ≤ 17592186044416 := by omega
  rw [ev_eq]
  simp [cloneK, h1, h2]
theorem ev_kept (m : M) (hm : m.isOwn = false) (t : List UInt8) (h d : List Sp) (b : OwB t h d) : ev E 124 [.v m true (owL t h d)] = some { rs := [rOw t h d], outs := [] } := by
  have c1 := fun m => ev_Clone m h b.h
  have c2 := fun m => ev_Clone m d b.d
  rw [ev_fn Try.f124 rfl Try.func124 rfl rfl rfl (Nat.le_of_ble_eq_true rfl)]
  simp [hm, c1, c2]
theorem spansF_len (f : Nat → Bool) : ∀ (n i : Nat), (spansF f n i).length ≤ n
  | 0, i => by simp [spansF]
  | n + 1, i => by
    have h1 := spansF_len f n (runEnd f (48 - i) i + 1)
    have h2 := spansF_len f n (i + 1)
    simp only [spansF]
    split
    · split
      · simp only [List.length_cons]; omega
      · omega
    · simp
theorem bytes_rows : ∀ (bs : List UInt8), bytesOfRows (rowsOfBytes bs) = some bs
  | [] => rfl
  | b :: bs => by
    have := bytes_rows bs
    simp only [rowsOfBytes] at this
    simp [rowsOfBytes, bytesOfRows, this]
def chgI (t : List UInt8) (h d : List Sp) (may : Bool) (f g : Nat → Bool) : Out :=
  if ownOk t h d = true then
    if may = true then (if ownOk t (spansF f 48 0) (spansF g 48 0) = true then rOB t (spansF f 48 0) (spansF g 48 0) true else rOB t h d false)
    else rOB t h d false
  else rOB [] [] [] false
theorem ev_changed (m mb mf : M) (hm : m.isOwn = false) (t : List UInt8) (h d : List Sp) (may : Bool) (cl : FuncId) (l : L) (f g : Nat → Bool) (b : OwB t h d) (hsig : E.sig cl = [])
    (hcl : may = true → ownOk t h d = true → ∀ m0 m1 m2, ev E cl (.v m0 false [.sl (rowsOfBytes t)] :: .v m1 true (pl (inF h)) :: .v m2 true (pl (inF d)) :: [.v mf false [l]]) = some { rs := [.v .own true (pl f), .v .own true (pl g)], outs := [] }) :
    ev E 40 [.v m true (owL t h d), .v mb false [.bool may], .v mf false [.fn cl [l]]] = some (chgI t h d may f g) := by
  have bt := b.t
  have bh := b.h
  have bd := b.d
  have c1 := fun m hm => ev_impl_OwnOk m hm t h d (by omega) (by omega) (by omega)
  have c3 := fun m hm => ev_kept m hm t h d b
  rw [ev_fn Try.f40 rfl Try.func40 rfl rfl rfl (Nat.le_of_ble_eq_true rfl)]
  cases e1 : ownOk t h d
  · simp [c1, e1, hm, chgI]
  · cases may with
    | false => simp [c1, c3, e1, hm, chgI]
    | true =>
      have hcl := hcl rfl e1
      obtain ⟨ht, hsh, hsd, _⟩ : t.length = 48 ∧ spsOk h = true ∧ spsOk d = true ∧ t.all okB = true := by
        simp only [ownOk, Bool.and_eq_true, eqI_iff] at e1
        exact ⟨by omega, e1.1.1.2, e1.1.2, e1.1.1.1.1⟩
      have hne : t ≠ [] := by intro e; rw [e] at ht; simp at ht
      have c4 : ∀ m, ev E 42 [.v m false [.sl (h.map spL)]] = some { rs := [.v .own true (pl (inF h))], outs := [] } := fun m => ev_impl_of m h (by omega) fun s hs => by have := spsOk_sp hsh s hs; omega
      have c5 : ∀ m, ev E 42 [.v m false [.sl (d.map spL)]] = some { rs := [.v .own true (pl (inF d))], outs := [] } := fun m => ev_impl_of m d (by omega) fun s hs => by have := spsOk_sp hsd s hs; omega
      have l1 := spansF_len f 48 0
      have l2 := spansF_len g 48 0
      have c6 := fun m => ev_spans m f
      have c7 := fun m => ev_spans m g
      have hbr := bytes_rows t
      have hlr : (rowsOfBytes t).length = 48 := by simp [rowsOfBytes, ht]
      simp only [chgI, e1, if_true]
      generalize spansF f 48 0 = h' at *
      generalize spansF g 48 0 = d' at *
      have c8 := fun m hm => ev_impl_OwnOk m hm t h' d' (by omega) (by omega) (by omega)
      cases e3 : ownOk t h' d' <;> simp [c1, e1, e3, hm, hne, ht, c3, c4, c5, c6, c7, c8, hcl, hsig, hbr, pl_ff]
theorem ev_cleanFn (m m1 m2 m3 : M) (rows : List (List L)) (f g : Nat → Bool) (p : Sp) (hp : 0 ≤ p.1 ∧ p.1 < p.2 ∧ p.2 ≤ 48) :
    ev E 58 [.v m false [.sl rows], .v m1 true (pl f), .v m2 true (pl g), .v m3 false [.ref (spL p)]] = some { rs := [.v .own true (pl f), .v .own true (pl fun j => if inF [p] j = true then false else g j)], outs := [] } := by
  have c1 : ∀ m, ev E 42 [.v m false [.sl [spL p]]] = some { rs := [.v .own true (pl (inF [p]))], outs := [] } := fun m => ev_impl_of m [p] (by simp) fun s hs => by simp only [List.mem_singleton] at hs; subst hs; omega
  have c2 := fun m m' m'' f => ev_put m m' m'' f (inF [p]) false
  rw [ev_fn Try.f58 rfl Try.func58 rfl rfl rfl (Nat.le_of_ble_eq_true rfl)]
  simp [c1, c2, pl_ff]
theorem ev_impl_OwnClean (m m' : M) (hm : m.isOwn = false) (t : List UInt8) (h d : List Sp) (p : Sp) (b : OwB t h d) :
    ev E 19 [.v m true (owL t h d), .v m' true (spL p)] = some (chgI t h d (spOk p) (inF h) (fun j => if inF [p] j = true then false else inF d j)) := by
  have c1 := fun m => ev_impl_SpanOk m p
  have c2 := fun m mb mf hm hcl => ev_changed m mb mf hm t h d (spOk p) 58 (.ref (spL p)) (inF h) (fun j => if inF [p] j = true then false else inF d j) b rfl hcl
  have c3 := fun (mf : M) (h1 : spOk p = true) (_ : ownOk t h d = true) (m0 m1 m2 : M) => ev_cleanFn m0 m1 m2 mf (rowsOfBytes t) (inF h) (inF d) p (spOk_iff.1 h1)
  have c4 := fun m mb mf hm => c2 m mb mf hm (c3 mf)
  have hex : ∃ t' h' d' b', chgI t h d (spOk p) (inF h) (fun j => if inF [p] j = true then false else inF d j) = rOB t' h' d' b' := by
    unfold chgI
    split
    · split
      · split <;> exact ⟨_, _, _, _, rfl⟩
      · exact ⟨_, _, _, _, rfl⟩
    · exact ⟨_, _, _, _, rfl⟩
  obtain ⟨t', h', d', b', hr⟩ := hex
  rw [hr] at c4 ⊢
  rw [ev_fn Try.f19 rfl Try.func19 rfl rfl rfl (Nat.le_of_ble_eq_true rfl)]
  simp [c1, c4, hm]
end Go.Ev
