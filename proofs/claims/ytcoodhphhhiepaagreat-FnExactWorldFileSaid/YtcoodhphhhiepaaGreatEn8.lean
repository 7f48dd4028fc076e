/- My texts joined: EvM1, EvT23, EvT12, EvT13, EvT24, EvT14, EvT15, EvT16, EvT17, EvT18, EvT19, EvT20, EvT21, EvT22, EvT25, EvT32, EvT33, EvT34, EvW1. No condition. -/
import Derived.Test.YtcoodhphhhiepaaGreatEn7
/- Plain laws: ranges in their one form. -/
set_option linter.unusedSimpArgs false
set_option linter.unusedVariables false
namespace Go.Ev
theorem inSp_iff {j : Int} {s : Sp} : inSp j s = true ↔ s.1 ≤ j ∧ j < s.2 := by
  simp [inSp, ltI]
theorem inF_iff {xs : List Sp} {j : Nat} : inF xs j = true ↔ ∃ s ∈ xs, s.1 ≤ (j : Int) ∧ (j : Int) < s.2 := by
  simp [inF, List.any_eq_true, inSp_iff]
theorem inF_false {xs : List Sp} {j : Nat} : inF xs j = false ↔ ∀ s ∈ xs, ¬ (s.1 ≤ (j : Int) ∧ (j : Int) < s.2) := by
  rw [← Bool.not_eq_true, inF_iff]
  simp
/-- In order, apart, none empty, all up to N. -/
structure Can (N : Int) (xs : List Sp) : Prop where
  ok : ∀ s ∈ xs, 0 ≤ s.1 ∧ s.1 < s.2 ∧ s.2 ≤ N
  pw : xs.Pairwise fun a b => a.2 < b.1
theorem Can.tail {N : Int} {s : Sp} {xs : List Sp} (h : Can N (s :: xs)) : Can N xs := ⟨fun u hu => h.ok u (by simp [hu]), (List.pairwise_cons.1 h.pw).2⟩
theorem can_uniq {N : Int} : ∀ (xs ys : List Sp) (a : Int), Can N xs → Can N ys → 0 ≤ a → (∀ s ∈ xs, a ≤ s.1) → (∀ s ∈ ys, a ≤ s.1) → (∀ j : Int, a ≤ j → ((∃ s ∈ xs, s.1 ≤ j ∧ j < s.2) ↔ (∃ s ∈ ys, s.1 ≤ j ∧ j < s.2))) → xs = ys
  | [], [], _, _, _, _, _, _, _ => rfl
  | [], u :: v, a, hx, hy, h0, h1, h2, hj => by
    have := (hj u.1 (h2 u (by simp))).2 ⟨u, by simp, by omega, (hy.ok u (by simp)).2.1⟩
    simp at this
  | s :: r, [], a, hx, hy, h0, h1, h2, hj => by
    have := (hj s.1 (h1 s (by simp))).1 ⟨s, by simp, by omega, (hx.ok s (by simp)).2.1⟩
    simp at this
  | s :: r, u :: v, a, hx, hy, h0, h1, h2, hj => by
    have hs := hx.ok s (by simp)
    have hu := hy.ok u (by simp)
    have pr := (List.pairwise_cons.1 hx.pw).1
    have pv := (List.pairwise_cons.1 hy.pw).1
    have l1 : u.1 ≤ s.1 := by
      obtain ⟨q, hq, q1, q2⟩ := (hj s.1 (h1 s (by simp))).1 ⟨s, by simp, by omega, hs.2.1⟩
      rcases List.mem_cons.1 hq with rfl | hq
      · exact q1
      · have := pv q hq; omega
    have l2 : s.1 ≤ u.1 := by
      obtain ⟨q, hq, q1, q2⟩ := (hj u.1 (h2 u (by simp))).2 ⟨u, by simp, by omega, hu.2.1⟩
      rcases List.mem_cons.1 hq with rfl | hq
      · exact q1
      · have := pr q hq; omega
    have e1 : s.1 = u.1 := by omega
    have n1 : ¬ ∃ q ∈ s :: r, q.1 ≤ s.2 ∧ s.2 < q.2 := by
      rintro ⟨q, hq, q1, q2⟩
      rcases List.mem_cons.1 hq with rfl | hq
      · omega
      · have := pr q hq; omega
    have n2 : ¬ ∃ q ∈ u :: v, q.1 ≤ u.2 ∧ u.2 < q.2 := by
      rintro ⟨q, hq, q1, q2⟩
      rcases List.mem_cons.1 hq with rfl | hq
      · omega
      · have := pv q hq; omega
    have m1 : ¬ s.2 < u.2 := fun hlt => n1 ((hj s.2 (by have := h1 s (by simp); omega)).2 ⟨u, by simp, by omega, hlt⟩)
    have m2 : ¬ u.2 < s.2 := fun hlt => n2 ((hj u.2 (by have := h2 u (by simp); omega)).1 ⟨s, by simp, by omega, hlt⟩)
    have e2 : s.2 = u.2 := by omega
    have e : s = u := Prod.ext e1 e2
    subst e
    congr 1
    refine can_uniq r v (s.2 + 1) hx.tail hy.tail (by omega) (fun q hq => by have := pr q hq; omega) (fun q hq => by have := pv q hq; omega) fun j hjj => ?_
    have := hj j (by have := h1 s (by simp); omega)
    constructor
    · rintro ⟨q, hq, q1, q2⟩
      obtain ⟨q', hq', w1, w2⟩ := this.1 ⟨q, by simp [hq], q1, q2⟩
      rcases List.mem_cons.1 hq' with rfl | hq'
      · omega
      · exact ⟨q', hq', w1, w2⟩
    · rintro ⟨q, hq, q1, q2⟩
      obtain ⟨q', hq', w1, w2⟩ := this.2 ⟨q, by simp [hq], q1, q2⟩
      rcases List.mem_cons.1 hq' with rfl | hq'
      · omega
      · exact ⟨q', hq', w1, w2⟩
theorem can_eq {xs ys : List Sp} (hx : Can 48 xs) (hy : Can 48 ys) (h : ∀ j : Nat, j < 48 → inF xs j = inF ys j) : xs = ys := by
  refine can_uniq xs ys 0 hx hy (by omega) (fun s hs => (hx.ok s hs).1) (fun s hs => (hy.ok s hs).1) fun j hj => ?_
  obtain ⟨n, rfl⟩ : ∃ n : Nat, j = n := ⟨j.toNat, by omega⟩
  by_cases hn : n < 48
  · have := h n hn
    rw [← inF_iff, ← inF_iff, this]
  · constructor
    · rintro ⟨s, hs, h1, h2⟩
      have := hx.ok s hs
      omega
    · rintro ⟨s, hs, h1, h2⟩
      have := hy.ok s hs
      omega
theorem ofL_can (f : Nat → Bool) : ∀ (n i : Nat) (out : List Sp), Can i out → (∀ j, j < i → inF out j = f j) → Can ((i + n : Nat) : Int) (ofL f n i out) ∧ ∀ j, j < i + n → inF (ofL f n i out) j = f j
  | 0, i, out, h, hj => ⟨h, hj⟩
  | n + 1, i, out, h, hj => by
    have step : Can ((i + 1 : Nat) : Int) (ofStep out i (f i)) ∧ ∀ j, j < i + 1 → inF (ofStep out i (f i)) j = f j := by
      cases hf : f i with
      | false =>
        simp only [ofStep]
        refine ⟨⟨fun s hs => by have := h.ok s hs; omega, h.pw⟩, fun j hjj => ?_⟩
        by_cases e : j = i
        · subst e
          rw [hf]
          simp only [Bool.false_eq_true, if_false]
          rw [inF_false]
          intro s hs
          have := h.ok s hs
          omega
        · exact hj j (by omega)
      | true =>
        rcases List.eq_nil_or_concat out with rfl | ⟨pre, ⟨lo, hi⟩, rfl⟩
        · simp only [ofStep, if_true, List.getLast?_nil]
          refine ⟨⟨fun s hs => by simp only [List.mem_singleton] at hs; subst hs; dsimp only; omega, by simp⟩, fun j hjj => ?_⟩
          by_cases e : j = i
          · subst e
            rw [hf, inF_iff]
            exact ⟨((j : Int), (j : Int) + 1), by simp, by dsimp only; omega, by dsimp only; omega⟩
          · rw [← hj j (by omega)]
            have : inF ([] : List Sp) j = false := rfl
            rw [this, inF_false]
            intro s hs
            simp only [List.mem_singleton] at hs
            subst hs
            dsimp only
            omega
        · rw [List.concat_eq_append] at h hj ⊢
          have hl := h.ok (lo, hi) (by simp)
          dsimp only at hl
          have hp := List.pairwise_append.1 h.pw
          have hpl : ∀ s ∈ pre, s.2 < lo := fun s hs => hp.2.2 s hs (lo, hi) (by simp)
          simp only [ofStep, if_true, List.getLast?_append, List.getLast?_singleton, Option.or_some, Option.some_or]
          cases e : eqI hi i with
          | true =>
            have e := eqI_iff.1 e
            simp only [if_true, List.dropLast_concat]
            refine ⟨⟨fun s hs => ?_, List.pairwise_append.2 ⟨hp.1, by simp, fun a ha b hb => ?_⟩⟩, fun j hjj => ?_⟩
            · rcases List.mem_append.1 hs with hs | hs
              · have := h.ok s (by simp [hs]); omega
              · simp only [List.mem_singleton] at hs; subst hs; dsimp only; omega
            · simp only [List.mem_singleton] at hb
              subst hb
              exact hpl a ha
            · by_cases ej : j = i
              · subst ej
                rw [hf, inF_iff]
                exact ⟨(lo, (j : Int) + 1), by simp, by dsimp only; omega, by dsimp only; omega⟩
              · rw [← hj j (by omega), Bool.eq_iff_iff, inF_iff, inF_iff]
                constructor
                · rintro ⟨s, hs, h1, h2⟩
                  rcases List.mem_append.1 hs with hs | hs
                  · exact ⟨s, by simp [hs], h1, h2⟩
                  · simp only [List.mem_singleton] at hs; subst hs; dsimp only at h1 h2
                    exact ⟨(lo, hi), by simp, by dsimp only; omega, by dsimp only; omega⟩
                · rintro ⟨s, hs, h1, h2⟩
                  rcases List.mem_append.1 hs with hs | hs
                  · exact ⟨s, by simp [hs], h1, h2⟩
                  · simp only [List.mem_singleton] at hs; subst hs; dsimp only at h1 h2
                    exact ⟨(lo, (i : Int) + 1), by simp, by dsimp only; omega, by dsimp only; omega⟩
          | false =>
            have e := eqI_not.1 e
            simp only [Bool.false_eq_true, if_false]
            refine ⟨⟨fun s hs => ?_, List.pairwise_append.2 ⟨h.pw, by simp, fun a ha b hb => ?_⟩⟩, fun j hjj => ?_⟩
            · rcases List.mem_append.1 hs with hs | hs
              · have := h.ok s hs; omega
              · simp only [List.mem_singleton] at hs; subst hs; dsimp only; omega
            · simp only [List.mem_singleton] at hb
              subst hb
              dsimp only
              rcases List.mem_append.1 ha with ha | ha
              · have := hpl a ha; omega
              · simp only [List.mem_singleton] at ha; subst ha; dsimp only; omega
            · by_cases ej : j = i
              · subst ej
                rw [hf, inF_iff]
                exact ⟨((j : Int), (j : Int) + 1), by simp, by dsimp only; omega, by dsimp only; omega⟩
              · rw [← hj j (by omega), Bool.eq_iff_iff, inF_iff, inF_iff]
                constructor
                · rintro ⟨s, hs, h1, h2⟩
                  rcases List.mem_append.1 hs with hs | hs
                  · exact ⟨s, hs, h1, h2⟩
                  · simp only [List.mem_singleton] at hs; subst hs; dsimp only at h1 h2; omega
                · rintro ⟨s, hs, h1, h2⟩
                  exact ⟨s, List.mem_append.2 (.inl hs), h1, h2⟩
    have := ofL_can f n (i + 1) (ofStep out i (f i)) step.1 step.2
    rw [show i + 1 + n = i + (n + 1) by omega] at this
    exact this
theorem of_can (f : Nat → Bool) : Can 48 (ofL f 48 0 []) ∧ ∀ j, j < 48 → inF (ofL f 48 0 []) j = f j := by
  have := ofL_can f 48 0 [] ⟨by simp, by simp⟩ (fun j hj => by omega)
  simpa using this
theorem runEnd_spec (f : Nat → Bool) : ∀ n i, (∀ j, i ≤ j → j < runEnd f n i → f j = true) ∧ (runEnd f n i = i + n ∨ f (runEnd f n i) = false)
  | 0, i => ⟨fun j h1 h2 => by simp [runEnd] at h2; omega, .inl rfl⟩
  | n + 1, i => by
    have := runEnd_spec f n (i + 1)
    simp only [runEnd]
    split
    · rename_i hf
      refine ⟨fun j h1 h2 => ?_, this.2.imp (fun h => by omega) id⟩
      by_cases e : j = i
      · subst e; exact hf
      · exact this.1 j (by omega) h2
    · rename_i hf
      exact ⟨fun j h1 h2 => by omega, .inr (by simpa using hf)⟩
theorem spansF_can (f : Nat → Bool) : ∀ (n i : Nat), 48 ≤ i + n → Can 48 (spansF f n i) ∧ (∀ s ∈ spansF f n i, (i : Int) ≤ s.1) ∧ ∀ j, i ≤ j → j < 48 → inF (spansF f n i) j = f j
  | 0, i, h => ⟨⟨by simp [spansF], by simp [spansF]⟩, by simp [spansF], fun j h1 h2 => by omega⟩
  | n + 1, i, h => by
    simp only [spansF]
    split
    · rename_i hi
      split
      · rename_i hf
        have hs := runEnd_spec f (48 - i) i
        have hl := runEnd_le f (48 - i) i
        have hgt : i < runEnd f (48 - i) i := by
          have : 48 - i = (47 - i) + 1 := by omega
          rw [this, runEnd, if_pos hf]
          have := (runEnd_le f (47 - i) (i + 1)).1
          omega
        generalize runEnd f (48 - i) i = e at hs hl hgt
        obtain ⟨c, lo, hm⟩ := spansF_can f n (e + 1) (by omega)
        refine ⟨⟨fun s hs => ?_, List.pairwise_cons.2 ⟨fun s hs => ?_, c.pw⟩⟩, fun s hs => ?_, fun j h1 h2 => ?_⟩
        · rcases List.mem_cons.1 hs with rfl | hs
          · dsimp only; omega
          · exact c.ok s hs
        · have := lo s hs
          dsimp only
          omega
        · rcases List.mem_cons.1 hs with rfl | hs
          · dsimp only; omega
          · have := lo s hs; omega
        · by_cases hje : j < e
          · rw [hs.1 j h1 hje, inF_iff]
            exact ⟨((i : Int), (e : Int)), by simp, by dsimp only; omega, by dsimp only; omega⟩
          · have hc : inF (((i : Int), (e : Int)) :: spansF f n (e + 1)) j = inF (spansF f n (e + 1)) j := by
              rw [Bool.eq_iff_iff, inF_iff, inF_iff]
              constructor
              · rintro ⟨s, hs, q1, q2⟩
                rcases List.mem_cons.1 hs with rfl | hs
                · dsimp only at q1 q2; omega
                · exact ⟨s, hs, q1, q2⟩
              · rintro ⟨s, hs, q1, q2⟩
                exact ⟨s, by simp [hs], q1, q2⟩
            rw [hc]
            by_cases hje2 : j = e
            · subst hje2
              rcases hs.2 with h | h
              · omega
              · rw [h, inF_false]
                intro s hs
                have := lo s hs
                omega
            · exact hm j (by omega) h2
      · rename_i hf
        obtain ⟨c, lo, hm⟩ := spansF_can f n (i + 1) (by omega)
        refine ⟨c, fun s hs => by have := lo s hs; omega, fun j h1 h2 => ?_⟩
        by_cases e : j = i
        · subst e
          have : f j = false := by simpa using hf
          rw [this, inF_false]
          intro s hs
          have := lo s hs
          omega
        · exact hm j (by omega) h2
    · exact ⟨⟨by simp, by simp⟩, by simp, fun j h1 h2 => by omega⟩
/-- Both ways of telling the ranges of a set come to the same. -/
theorem spans_of {f g : Nat → Bool} (h : ∀ j, j < 48 → f j = g j) : spansF f 48 0 = ofL g 48 0 [] := by
  obtain ⟨c1, _, m1⟩ := spansF_can f 48 0 (by omega)
  obtain ⟨c2, m2⟩ := of_can g
  exact can_eq c1 c2 fun j hj => by rw [m1 j (by omega) hj, m2 j hj, h j hj]
theorem stepsOk_at {xs : List Sp} : ∀ (n i : Nat), stepsOk xs n i = true → ∀ j, i ≤ j → j < i + n → stepOk xs j = true
  | 0, i, _, j, h1, h2 => by omega
  | n + 1, i, h, j, h1, h2 => by
    simp only [stepsOk, Bool.and_eq_true] at h
    by_cases e : j = i
    · subst e; exact h.1
    · exact stepsOk_at n (i + 1) h.2 j (by omega) (by omega)
theorem spsOk_can {xs : List Sp} (h : spsOk xs = true) : Can 48 xs := by
  have hok := spsOk_sp h
  refine ⟨hok, ?_⟩
  simp only [spsOk, Bool.and_eq_true] at h
  have hst := stepsOk_at _ _ h.1
  have hc : ∀ i, (hi : i + 1 < xs.length) → (xs[i]'(by omega)).2 < xs[i + 1].1 := fun i hi => by
    have := hst (i + 1) (by omega) (by omega)
    simp only [stepOk, Bool.and_eq_true, ltI_iff] at this
    have h2 := this.2
    rw [List.getD_eq_getElem?_getD, List.getD_eq_getElem?_getD, List.getElem?_eq_getElem (by omega : i < xs.length), List.getElem?_eq_getElem hi] at h2
    exact h2
  rw [List.pairwise_iff_getElem]
  intro i j hi hj hij
  obtain ⟨k, rfl⟩ : ∃ k, j = i + 1 + k := ⟨j - i - 1, by omega⟩
  induction k with
  | zero => exact hc i hj
  | succ k ih =>
    have h1 := ih (by omega) (by omega)
    have h2 := hc (i + 1 + k) hj
    have h3 := hok (xs[i + 1 + k]'(by omega)) (List.getElem_mem _)
    have : xs[i + 1 + (k + 1)] = xs[i + 1 + k + 1] := rfl
    rw [this]
    omega
theorem of_self {xs : List Sp} (h : spsOk xs = true) {f : Nat → Bool} (hf : ∀ j, j < 48 → f j = inF xs j) : ofL f 48 0 [] = xs := by
  obtain ⟨c, m⟩ := of_can f
  exact can_eq c (spsOk_can h) fun j hj => by rw [m j hj, hf j hj]
end Go.Ev

/- Answers: the program's caches: changes that keep the bytes. -/
set_option linter.unusedSimpArgs false
set_option linter.unusedVariables false
set_option maxRecDepth 100000
set_option maxHeartbeats 4000000
namespace Go.Ev
open Go.Proofs
theorem spansF_len (f : Nat → Bool) : ∀ (n i : Nat), (spansF f n i).length ≤ n
  | 0, i => by simp [spansF]
  | n + 1, i => by
    have h1 := spansF_len f n (runEnd f (48 - i) i + 1)
    have h2 := spansF_len f n (i + 1)
    simp only [spansF]
    split
    · split
      · simp only [List.length_cons]; omega
      · omega
    · simp
theorem bytes_rows : ∀ (bs : List UInt8), bytesOfRows (rowsOfBytes bs) = some bs
  | [] => rfl
  | b :: bs => by
    have := bytes_rows bs
    simp only [rowsOfBytes] at this
    simp [rowsOfBytes, bytesOfRows, this]
def chgI (t : List UInt8) (h d : List Sp) (may : Bool) (f g : Nat → Bool) : Out :=
  if ownOk t h d = true then
    if may = true then (if ownOk t (spansF f 48 0) (spansF g 48 0) = true then rOB t (spansF f 48 0) (spansF g 48 0) true else rOB t h d false)
    else rOB t h d false
  else rOB [] [] [] false
end Go.Ev

/- Answers: the reference's patches, drops, fills and writes. -/
set_option linter.unusedSimpArgs false
set_option linter.unusedVariables false
set_option maxRecDepth 100000
set_option maxHeartbeats 4000000
namespace Go.Ev
open Go.Proofs
abbrev Pt := Int × List UInt8
abbrev ptL (q : Pt) : List L := [.int .i64 q.1, .str q.2]
def subS (t : List UInt8) (s : Sp) : List UInt8 := (t.take s.2.toNat).drop s.1.toNat
def patF (t : List UInt8) (p : Sp) : List Sp → List Pt
  | [] => []
  | s :: d => if ltI (meetS s p).1 (meetS s p).2 = true then ((meetS s p).1, subS t (meetS s p)) :: patF t p d else patF t p d
theorem patF_len (t : List UInt8) (p : Sp) : ∀ d, (patF t p d).length ≤ d.length
  | [] => by simp [patF]
  | s :: d => by
    have := patF_len t p d
    simp only [patF]
    split <;> simp <;> omega
theorem meet_bd {s p : Sp} (hs : 0 ≤ s.1 ∧ s.1 < s.2 ∧ s.2 ≤ 48) (hp : 0 ≤ p.1 ∧ p.1 < p.2 ∧ p.2 ≤ 48) : 0 ≤ (meetS s p).1 ∧ (meetS s p).2 ≤ 48 ∧ 0 ≤ (meetS s p).2 ∧ (meetS s p).1 ≤ 48 := by
  simp only [meetS, maxI, minI]
  split <;> split <;> refine ⟨?_, ?_, ?_, ?_⟩ <;> (try dsimp only) <;> omega
end Go.Ev

/- Answers: the reference's drops, fills and writes. -/
set_option linter.unusedSimpArgs false
set_option linter.unusedVariables false
set_option maxRecDepth 100000
set_option maxHeartbeats 4000000
namespace Go.Ev
open Go.Proofs
theorem ownOk_t {t : List UInt8} {h d : List Sp} (e : ownOk t h d = true) : t.length = 48 ∧ spsOk h = true ∧ spsOk d = true ∧ t.all okB = true := by
  simp only [ownOk, Bool.and_eq_true, eqI_iff] at e
  exact ⟨by omega, e.1.1.2, e.1.2, e.1.1.1.1⟩
theorem overS_len (s x : List UInt8) (p : Sp) (h1 : 0 ≤ p.1) (h2 : p.1 ≤ p.2) (h4 : p.2 ≤ s.length) : (overS s p x).length = s.length - (p.2.toNat - p.1.toNat) + x.length := by
  simp only [overS, List.length_append, List.length_take, List.length_drop]
  omega
def dropS (t : List UInt8) (h d : List Sp) (p : Sp) : Out :=
  if ownOk t h d = true then
    if spOk p = true then
      if ltI 0 (patF t p d).length = true then rOB t h d false
      else if ownOk (overS t p (List.replicate (p.2 - p.1).toNat 46)) (cutS h p) d = true then rOB (overS t p (List.replicate (p.2 - p.1).toNat 46)) (cutS h p) d true else rOB t h d false
    else rOB t h d false
  else rOB [] [] [] false
def wrOk (k : Int) (x : List UInt8) : Bool := !ltI k 0 && !ltI 48 k && (x.all okB && !ltI 48 x.length) && !eqS x [] && !ltI 48 (k + x.length)
def writeS (t : List UInt8) (h d : List Sp) (k : Int) (x : List UInt8) : Out :=
  if ownOk t h d = true then
    if wrOk k x = true then
      if ownOk (overS t (k, k + x.length) x) (addS h (k, k + x.length)) (addS d (k, k + x.length)) = true then rOB (overS t (k, k + x.length) x) (addS h (k, k + x.length)) (addS d (k, k + x.length)) true else rOB t h d false
    else rOB t h d false
  else rOB [] [] [] false
end Go.Ev

/- Answers: the program's caches read and told. -/
set_option linter.unusedSimpArgs false
set_option linter.unusedVariables false
set_option maxRecDepth 100000
set_option maxHeartbeats 4000000
namespace Go.Ev
open Go.Proofs
theorem meetO_eq {s p : Sp} (hs : 0 ≤ s.1 ∧ s.1 < s.2 ∧ s.2 ≤ 48) (hp : 0 ≤ p.1 ∧ p.1 < p.2 ∧ p.2 ≤ 48) : meetO s p = ltI (meetS s p).1 (meetS s p).2 := by
  have hb := meet_bd hs hp
  have h1 : spOk s = true := spOk_iff.2 hs
  have h2 : spOk p = true := spOk_iff.2 hp
  simp only [meetO, h1, h2, Bool.true_and]
  rw [Bool.eq_iff_iff, spOk_iff, ltI_iff]
  omega
def patI (t : List UInt8) (h d : List Sp) (p : Sp) : List Pt := if ownOk t h d = true then (if spOk p = true then patF t p d else []) else []
def eqP (f g : Nat → Bool) : Bool := (List.range 48).all fun j => f j == g j
theorem cellsEq_bools (f g : Nat → Bool) : ∀ (xs : List Nat), cellsEq (xs.map fun i => L.bool (f i)) (xs.map fun i => L.bool (g i)) = some (xs.all fun j => f j == g j)
  | [] => rfl
  | x :: xs => by
    have := cellsEq_bools f g xs
    simp only [List.map_cons, cellsEq, leafEq, this, List.all_cons]
theorem cellsEq_pl (f g : Nat → Bool) : cellsEq (pl f) (pl g) = some (eqP f g) := cellsEq_bools f g (List.range 48)
theorem eqP_iff {f g : Nat → Bool} : eqP f g = true ↔ ∀ j, j < 48 → f j = g j := by
  simp [eqP, List.all_eq_true]
@[simp] theorem eqAgg_places : eqAgg Tryz.prog 78 = true := by kernel_rfl
@[simp] theorem shape_places (f : Nat → Bool) : shapeT Tryz.prog 8 78 (pl f) = true := by
  have : (pl f).all (leafFits TD.bool) = true := by simp [pl, leafFits]
  simp [shapeT, this]
def haveS (h : List Sp) (s : Sp) : Bool := spsOk h && spOk s && eqP (fun j => inF h j && inF [s] j) (inF [s])
def readS (t : List UInt8) (h d : List Sp) (s : Sp) : List UInt8 × Bool := if ownOk t h d = true then (if haveS h s = true then (subS t s, true) else ([], false)) else ([], false)
end Go.Ev

/- Answers: the reference's fills. -/
set_option linter.unusedSimpArgs false
set_option linter.unusedVariables false
set_option maxRecDepth 100000
set_option maxHeartbeats 4000000
namespace Go.Ev
open Go.Proofs
def fillT (d : List Sp) (x : List UInt8) (lo : Nat) : Nat → Nat → List UInt8 → List UInt8
  | 0, _, s => s
  | n + 1, i, s => fillT d x lo n (i + 1) (if inF d i = true then s else overS s ((i : Int), (i : Int) + 1) ((x.take (i - lo + 1)).drop (i - lo)))
def fillOk (p : Sp) (x : List UInt8) : Bool := spOk p && (x.all okB && !ltI 48 x.length) && eqI x.length (p.2 - p.1)
def fillS (t : List UInt8) (h d : List Sp) (p : Sp) (x : List UInt8) : Out :=
  if ownOk t h d = true then
    if fillOk p x = true then
      if ownOk (fillT d x p.1.toNat (p.2 - p.1).toNat p.1.toNat t) (addS h p) d = true then rOB (fillT d x p.1.toNat (p.2 - p.1).toNat p.1.toNat t) (addS h p) d true else rOB t h d false
    else rOB t h d false
  else rOB [] [] [] false
end Go.Ev

/- Draws: a number, one of a list. -/
set_option linter.unusedSimpArgs false
set_option linter.unusedVariables false
set_option maxRecDepth 100000
set_option maxHeartbeats 4000000
namespace Go.Ev
open Go.Proofs
abbrev rdL (bs : List UInt8) (p : Nat) : List L := [.sl (rowsOfBytes bs), .int .i64 p]
abbrev rdA (bs : List UInt8) (p : Nat) : Arg := .ptr .ro (rdL bs p)
abbrev rdO (bs : List UInt8) (p : Nat) : M × List L := (.ro, rdL bs p)
structure RdB (bs : List UInt8) (p : Nat) : Prop where
  b : bs.length ≤ 2000
  p : p ≤ 1099511627776
theorem rows_get {bs : List UInt8} {i : Nat} (h : i < bs.length) : (rowsOfBytes bs)[i]? = some [.int .u8 bs[i].toNat] := by simp [rowsOfBytes, h]
@[simp] theorem rows_len (bs : List UInt8) : (rowsOfBytes bs).length = bs.length := by simp [rowsOfBytes]
@[simp] theorem rows_getE {bs : List UInt8} {i : Nat} (h : i < (rowsOfBytes bs).length) : (rowsOfBytes bs)[i] = [.int .u8 (bs[i]'(by simpa using h)).toNat] := by simp [rowsOfBytes]
theorem xor64 (a b : Nat) (ha : a < 4611686018427387904) (hb : b < 4611686018427387904) : IntKind.i64.wrap ((BitVec.ofInt IntKind.i64.bits a ^^^ BitVec.ofInt IntKind.i64.bits b).toNat : Int) = ((a ^^^ b : Nat) : Int) := by
  have h1 : (BitVec.ofInt IntKind.i64.bits a ^^^ BitVec.ofInt IntKind.i64.bits b).toNat = a ^^^ b := by
    have e : IntKind.i64.bits = 64 := rfl
    rw [e, BitVec.toNat_xor, BitVec.toNat_ofInt, BitVec.toNat_ofInt]
    congr 1 <;> omega
  rw [h1]
  have h2 : a ^^^ b < 2 ^ 62 := Nat.xor_lt_two_pow (by omega) (by omega)
  rw [wrap64]
  omega
end Go.Ev

/- Draws: parts and bytes. -/
set_option linter.unusedSimpArgs false
set_option linter.unusedVariables false
set_option maxRecDepth 100000
set_option maxHeartbeats 4000000
namespace Go.Ev
open Go.Proofs
theorem RdB.add {bs : List UInt8} {p q : Nat} (b : RdB bs p) (h : p + q ≤ 1099511627776) : RdB bs (p + q) := ⟨b.b, h⟩
end Go.Ev

/- Draws: bytes. -/
set_option linter.unusedSimpArgs false
set_option linter.unusedVariables false
set_option maxRecDepth 100000
set_option maxHeartbeats 4000000
namespace Go.Ev
open Go.Proofs
abbrev adp (i : Nat) : AV := .ad (.p i) 0 0 0 []
abbrev rdH (bs : List UInt8) (p : Nat) : Root × HC := bxm (.p 0) .ro (rdL bs p)
end Go.Ev

/- Draws: bent bytes, bent parts, lists of parts. -/
set_option linter.unusedSimpArgs false
set_option linter.unusedVariables false
set_option maxRecDepth 100000
set_option maxHeartbeats 4000000
namespace Go.Ev
open Go.Proofs
end Go.Ev

/- Draws: lists of parts. -/
set_option linter.unusedSimpArgs false
set_option linter.unusedVariables false
set_option maxRecDepth 100000
set_option maxHeartbeats 4000000
namespace Go.Ev
open Go.Proofs
end Go.Ev

/- Draws: bent lists of parts, caches. -/
set_option linter.unusedSimpArgs false
set_option linter.unusedVariables false
set_option maxRecDepth 100000
set_option maxHeartbeats 4000000
namespace Go.Ev
open Go.Proofs
end Go.Ev

/- Draws: caches. -/
set_option linter.unusedSimpArgs false
set_option linter.unusedVariables false
set_option maxRecDepth 100000
set_option maxHeartbeats 4000000
namespace Go.Ev
open Go.Proofs
structure OB (t : List UInt8) (h d : List Sp) : Prop where
  t : t.length ≤ 1000
  h : h.length ≤ 1000
  d : d.length ≤ 1000
theorem OB.w {t : List UInt8} {h d : List Sp} (o : OB t h d) : OwB t h d := ⟨by have := o.t; omega, by have := o.h; omega, by have := o.d; omega⟩
theorem OB.ok {t : List UInt8} {h d : List Sp} (e : ownOk t h d = true) : OB t h d := by
  obtain ⟨h1, h2, h3, _⟩ := ownOk_t e
  have := spsOk_len h2
  have := spsOk_len h3
  exact ⟨by omega, by omega, by omega⟩
theorem OB.nil : OB [] [] [] := ⟨by simp, by simp, by simp⟩
theorem cleanS_ex {t : List UInt8} {h d : List Sp} (p : Sp) (o : OB t h d) : ∃ t' h' d' b', cleanS t h d p = rOB t' h' d' b' ∧ OB t' h' d' := by
  unfold cleanS
  split
  · split
    · split
      · rename_i e; exact ⟨_, _, _, _, rfl, .ok e⟩
      · exact ⟨_, _, _, _, rfl, o⟩
    · exact ⟨_, _, _, _, rfl, o⟩
  · exact ⟨_, _, _, _, rfl, .nil⟩
theorem dropS_ex {t : List UInt8} {h d : List Sp} (p : Sp) (o : OB t h d) : ∃ t' h' d' b', dropS t h d p = rOB t' h' d' b' ∧ OB t' h' d' := by
  unfold dropS
  split
  · split
    · split
      · exact ⟨_, _, _, _, rfl, o⟩
      · split
        · rename_i e; exact ⟨_, _, _, _, rfl, .ok e⟩
        · exact ⟨_, _, _, _, rfl, o⟩
    · exact ⟨_, _, _, _, rfl, o⟩
  · exact ⟨_, _, _, _, rfl, .nil⟩
theorem fillS_ex {t : List UInt8} {h d : List Sp} (p : Sp) (x : List UInt8) (o : OB t h d) : ∃ t' h' d' b', fillS t h d p x = rOB t' h' d' b' ∧ OB t' h' d' := by
  unfold fillS
  split
  · split
    · split
      · rename_i e; exact ⟨_, _, _, _, rfl, .ok e⟩
      · exact ⟨_, _, _, _, rfl, o⟩
    · exact ⟨_, _, _, _, rfl, o⟩
  · exact ⟨_, _, _, _, rfl, .nil⟩
theorem writeS_ex {t : List UInt8} {h d : List Sp} (k : Int) (x : List UInt8) (o : OB t h d) : ∃ t' h' d' b', writeS t h d k x = rOB t' h' d' b' ∧ OB t' h' d' := by
  unfold writeS
  split
  · split
    · split
      · rename_i e; exact ⟨_, _, _, _, rfl, .ok e⟩
      · exact ⟨_, _, _, _, rfl, o⟩
    · exact ⟨_, _, _, _, rfl, o⟩
  · exact ⟨_, _, _, _, rfl, .nil⟩
abbrev zOw : List L := [.str [], .sl [], .sl []]
end Go.Ev

/- Draws: a cache and a part. -/
set_option linter.unusedSimpArgs false
set_option linter.unusedVariables false
set_option maxRecDepth 100000
set_option maxHeartbeats 4000000
namespace Go.Ev
open Go.Proofs
end Go.Ev

/- The law: cleaning keeps the data. -/
set_option linter.unusedSimpArgs false
set_option linter.unusedVariables false
set_option maxRecDepth 100000
set_option maxHeartbeats 4000000
namespace Go.Ev
open Go.Proofs
structure OC (t : List UInt8) (h d : List Sp) : Prop where
  t : t.length ≤ 2000
  h : h.length ≤ 2000
  d : d.length ≤ 2000
theorem OC.w {t : List UInt8} {h d : List Sp} (o : OC t h d) : OwB t h d := ⟨by have := o.t; omega, by have := o.h; omega, by have := o.d; omega⟩
/-- The program's way and the reference's come to the same. -/
theorem clean_eq (t : List UInt8) (h d : List Sp) (p : Sp) : chgI t h d (spOk p) (inF h) (fun j => if inF [p] j = true then false else inF d j) = cleanS t h d p := by
  unfold chgI cleanS
  cases e : ownOk t h d with
  | false => rfl
  | true =>
    obtain ⟨_, hsh, _, _⟩ := ownOk_t e
    have h1 : spansF (inF h) 48 0 = h := by rw [spans_of (g := inF h) (fun j _ => rfl)]; exact of_self hsh fun j _ => rfl
    have h2 : spansF (fun j => if inF [p] j = true then false else inF d j) 48 0 = cutS d p := spans_of fun j _ => by simp [inF]
    rw [h1, h2]
theorem cutS_get (d : List Sp) (p : Sp) (j : Nat) (hj : j < 48) : inF (cutS d p) j = (!inSp j p && inF d j) := by
  have := (of_can fun j => if inSp j p = true then false else d.any (inSp j)).2 j hj
  rw [cutS, this]
  cases inSp j p <;> simp [inF]
theorem maxI_ge (a b : Int) : a ≤ maxI a b ∧ b ≤ maxI a b := by
  simp only [maxI, ltI, decide_eq_true_eq]
  split <;> omega
theorem minI_le (a b : Int) : minI a b ≤ a ∧ minI a b ≤ b := by
  simp only [minI, ltI, decide_eq_true_eq]
  split <;> omega
theorem patF_cut (t : List UInt8) (p : Sp) (hp : 0 ≤ p.1 ∧ p.1 < p.2 ∧ p.2 ≤ 48) : ∀ (d : List Sp), (∀ s ∈ d, (0 ≤ s.1 ∧ s.1 < s.2 ∧ s.2 ≤ 48) ∧ ∀ j : Nat, s.1 ≤ j → (j : Int) < s.2 → inSp j p = false) → patF t p d = []
  | [], _ => rfl
  | s :: d, h => by
    obtain ⟨hs, hj⟩ := h s (by simp)
    have e : ltI (meetS s p).1 (meetS s p).2 = false := by
      rw [ltI_not]
      apply Classical.byContradiction
      intro hn
      have hlt : (meetS s p).1 < (meetS s p).2 := by omega
      have hb := meet_bd hs hp
      obtain ⟨j, hj0⟩ : ∃ j : Nat, (meetS s p).1 = j := ⟨(meetS s p).1.toNat, by omega⟩
      have hm : s.1 ≤ (j : Int) ∧ p.1 ≤ (j : Int) ∧ (j : Int) < s.2 ∧ (j : Int) < p.2 := by
        have m1 := maxI_ge s.1 p.1
        have m2 := minI_le s.2 p.2
        simp only [meetS] at hj0 hlt
        omega
      have := hj j hm.1 hm.2.2.1
      simp [inSp, ltI] at this
      omega
    simp only [patF, e]
    exact patF_cut t p hp d fun q hq => h q (by simp [hq])
theorem OC.ok {t : List UInt8} {h d : List Sp} (e : ownOk t h d = true) : OC t h d := by
  obtain ⟨h1, h2, h3, _⟩ := ownOk_t e
  have := spsOk_len h2
  have := spsOk_len h3
  exact ⟨by omega, by omega, by omega⟩
end Go.Ev

/- Answers: the program's file contents. -/
set_option linter.unusedSimpArgs false
set_option linter.unusedVariables false
set_option maxRecDepth 100000
set_option maxHeartbeats 4000000
namespace Go.Ev
open Go.Proofs
theorem repeatL_dot : ∀ n, Lib.repeatL [46] n = List.replicate n 46
  | 0 => rfl
  | n + 1 => by rw [Lib.repeatL, repeatL_dot n]; rfl
theorem ev_Repeat (m m' : M) (k : Nat) (hk : k ≤ 8200000) : ev E 74 [.v m false [.str [46]], .v m' false [.int .i64 (k : Int)]] = some { rs := [.v .own false [.str (List.replicate k 46)]], outs := [] } := by
  rw [ev_eq]
  have q0 : (0 : Int) ≤ (k : Int) := by omega
  have q4 : (k : Int) ≤ 9223372036854775807 := by omega
  have q2 : k ≤ 140737488355328 := by omega
  simp [repK, q0, q4, q2, repeatL_dot, leafOut]
def txtOk (s : List UInt8) : Bool := s.all okB && !ltI 48 s.length
theorem txtOk_len {s : List UInt8} (h : txtOk s = true) : s.length ≤ 48 := by
  simp only [txtOk, Bool.and_eq_true, Bool.not_eq_true', ltI_not] at h
  omega
def sizedS (s : List UInt8) (n : Nat) : List UInt8 := if ltI s.length n = true then s ++ List.replicate (n - s.length) 46 else s.take n
theorem ev_sized (m m' : M) (s : List UInt8) (n : Nat) (hn : n ≤ 8200000) (hs : s.length ≤ 4000000) : ev E 109 [.v m false [.str s], .v m' false [.int .i64 n]] = some { rs := [.v .own false [.str (sizedS s n)]], outs := [] } := by
  rw [ev_fn Tryz.f109 rfl Tryz.func109 rfl rfl rfl (Nat.le_of_ble_eq_true rfl)]
  cases e : ltI s.length n
  · have h1 := ltI_not.1 e
    have h2 : n ≤ s.length := by omega
    simp [e, sizedS, h2]
  · have h1 := ltI_iff.1 e
    have hw : IntKind.i64.wrap ((n : Int) - s.length) = ((n - s.length : Nat) : Int) := by rw [wrap64] <;> omega
    have q1 : n - s.length ≤ 9223372036854775807 := by omega
    have q3 : s.length + (n - s.length) ≤ 4611686018427387904 := by omega
    have c := fun m m' => ev_Repeat m m' (n - s.length) (by omega)
    generalize hk : n - s.length = k at *
    simp [e, sizedS, hw, c, q3, hk]
def wrS (s : List UInt8) (k : Nat) (x : List UInt8) : List UInt8 := (s ++ List.replicate (k - s.length) 46).take k ++ x ++ s.drop (k + x.length)
theorem wrS_sized (s x : List UInt8) (k : Nat) : (sizedS s (max s.length (k + x.length))).take k ++ x ++ s.drop (min (k + x.length) s.length) = wrS s k x := by
  unfold wrS sizedS
  congr 1
  · congr 1
    split
    · rename_i h
      rw [ltI_iff] at h
      apply List.ext_getElem?
      intro j
      simp only [List.getElem?_take, List.getElem?_append, List.getElem?_replicate]
      grind
    · rename_i h
      rw [Bool.not_eq_true, ltI_not] at h
      apply List.ext_getElem?
      intro j
      simp only [List.getElem?_take, List.getElem?_append, List.getElem?_replicate]
      grind
  · apply List.ext_getElem?
    intro j
    simp only [List.getElem?_drop]
    by_cases h : k + x.length ≤ s.length
    · rw [Nat.min_eq_left h]
    · rw [Nat.min_eq_right (by omega), List.getElem?_eq_none (by omega), List.getElem?_eq_none (by omega)]
theorem wrS_len (s x : List UInt8) (k : Nat) : (wrS s k x).length = max s.length (k + x.length) := by
  simp [wrS]
  omega
def twS (s : List UInt8) (k : Int) (x : List UInt8) : List UInt8 × Bool := if txtOk s = true then (if wrOk k x = true then (wrS s k.toNat x, true) else (s, false)) else ([], false)
theorem ev_impl_TextWrite (m m' m'' : M) (s x : List UInt8) (k : Int) (hs : s.length ≤ 4000000) (hx : x.length ≤ 4000000) : ev E 81 [.v m false [.str s], .v m' false [.int .i64 k], .v m'' false [.str x]] = some { rs := [.v .own false [.str (twS s k x).1], .v .own false [.bool (twS s k x).2]], outs := [] } := by
  have c1 : ∀ m, ev E 70 [.v m false [.str s]] = some (rB (txtOk s)) := fun m => ev_impl_TextOk m s (by omega)
  have c2 : ∀ m, ev E 70 [.v m false [.str x]] = some (rB (txtOk x)) := fun m => ev_impl_TextOk m x (by omega)
  have hwr : wrOk k x = (!ltI k 0 && !ltI 48 k && txtOk x && !eqS x [] && !ltI 48 (k + x.length)) := rfl
  by_cases hk : 0 ≤ k ∧ k ≤ 48
  · obtain ⟨n, rfl⟩ : ∃ n : Nat, k = n := ⟨k.toNat, by omega⟩
    have f1 : ltI n 0 = false := ltI_not.2 (by omega)
    have f2 : ltI 48 n = false := ltI_not.2 (by omega)
    have hw : IntKind.i64.wrap ((n : Int) + x.length) = ((n + x.length : Nat) : Int) := by rw [wrap64] <;> omega
    have hm : maxI s.length ((n : Int) + x.length) = ((max s.length (n + x.length) : Nat) : Int) := by simp only [maxI, ltI, decide_eq_true_eq]; split <;> omega
    have hmi : minI ((n : Int) + x.length) s.length = ((min (n + x.length) s.length : Nat) : Int) := by simp only [minI, ltI, decide_eq_true_eq]; split <;> omega
    have c3 := fun m m' => ev_sized m m' s (max s.length (n + x.length)) (by omega) hs
    have hl : (sizedS s (max s.length (n + x.length))).length = max s.length (n + x.length) := by
      unfold sizedS
      split
      · rename_i h; rw [ltI_iff] at h; simp; omega
      · rename_i h; rw [Bool.not_eq_true, ltI_not] at h; simp; omega
    have hws := wrS_sized s x n
    generalize sizedS s (max s.length (n + x.length)) = z at c3 hl hws
    rw [ev_fn Tryz.f81 rfl Tryz.func81 rfl rfl rfl (Nat.le_of_ble_eq_true rfl)]
    cases e1 : txtOk s
    · simp [c1, e1, twS]
    · cases e5 : eqS x []
      · cases e4 : txtOk x
        · simp [c1, c2, f1, f2, e1, e4, e5, twS, hwr]
        · have hx48 := txtOk_len e4
          have hs48 := txtOk_len e1
          have g1 : (n : Int) ≤ (max s.length (n + x.length) : Nat) := by omega
          have g2 : n ≤ max s.length (n + x.length) := by omega
          have g3 : min (n + x.length) s.length ≤ s.length := by omega
          have g4 : n + x.length ≤ 4611686018427387904 := by omega
          have g5 : n + (x.length + (s.length - min (n + x.length) s.length)) ≤ 4611686018427387904 := by omega
          have g6 : n + x.length + (s.length - min (n + x.length) s.length) ≤ 4611686018427387904 := by omega
          generalize hmx : max s.length (n + x.length) = mx at *
          generalize hmn : min (n + x.length) s.length = mn at *
          cases e6 : ltI 48 (n + x.length)
          · simp [c1, c2, f1, f2, e1, e4, e5, e6, hw, maxJ, minJ, hm, hmi, c3, hl, twS, hwr, g1, g2, g3, g4, g5, g6, ← hws]
          · simp [c1, c2, f1, f2, e1, e4, e5, e6, hw, twS, hwr]
      · simp [c1, f1, f2, e1, e5, twS, hwr]
  · have hb : wrOk k x = false := by
      rw [hwr]
      by_cases h0 : 0 ≤ k
      · rw [(ltI_iff.2 (by omega) : ltI 48 k = true)]; simp
      · rw [(ltI_iff.2 (by omega) : ltI k 0 = true)]; simp
    rw [ev_fn Tryz.f81 rfl Tryz.func81 rfl rfl rfl (Nat.le_of_ble_eq_true rfl)]
    cases e1 : txtOk s
    · simp [c1, e1, twS]
    · cases e2 : ltI k 0
      · have e3 : ltI 48 k = true := ltI_iff.2 (by have := ltI_not.1 e2; omega)
        simp [c1, e1, e2, e3, twS, hb]
      · simp [c1, e1, e2, twS, hb]
end Go.Ev

/- Answers: patches put one behind the other. -/
set_option linter.unusedSimpArgs false
set_option linter.unusedVariables false
set_option maxRecDepth 100000
set_option maxHeartbeats 4000000
namespace Go.Ev
open Go.Proofs
def taF (s : List UInt8) : List Pt → Option (List UInt8)
  | [] => some s
  | q :: qs => if (twS s q.1 q.2).2 = true then taF (twS s q.1 q.2).1 qs else none
theorem twS_ok {s : List UInt8} {k : Int} {x : List UInt8} (h : (twS s k x).2 = true) : txtOk s = true ∧ wrOk k x = true ∧ twS s k x = (wrS s k.toNat x, true) := by
  unfold twS at h ⊢
  cases e1 : txtOk s <;> cases e2 : wrOk k x <;> simp [e1, e2] at h ⊢
theorem wrOk_len {k : Int} {x : List UInt8} (h : wrOk k x = true) : 0 ≤ k ∧ k + x.length ≤ 48 ∧ 0 < x.length ∧ x.all okB = true := by
  simp only [wrOk, Bool.and_eq_true, Bool.not_eq_true', ltI_not, eqS_not] at h
  have := List.length_pos_iff.2 h.1.2
  exact ⟨by omega, by omega, this, h.1.1.2.1⟩
theorem txtOk_wr {s : List UInt8} {k : Int} {x : List UInt8} (h1 : txtOk s = true) (h2 : wrOk k x = true) : txtOk (wrS s k.toNat x) = true := by
  obtain ⟨a1, a2, a3, a4⟩ := wrOk_len h2
  have hs := txtOk_len h1
  simp only [txtOk, Bool.and_eq_true, Bool.not_eq_true', ltI_not] at h1 ⊢
  refine ⟨?_, by rw [wrS_len]; omega⟩
  have h46 : okB 46 = true := by decide
  rw [List.all_eq_true] at h1 a4 ⊢
  intro c hc
  simp only [wrS, List.mem_append] at hc
  rcases hc with (hc | hc) | hc
  · have := List.mem_of_mem_take hc
    rcases List.mem_append.1 this with hc | hc
    · exact h1.1 c hc
    · rw [(List.mem_replicate.1 hc).2]; exact h46
  · exact a4 c hc
  · exact h1.1 c (List.mem_of_mem_drop hc)
end Go.Ev

/- The law: unsaved writes are told exactly. -/
set_option linter.unusedSimpArgs false
set_option linter.unusedVariables false
set_option maxRecDepth 100000
set_option maxHeartbeats 4000000
namespace Go.Ev
open Go.Proofs
theorem wrS_get (s x : List UInt8) (k i : Nat) : (wrS s k x)[i]? = if k ≤ i ∧ i < k + x.length then x[i - k]? else if i < s.length then s[i]? else if i < k then some 46 else none := by
  simp only [wrS, List.getElem?_append, List.getElem?_take, List.getElem?_drop, List.getElem?_replicate, List.length_append, List.length_take, List.length_replicate]
  grind
theorem subS_get (t : List UInt8) (a b i : Nat) (h : a + i < b) : (subS t ((a : Int), (b : Int)))[i]? = t[a + i]? := by
  simp only [subS, List.getElem?_drop, Int.toNat_natCast]
  rw [List.getElem?_take_of_lt h]
theorem wrOk_of {t : List UInt8} (ht : t.length = 48) (hok : t.all okB = true) {a b : Nat} (h1 : a < b) (h2 : b ≤ 48) : wrOk a (subS t ((a : Int), (b : Int))) = true := by
  have hl : (subS t ((a : Int), (b : Int))).length = b - a := by simp [subS]; omega
  simp only [wrOk, Bool.and_eq_true, Bool.not_eq_true', ltI_not, eqS_not, hl]
  refine ⟨⟨⟨⟨by omega, by omega⟩, ?_, by omega⟩, fun e => ?_⟩, by omega⟩
  · rw [List.all_eq_true] at hok ⊢
    exact fun c hc => hok c (List.mem_of_mem_take (List.mem_of_mem_drop hc))
  · rw [e] at hl
    simp at hl
    omega
theorem bool_pass {a b : Bool} (c : Bool) (h : (a && b) = false) : (b && (a || c)) = (b && c) := by cases a <;> cases b <;> simp_all
theorem taF_pat (t : List UInt8) (p : Sp) (ht : t.length = 48) (hok : t.all okB = true) (hp : 0 ≤ p.1 ∧ p.1 < p.2 ∧ p.2 ≤ 48) : ∀ (ds : List Sp) (z : List UInt8), (∀ s ∈ ds, 0 ≤ s.1 ∧ s.1 < s.2 ∧ s.2 ≤ 48) → txtOk z = true →
    ∃ o, taF z (patF t p ds) = some o ∧ txtOk o = true ∧ ∀ i, i < o.length → o[i]? = some (if (inSp i p && inF ds i) = true then t.getD i 0 else z.getD i 46)
  | [], z, _, hz => ⟨z, rfl, hz, fun i hi => by simp [inF, hi]⟩
  | s :: ds, z, hd, hz => by
    have hs := hd s (by simp)
    have hb := meet_bd hs hp
    rw [patF]
    have hm1 := maxI_ge s.1 p.1
    have hm2 := minI_le s.2 p.2
    have hme : (meetS s p).1 = maxI s.1 p.1 ∧ (meetS s p).2 = minI s.2 p.2 := ⟨rfl, rfl⟩
    have hin : ∀ i : Nat, inSp i (meetS s p) = (inSp i s && inSp i p) := fun i => by
      rw [Bool.eq_iff_iff, Bool.and_eq_true, inSp_iff, inSp_iff, inSp_iff, hme.1, hme.2]
      simp only [maxI, minI, ltI, decide_eq_true_eq]
      constructor
      · intro ⟨h1, h2⟩; split at h1 <;> split at h2 <;> omega
      · intro h; constructor <;> split <;> omega
    cases e : ltI (meetS s p).1 (meetS s p).2
    · obtain ⟨o, h1, h2, h3⟩ := taF_pat t p ht hok hp ds z (fun q hq => hd q (by simp [hq])) hz
      refine ⟨o, h1, h2, fun i hi => ?_⟩
      rw [h3 i hi]
      have : inSp i (meetS s p) = false := by
        rw [← Bool.not_eq_true, inSp_iff]
        rw [ltI_not] at e
        omega
      rw [hin i] at this
      have e5 : (inSp i p && inF (s :: ds) i) = (inSp i p && inF ds i) := bool_pass _ this
      simp only [e5]
    · rw [ltI_iff] at e
      obtain ⟨a, ha⟩ : ∃ a : Nat, (meetS s p).1 = a := ⟨(meetS s p).1.toNat, by omega⟩
      obtain ⟨b, hbb⟩ : ∃ b : Nat, (meetS s p).2 = b := ⟨(meetS s p).2.toNat, by omega⟩
      have hms : meetS s p = ((a : Int), (b : Int)) := Prod.ext ha hbb
      rw [hms] at hin e hb ⊢
      dsimp only at e hb
      have hw := wrOk_of ht hok (a := a) (b := b) (by omega) (by omega)
      have htw : twS z a (subS t ((a : Int), (b : Int))) = (wrS z a (subS t ((a : Int), (b : Int))), true) := by simp only [twS, hz, hw, if_true, Int.toNat_natCast]
      have hzw := txtOk_wr hz hw
      rw [Int.toNat_natCast] at hzw
      obtain ⟨o, h1, h2, h3⟩ := taF_pat t p ht hok hp ds _ (fun q hq => hd q (by simp [hq])) hzw
      refine ⟨o, ?_, h2, fun i hi => ?_⟩
      · simp only [if_true, taF, htw]; exact h1
      · rw [h3 i hi]
        have hl : (subS t ((a : Int), (b : Int))).length = b - a := by simp [subS]; omega
        have hi48 := txtOk_len h2
        have hini := hin i
        have hab : inSp i ((a : Int), (b : Int)) = true ↔ a ≤ i ∧ i < b := by rw [inSp_iff]; dsimp only; omega
        have hget := wrS_get z (subS t ((a : Int), (b : Int))) a i
        rw [hl] at hget
        congr 1
        have e4 : inF (s :: ds) i = (inSp i s || inF ds i) := rfl
        by_cases hc : a ≤ i ∧ i < b
        · rw [if_pos (by omega), subS_get t a b _ (by omega), show a + (i - a) = i by omega] at hget
          rw [hab.2 hc] at hini
          have hini := hini.symm
          rw [Bool.and_eq_true] at hini
          simp only [e4, hini.1, hini.2, Bool.true_or, Bool.and_self, Bool.true_and, if_true, List.getD_eq_getElem?_getD, hget]
          rw [List.getElem?_eq_getElem (by omega)]
          simp
        · have hf : inSp i ((a : Int), (b : Int)) = false := by rw [← Bool.not_eq_true, hab]; exact hc
          rw [hf] at hini
          rw [if_neg (by omega)] at hget
          have hz2 : (wrS z a (subS t ((a : Int), (b : Int)))).getD i 46 = z.getD i 46 := by
            rw [List.getD_eq_getElem?_getD, List.getD_eq_getElem?_getD, hget]
            split
            · rfl
            · rename_i h
              rw [List.getElem?_eq_none (by omega : z.length ≤ i)]
              split <;> rfl
          have e5 : (inSp i p && inF (s :: ds) i) = (inSp i p && inF ds i) := bool_pass _ hini.symm
          simp only [hz2, e5]
theorem eq_pt (q r : Pt) : cellsEq (ptL q) (ptL r) = some (eqI q.1 r.1 && eqS q.2 r.2) := by simp
end Go.Ev

/- Plain words: stores, requests, pieces of a file. No program in sight. -/
set_option linter.unusedSimpArgs false
set_option linter.unusedVariables false
namespace Go.Ev
abbrev Bs := List UInt8
structure ReqT where
  who : Int
  epoch : Int
  num : Int
  obj : Int
  pos : Int
  data : Bs
structure StoreT where
  now : List Bs
  sure : List Bs
  last : List Int
  slast : List Int
  floors : List Int
def whoOk (k : Int) : Bool := !ltI k 0 && ltI k 3
def reqOk (q : ReqT) : Bool := whoOk q.who && !ltI q.epoch 0 && !ltI 100 q.epoch && !ltI q.num 1 && !ltI 1000 q.num && !ltI q.obj 0 && ltI q.obj 3 && wrOk q.pos q.data
def numsOk (s : StoreT) (i : Nat) : Bool := !ltI (s.slast.getD i 0) 0 && !ltI (s.last.getD i 0) (s.slast.getD i 0) && !ltI 1000 (s.last.getD i 0) && !ltI (s.floors.getD i 0) 0 && !ltI 100 (s.floors.getD i 0)
def textsOk (xs : List Bs) : Bool := xs.all txtOk && eqI xs.length 3
def storeOk (s : StoreT) : Bool := textsOk s.now && textsOk s.sure && eqI s.last.length 3 && eqI s.slast.length 3 && eqI s.floors.length 3 && allTo (numsOk s) 3 0
def storeDo (s : StoreT) (q : ReqT) : StoreT × Int :=
  if reqOk q = true then
    if ltI q.epoch (s.floors.getD q.who.toNat 0) = true then (s, 2)
    else if ltI (s.last.getD q.who.toNat 0) q.num = true then
      if ltI (s.last.getD q.who.toNat 0 + 1) q.num = true then (s, 4)
      else ({ s with now := s.now.set q.obj.toNat (wrS (s.now.getD q.obj.toNat []) q.pos.toNat q.data), last := s.last.set q.who.toNat q.num }, 0)
    else (s, 3)
  else (s, 1)
def storeAll (s : StoreT) : List ReqT → StoreT × List Int
  | [] => (s, [])
  | q :: qs => ((storeAll (storeDo s q).1 qs).1, (storeDo s q).2 :: (storeAll (storeDo s q).1 qs).2)
def storeSync (s : StoreT) : StoreT := { s with sure := s.now, slast := s.last }
def storeFall (s : StoreT) : StoreT := { s with now := s.sure, last := s.slast }
def storeFence (s : StoreT) (who : Nat) (e : Int) : StoreT := { s with floors := s.floors.set who (maxI (s.floors.getD who 0) e) }
/-- Of the store, for sure. -/
structure StoreP (s : StoreT) : Prop where
  now : s.now.length = 3
  nowT : ∀ x ∈ s.now, txtOk x = true
  sure : s.sure.length = 3
  sureT : ∀ x ∈ s.sure, txtOk x = true
  last : s.last.length = 3
  slast : s.slast.length = 3
  floors : s.floors.length = 3
  nums : ∀ i, i < 3 → 0 ≤ s.slast.getD i 0 ∧ s.slast.getD i 0 ≤ s.last.getD i 0 ∧ s.last.getD i 0 ≤ 1000 ∧ 0 ≤ s.floors.getD i 0 ∧ s.floors.getD i 0 ≤ 100
theorem eqI3 {n : Nat} : eqI n 3 = true ↔ n = 3 := by rw [eqI_iff]; omega
theorem storeOk_iff {s : StoreT} : storeOk s = true ↔ StoreP s := by
  simp only [storeOk, textsOk, Bool.and_eq_true, eqI3, allTo_iff, List.all_eq_true]
  constructor
  · rintro ⟨⟨⟨⟨⟨⟨h1, h2⟩, ⟨h3, h4⟩⟩, h5⟩, h6⟩, h7⟩, h8⟩
    refine ⟨h2, h1, h4, h3, h5, h6, h7, fun i hi => ?_⟩
    have := h8 i (Nat.zero_le i) (by omega)
    simp only [numsOk, Bool.and_eq_true, Bool.not_eq_true', ltI_not] at this
    omega
  · intro h
    refine ⟨⟨⟨⟨⟨⟨h.nowT, h.now⟩, ⟨h.sureT, h.sure⟩⟩, h.last⟩, h.slast⟩, h.floors⟩, fun i _ hi => ?_⟩
    have := h.nums i (by omega)
    simp only [numsOk, Bool.and_eq_true, Bool.not_eq_true', ltI_not]
    omega
structure ReqP (q : ReqT) : Prop where
  who : 0 ≤ q.who ∧ q.who < 3
  epoch : 0 ≤ q.epoch ∧ q.epoch ≤ 100
  num : 1 ≤ q.num ∧ q.num ≤ 1000
  obj : 0 ≤ q.obj ∧ q.obj < 3
  wr : wrOk q.pos q.data = true
theorem reqOk_iff {q : ReqT} : reqOk q = true ↔ ReqP q := by
  simp only [reqOk, whoOk, Bool.and_eq_true, Bool.not_eq_true', ltI_not, ltI_iff]
  constructor
  · rintro ⟨⟨⟨⟨⟨⟨⟨⟨h1, h2⟩, h3⟩, h4⟩, h5⟩, h6⟩, h7⟩, h8⟩, h9⟩
    exact ⟨⟨h1, h2⟩, ⟨h3, h4⟩, ⟨h5, h6⟩, ⟨h7, h8⟩, h9⟩
  · intro h
    exact ⟨⟨⟨⟨⟨⟨⟨⟨h.who.1, h.who.2⟩, h.epoch.1⟩, h.epoch.2⟩, h.num.1⟩, h.num.2⟩, h.obj.1⟩, h.obj.2⟩, h.wr⟩
/-- A request that is done. -/
theorem storeDo_fine {s : StoreT} {q : ReqT} (h : (storeDo s q).2 = 0) : ReqP q ∧ s.floors.getD q.who.toNat 0 ≤ q.epoch ∧ q.num = s.last.getD q.who.toNat 0 + 1 ∧
    storeDo s q = ({ s with now := s.now.set q.obj.toNat (wrS (s.now.getD q.obj.toNat []) q.pos.toNat q.data), last := s.last.set q.who.toNat q.num }, 0) := by
  unfold storeDo at h ⊢
  cases e1 : reqOk q
  · simp only [e1, Bool.false_eq_true, if_false] at h; exact absurd h (by decide)
  · cases e2 : ltI q.epoch (s.floors.getD q.who.toNat 0)
    · cases e3 : ltI (s.last.getD q.who.toNat 0) q.num
      · simp only [e1, e2, e3, Bool.false_eq_true, if_false, if_true] at h; exact absurd h (by decide)
      · cases e4 : ltI (s.last.getD q.who.toNat 0 + 1) q.num
        · rw [ltI_not] at e2 e4
          rw [ltI_iff] at e3
          exact ⟨reqOk_iff.1 e1, e2, by omega, by simp only [Bool.false_eq_true, if_false, if_true]⟩
        · simp only [e1, e2, e3, e4, Bool.false_eq_true, if_false, if_true] at h; exact absurd h (by decide)
    · simp only [e1, e2, if_true] at h; exact absurd h (by decide)
theorem getD_set {α : Type} (xs : List α) (i j : Nat) (a d : α) : (xs.set i a).getD j d = if i = j ∧ j < xs.length then a else xs.getD j d := by
  simp only [List.getD_eq_getElem?_getD, List.getElem?_set]
  by_cases h : i = j
  · subst h
    by_cases h2 : i < xs.length
    · simp [h2]
    · simp [h2, List.getElem?_eq_none (by omega : xs.length ≤ i)]
  · simp [h]
theorem storeDo_ok {s : StoreT} (q : ReqT) (h : StoreP s) : StoreP (storeDo s q).1 := by
  by_cases hc : (storeDo s q).2 = 0
  · obtain ⟨h1, h2, h3, h4⟩ := storeDo_fine hc
    rw [h4]
    obtain ⟨ho1, ho2⟩ := h1.obj
    obtain ⟨hw1, hw2⟩ := h1.who
    refine ⟨by simpa using h.now, fun x hx => ?_, h.sure, h.sureT, by simpa using h.last, h.slast, h.floors, fun i hi => ?_⟩
    · rcases List.mem_or_eq_of_mem_set hx with hx | rfl
      · exact h.nowT x hx
      · refine txtOk_wr (h.nowT _ ?_) h1.wr
        have : q.obj.toNat < s.now.length := by rw [h.now]; omega
        rw [List.getD_eq_getElem?_getD, List.getElem?_eq_getElem this]
        exact List.getElem_mem this
    · have := h.nums i hi
      simp only [getD_set]
      split
      · rename_i hi2
        obtain ⟨rfl, _⟩ := hi2
        have := h1.num
        omega
      · exact this
  · have : (storeDo s q).1 = s := by
      unfold storeDo at hc ⊢
      repeat' split
      all_goals first | rfl | skip
      rename_i a b c d
      rw [if_pos a, if_neg b, if_pos c, if_neg d] at hc
      exact absurd rfl hc
    rw [this]; exact h
theorem storeAll_ok {s : StoreT} : ∀ (qs : List ReqT) {s : StoreT}, StoreP s → StoreP (storeAll s qs).1
  | [], s, h => h
  | q :: qs, s, h => storeAll_ok (s := s) qs (storeDo_ok q h)
theorem storeDo_keeps (s : StoreT) (q : ReqT) : (storeDo s q).1.sure = s.sure ∧ (storeDo s q).1.slast = s.slast ∧ (storeDo s q).1.floors = s.floors := by
  unfold storeDo
  split
  · split
    · exact ⟨rfl, rfl, rfl⟩
    · split
      · split <;> exact ⟨rfl, rfl, rfl⟩
      · exact ⟨rfl, rfl, rfl⟩
  · exact ⟨rfl, rfl, rfl⟩
theorem storeAll_keeps : ∀ (qs : List ReqT) (s : StoreT), (storeAll s qs).1.sure = s.sure ∧ (storeAll s qs).1.slast = s.slast ∧ (storeAll s qs).1.floors = s.floors
  | [], s => ⟨rfl, rfl, rfl⟩
  | q :: qs, s => by
    obtain ⟨h1, h2, h3⟩ := storeAll_keeps qs (storeDo s q).1
    obtain ⟨g1, g2, g3⟩ := storeDo_keeps s q
    exact ⟨h1.trans g1, h2.trans g2, h3.trans g3⟩
theorem storeAll_len : ∀ (qs : List ReqT) (s : StoreT), (storeAll s qs).2.length = qs.length
  | [], s => rfl
  | q :: qs, s => by simp [storeAll, storeAll_len qs]
theorem storeAll_app : ∀ (qs rs : List ReqT) (s : StoreT), storeAll s (qs ++ rs) = ((storeAll (storeAll s qs).1 rs).1, (storeAll s qs).2 ++ (storeAll (storeAll s qs).1 rs).2)
  | [], rs, s => rfl
  | q :: qs, rs, s => by simp [storeAll, storeAll_app qs rs]
theorem storeFall_all (s : StoreT) (qs : List ReqT) : storeFall (storeAll s qs).1 = storeFall s := by
  obtain ⟨h1, h2, h3⟩ := storeAll_keeps qs s
  simp [storeFall, h1, h2, h3]
def fineAll (cs : List Int) : Prop := ∀ c ∈ cs, c = 0
/-! ### where a place of the file lies -/
def objOf (size many j : Nat) : Nat := j / size % many
def posOf (size many j : Nat) : Nat := j / size / many * size + j % size
theorem lay_inj {size many j k : Nat} (hs : 0 < size) (hm : 0 < many) (h1 : objOf size many j = objOf size many k) (h2 : posOf size many j = posOf size many k) : j = k := by
  unfold objOf posOf at *
  have a1 := Nat.mod_lt j hs
  have a2 := Nat.mod_lt k hs
  have b1 := Nat.div_add_mod j size
  have b2 := Nat.div_add_mod k size
  have c1 := Nat.div_add_mod (j / size) many
  have c2 := Nat.div_add_mod (k / size) many
  have e1 : j % size = k % size := by
    have := congrArg (· % size) h2
    simpa [Nat.mul_add_mod_self_right] using this
  have e2 : j / size / many * size = k / size / many * size := by omega
  have e3 : j / size / many = k / size / many := Nat.eq_of_mul_eq_mul_right hs e2
  rw [e3, h1] at c1
  have e4 : j / size = k / size := by omega
  rw [e4, e1] at b1
  omega
theorem pos_le {size many j : Nat} (hs : 0 < size) (hm : 0 < many) : posOf size many j ≤ j := by
  unfold posOf
  have b1 := Nat.div_add_mod j size
  have : j / size / many * size ≤ j / size * size := Nat.mul_le_mul_right _ (Nat.div_le_self _ _)
  rw [Nat.mul_comm (j / size)] at this
  omega
/-- Places of one piece lie one behind the other. -/
theorem lay_run {size many a d : Nat} (hs : 0 < size) (h : a % size + d < size) : objOf size many (a + d) = objOf size many a ∧ posOf size many (a + d) = posOf size many a + d := by
  have e1 : (a + d) / size = a / size := by
    have b1 := Nat.div_add_mod a size
    refine Nat.div_eq_of_lt_le ?_ ?_
    · rw [Nat.mul_comm]; omega
    · rw [Nat.succ_mul, Nat.mul_comm]; omega
  have e2 : (a + d) % size = a % size + d := by
    have b1 := Nat.div_add_mod a size
    have b2 := Nat.div_add_mod (a + d) size
    rw [e1] at b2
    omega
  unfold objOf posOf
  rw [e1, e2]
  exact ⟨rfl, by omega⟩
/-- The byte of a place, as the objects have it. -/
def fileAt (size many : Nat) (now : List Bs) (j : Nat) : UInt8 := (now.getD (objOf size many j) []).getD (posOf size many j) 46
/-- A piece is put: from place 'a' on, within a piece, the bytes x. -/
theorem file_put {size many a : Nat} {now : List Bs} {x : Bs} (hs : 0 < size) (hm : 0 < many) (hm3 : many ≤ 3) (hn : now.length = 3) (hx : a % size + x.length ≤ size) (j : Nat) :
    fileAt size many (now.set (objOf size many a) (wrS (now.getD (objOf size many a) []) (posOf size many a) x)) j = if a ≤ j ∧ j < a + x.length then x.getD (j - a) 0 else fileAt size many now j := by
  have ho : objOf size many a < now.length := by have := Nat.mod_lt (a / size) hm; unfold objOf; omega
  unfold fileAt
  rw [getD_set]
  by_cases hj : objOf size many a = objOf size many j
  · rw [if_pos ⟨hj, by rw [← hj]; exact ho⟩]
    rw [List.getD_eq_getElem?_getD (l := wrS _ _ _), wrS_get]
    by_cases hp : posOf size many a ≤ posOf size many j ∧ posOf size many j < posOf size many a + x.length
    · rw [if_pos hp]
      obtain ⟨d, hd⟩ : ∃ d, posOf size many j = posOf size many a + d := ⟨posOf size many j - posOf size many a, by omega⟩
      have hr := lay_run (many := many) hs (a := a) (d := d) (by omega)
      have he : j = a + d := lay_inj hs hm (hj.symm.trans hr.1.symm) (hd.trans hr.2.symm)
      rw [if_pos (by omega), hd, he]
      rw [List.getD_eq_getElem?_getD, show posOf size many a + d - posOf size many a = d by omega, show a + d - a = d by omega]
      rw [List.getElem?_eq_getElem (by omega)]
      rfl
    · have hnn : ¬ (a ≤ j ∧ j < a + x.length) := by
        intro hc
        obtain ⟨d, hd⟩ : ∃ d, j = a + d := ⟨j - a, by omega⟩
        have hr := lay_run (many := many) hs (a := a) (d := d) (by omega)
        rw [hd, hr.2] at hp
        omega
      rw [if_neg hp, if_neg hnn, ← hj]
      by_cases h1 : posOf size many j < (now.getD (objOf size many a) []).length
      · rw [if_pos h1]; simp only [List.getD_eq_getElem?_getD]
      · rw [if_neg h1, List.getD_eq_getElem?_getD, List.getElem?_eq_none (by omega)]
        split <;> rfl
  · rw [if_neg (fun h => hj h.1), if_neg]
    intro hc
    obtain ⟨d, hd⟩ : ∃ d, j = a + d := ⟨j - a, by omega⟩
    have hr := lay_run (many := many) hs (a := a) (d := d) (by omega)
    rw [hd, hr.1] at hj
    exact hj rfl
end Go.Ev
