/- My texts joined: EvT34, EvM3, EvT38, EvT39. No condition. -/
import Derived.Test.YthdaconelhffcaaEn10
/- The law: unsaved writes are told exactly. -/
set_option linter.unusedSimpArgs false
set_option linter.unusedVariables false
set_option maxRecDepth 100000
set_option maxHeartbeats 4000000
namespace Go.Ev
open Go.Proofs
theorem wrS_get (s x : List UInt8) (k i : Nat) : (wrS s k x)[i]? = if k ≤ i ∧ i < k + x.length then x[i - k]? else if i < s.length then s[i]? else if i < k then some 46 else none := by
  simp only [wrS, List.getElem?_append, List.getElem?_take, List.getElem?_drop, List.getElem?_replicate, List.length_append, List.length_take, List.length_replicate]
  grind
theorem subS_get (t : List UInt8) (a b i : Nat) (h : a + i < b) : (subS t ((a : Int), (b : Int)))[i]? = t[a + i]? := by
  simp only [subS, List.getElem?_drop, Int.toNat_natCast]
  rw [List.getElem?_take_of_lt h]
theorem wrOk_of {t : List UInt8} (ht : t.length = 48) (hok : t.all okB = true) {a b : Nat} (h1 : a < b) (h2 : b ≤ 48) : wrOk a (subS t ((a : Int), (b : Int))) = true := by
  have hl : (subS t ((a : Int), (b : Int))).length = b - a := by simp [subS]; omega
  simp only [wrOk, Bool.and_eq_true, Bool.not_eq_true', ltI_not, eqS_not, hl]
  refine ⟨⟨⟨⟨by omega, by omega⟩, ?_, by omega⟩, fun e => ?_⟩, by omega⟩
  · rw [List.all_eq_true] at hok ⊢
    exact fun c hc => hok c (List.mem_of_mem_take (List.mem_of_mem_drop hc))
  · rw [e] at hl
    simp at hl
    omega
theorem bool_pass {a b : Bool} (c : Bool) (h : (a && b) = false) : (b && (a || c)) = (b && c) := by cases a <;> cases b <;> simp_all
theorem taF_pat (t : List UInt8) (p : Sp) (ht : t.length = 48) (hok : t.all okB = true) (hp : 0 ≤ p.1 ∧ p.1 < p.2 ∧ p.2 ≤ 48) : ∀ (ds : List Sp) (z : List UInt8), (∀ s ∈ ds, 0 ≤ s.1 ∧ s.1 < s.2 ∧ s.2 ≤ 48) → txtOk z = true →
    ∃ o, taF z (patF t p ds) = some o ∧ txtOk o = true ∧ ∀ i, i < o.length → o[i]? = some (if (inSp i p && inF ds i) = true then t.getD i 0 else z.getD i 46)
  | [], z, _, hz => ⟨z, rfl, hz, fun i hi => by simp [inF, hi]⟩
  | s :: ds, z, hd, hz => by
    have hs := hd s (by simp)
    have hb := meet_bd hs hp
    rw [patF]
    have hm1 := maxI_ge s.1 p.1
    have hm2 := minI_le s.2 p.2
    have hme : (meetS s p).1 = maxI s.1 p.1 ∧ (meetS s p).2 = minI s.2 p.2 := ⟨rfl, rfl⟩
    have hin : ∀ i : Nat, inSp i (meetS s p) = (inSp i s && inSp i p) := fun i => by
      rw [Bool.eq_iff_iff, Bool.and_eq_true, inSp_iff, inSp_iff, inSp_iff, hme.1, hme.2]
      simp only [maxI, minI, ltI, decide_eq_true_eq]
      constructor
      · intro ⟨h1, h2⟩; split at h1 <;> split at h2 <;> omega
      · intro h; constructor <;> split <;> omega
    cases e : ltI (meetS s p).1 (meetS s p).2
    · obtain ⟨o, h1, h2, h3⟩ := taF_pat t p ht hok hp ds z (fun q hq => hd q (by simp [hq])) hz
      refine ⟨o, h1, h2, fun i hi => ?_⟩
      rw [h3 i hi]
      have : inSp i (meetS s p) = false := by
        rw [← Bool.not_eq_true, inSp_iff]
        rw [ltI_not] at e
        omega
      rw [hin i] at this
      have e5 : (inSp i p && inF (s :: ds) i) = (inSp i p && inF ds i) := bool_pass _ this
      simp only [e5]
    · rw [ltI_iff] at e
      obtain ⟨a, ha⟩ : ∃ a : Nat, (meetS s p).1 = a := ⟨(meetS s p).1.toNat, by omega⟩
      obtain ⟨b, hbb⟩ : ∃ b : Nat, (meetS s p).2 = b := ⟨(meetS s p).2.toNat, by omega⟩
      have hms : meetS s p = ((a : Int), (b : Int)) := Prod.ext ha hbb
      rw [hms] at hin e hb ⊢
      dsimp only at e hb
      have hw := wrOk_of ht hok (a := a) (b := b) (by omega) (by omega)
      have htw : twS z a (subS t ((a : Int), (b : Int))) = (wrS z a (subS t ((a : Int), (b : Int))), true) := by simp only [twS, hz, hw, if_true, Int.toNat_natCast]
      have hzw := txtOk_wr hz hw
      rw [Int.toNat_natCast] at hzw
      obtain ⟨o, h1, h2, h3⟩ := taF_pat t p ht hok hp ds _ (fun q hq => hd q (by simp [hq])) hzw
      refine ⟨o, ?_, h2, fun i hi => ?_⟩
      · simp only [if_true, taF, htw]; exact h1
      · rw [h3 i hi]
        have hl : (subS t ((a : Int), (b : Int))).length = b - a := by simp [subS]; omega
        have hi48 := txtOk_len h2
        have hini := hin i
        have hab : inSp i ((a : Int), (b : Int)) = true ↔ a ≤ i ∧ i < b := by rw [inSp_iff]; dsimp only; omega
        have hget := wrS_get z (subS t ((a : Int), (b : Int))) a i
        rw [hl] at hget
        congr 1
        have e4 : inF (s :: ds) i = (inSp i s || inF ds i) := rfl
        by_cases hc : a ≤ i ∧ i < b
        · rw [if_pos (by omega), subS_get t a b _ (by omega), show a + (i - a) = i by omega] at hget
          rw [hab.2 hc] at hini
          have hini := hini.symm
          rw [Bool.and_eq_true] at hini
          simp only [e4, hini.1, hini.2, Bool.true_or, Bool.and_self, Bool.true_and, if_true, List.getD_eq_getElem?_getD, hget]
          rw [List.getElem?_eq_getElem (by omega)]
          simp
        · have hf : inSp i ((a : Int), (b : Int)) = false := by rw [← Bool.not_eq_true, hab]; exact hc
          rw [hf] at hini
          rw [if_neg (by omega)] at hget
          have hz2 : (wrS z a (subS t ((a : Int), (b : Int)))).getD i 46 = z.getD i 46 := by
            rw [List.getD_eq_getElem?_getD, List.getD_eq_getElem?_getD, hget]
            split
            · rfl
            · rename_i h
              rw [List.getElem?_eq_none (by omega : z.length ≤ i)]
              split <;> rfl
          have e5 : (inSp i p && inF (s :: ds) i) = (inSp i p && inF ds i) := bool_pass _ hini.symm
          simp only [hz2, e5]
theorem eq_pt (q r : Pt) : cellsEq (ptL q) (ptL r) = some (eqI q.1 r.1 && eqS q.2 r.2) := by simp
@[simp] theorem eqAgg_patch : eqAgg Try.prog 42 = true := by kernel_rfl
end Go.Ev

/- Plain laws of caches: what a write leaves; all is cleaned. -/
set_option linter.unusedSimpArgs false
set_option linter.unusedVariables false
namespace Go.Ev
open Go.Proofs
theorem patF_far (t : List UInt8) (q : Sp) (hq : 0 ≤ q.1 ∧ q.1 < q.2 ∧ q.2 ≤ 48) (d : List Sp) (h : ∀ s ∈ d, (0 ≤ s.1 ∧ s.1 < s.2 ∧ s.2 ≤ 48) ∧ q.2 ≤ s.1) : patF t q d = [] :=
  patF_cut t q hq d fun s hs => ⟨(h s hs).1, fun j h1 h2 => by
    rw [← Bool.not_eq_true, inSp_iff]
    have := (h s hs).2
    omega⟩
theorem patF_one (t : List UInt8) (q : Sp) (hq : 0 ≤ q.1 ∧ q.1 < q.2 ∧ q.2 ≤ 48) : ∀ (d : List Sp), Can 48 d → (∀ j : Nat, inSp j q = true → inF d j = true) → patF t q d = [(q.1, subS t q)]
  | [], _, h => by
    have := h q.1.toNat (inSp_iff.2 (by omega))
    cases this
  | s :: d, hc, h => by
    have hs := hc.ok s (by simp)
    have hpw := (List.pairwise_cons.1 hc.pw).1
    by_cases e : s.1 ≤ q.1 ∧ q.1 < s.2
    · have h2 : q.2 ≤ s.2 := by
        apply Classical.byContradiction
        intro hn
        have := h s.2.toNat (inSp_iff.2 (by omega))
        obtain ⟨u, hu, hj⟩ := inF_iff.1 this
        rcases List.mem_cons.1 hu with rfl | hu
        · omega
        · have := hpw u hu; omega
      have hm : meetS s q = q := by
        have a1 : ltI s.1 q.1 = true ∨ s.1 = q.1 := by rw [ltI_iff]; omega
        have : maxI s.1 q.1 = q.1 := by simp only [maxI, ltI, decide_eq_true_eq]; split <;> omega
        have : minI s.2 q.2 = q.2 := by simp only [minI, ltI, decide_eq_true_eq]; split <;> omega
        simp only [meetS, *]
      have hl : ltI q.1 q.2 = true := ltI_iff.2 (by omega)
      simp only [patF, hm, hl, if_true]
      rw [patF_far t q hq d fun u hu => ⟨hc.ok u (by simp [hu]), by have := hpw u hu; omega⟩]
    · have h0 := h q.1.toNat (inSp_iff.2 (by omega))
      obtain ⟨u, hu, hj⟩ := inF_iff.1 h0
      have hu : u ∈ d := by
        rcases List.mem_cons.1 hu with rfl | hu
        · exact absurd (by omega) e
        · exact hu
      have := hpw u hu
      have hl : ltI (meetS s q).1 (meetS s q).2 = false := by
        rw [ltI_not]
        have m1 := maxI_ge s.1 q.1
        have m2 := minI_le s.2 q.2
        simp only [meetS]
        omega
      simp only [patF, hl, Bool.false_eq_true, if_false]
      refine patF_one t q hq d hc.tail fun j hj => ?_
      have h1 := h j hj
      rw [inSp_iff] at hj
      obtain ⟨v, hv, hvj⟩ := inF_iff.1 h1
      rcases List.mem_cons.1 hv with rfl | hv
      · omega
      · exact inF_iff.2 ⟨v, hv, hvj⟩
theorem patF_self (t : List UInt8) : ∀ (d : List Sp), (∀ s ∈ d, 0 ≤ s.1 ∧ s.1 < s.2 ∧ s.2 ≤ 48) → patF t (0, 48) d = d.map fun s => (s.1, subS t s)
  | [], _ => rfl
  | s :: d, h => by
    have hs := h s (by simp)
    have hm : meetS s (0, 48) = s := by
      have : maxI s.1 0 = s.1 := by simp only [maxI, ltI, decide_eq_true_eq]; split <;> omega
      have : minI s.2 48 = s.2 := by simp only [minI, ltI, decide_eq_true_eq]; split <;> omega
      simp only [meetS, *]
    have hl : ltI s.1 s.2 = true := ltI_iff.2 (by omega)
    simp only [patF, hm, hl, if_true, List.map_cons]
    rw [patF_self t d fun q hq => h q (by simp [hq])]
theorem haveS_of {h : List Sp} {q : Sp} (hs : spsOk h = true) (hq : spOk q = true) (hin : ∀ j : Nat, inSp j q = true → inF h j = true) : haveS h q = true := by
  simp only [haveS, hs, hq, Bool.true_and]
  rw [eqP_iff]
  intro j hj
  simp only [inF, List.any_cons, List.any_nil, Bool.or_false]
  cases e : inSp j q with
  | false => simp
  | true =>
    have := hin j e
    simp only [inF] at this
    simp [this]
theorem addS_self {h : List Sp} {q : Sp} (hs : spsOk h = true) (hin : ∀ j : Nat, j < 48 → inSp j q = true → inF h j = true) : addS h q = h := by
  refine can_eq (of_can _).1 (spsOk_can hs) fun j hj => ?_
  show inF (addS h q) j = inF h j
  rw [addS_get h q j hj]
  cases e : inSp j q with
  | false => rfl
  | true => rw [hin j hj e]; rfl
theorem cutS_whole (d : List Sp) : cutS d (0, 48) = [] := by
  refine can_eq (of_can _).1 ⟨by simp, by simp⟩ fun j hj => ?_
  show inF (cutS d (0, 48)) j = inF [] j
  rw [cutS_get d (0, 48) j hj, show inSp j (0, 48) = true from inSp_iff.2 (by omega)]
  rfl
theorem subS_over {t x : List UInt8} {k : Nat} (ht : t.length = 48) (hk : k + x.length ≤ 48) : subS (overS t ((k : Int), (k : Int) + x.length) x) ((k : Int), (k : Int) + x.length) = x := by
  have h := overS_get t x k (k + x.length) (by omega) (by omega) (by omega)
  push_cast at h
  refine List.ext_getElem? fun i => ?_
  by_cases hi : i < x.length
  · rw [← Int.natCast_add, subS_get _ _ _ _ (by omega), Int.natCast_add, h, if_pos (by omega)]
    congr 1
    omega
  · rw [List.getElem?_eq_none (by simp [subS]; omega), List.getElem?_eq_none (by omega)]
theorem over_over {t x : List UInt8} {k : Nat} (ht : t.length = 48) (hk : k + x.length ≤ 48) : overS (overS t ((k : Int), (k : Int) + x.length) x) ((k : Int), (k : Int) + x.length) x = overS t ((k : Int), (k : Int) + x.length) x := by
  have h := overS_get t x k (k + x.length) (by omega) (by omega) (by omega)
  have hl := overS_len t x ((k : Int), (k : Int) + x.length) (by dsimp only; omega) (by dsimp only; omega) (by dsimp only; omega)
  push_cast at h
  dsimp only at hl
  have h2 := overS_get (overS t ((k : Int), (k : Int) + x.length) x) x k (k + x.length) (by omega) (by omega) (by omega)
  push_cast at h2
  refine List.ext_getElem? fun i => ?_
  rw [h2, h]
  split <;> rfl
theorem fillT_id {d : List Sp} {x : List UInt8} {lo hi : Nat} (h1 : lo ≤ hi) (h2 : hi ≤ 48) (hx : x.length = hi - lo) (t : List UInt8) (ht : t.length = 48) (hd : ∀ j : Nat, lo ≤ j → j < hi → inF d j = true) : fillT d x lo (hi - lo) lo t = t := by
  refine List.ext_getElem? fun j => ?_
  rw [fillT_get d x lo hi h1 h2 hx (hi - lo) lo t j (by omega) (by omega) ht]
  split
  · rename_i h
    rw [hd j h.1 (by omega)]
    simp
  · rfl
structure WrR (t : List UInt8) (h d : List Sp) (k : Int) (x : List UInt8) (T : List UInt8) (H D : List Sp) : Prop where
  ok : ownOk T H D = true
  res : writeS t h d k x = rOB T H D true
  read : readS T H D (k, k + x.length) = (x, true)
  pats : patI T H D (k, k + x.length) = [(k, x)]
  keep : ∀ i : Nat, i < 48 → ¬ ((k, k + (x.length : Int)).1 ≤ (i : Int) ∧ (i : Int) < (k, k + (x.length : Int)).2) → readS t h d ((i : Int), (i : Int) + 1) = readS T H D ((i : Int), (i : Int) + 1) ∧ inF d i = inF D i
  twice : writeS T H D k x = rOB T H D true
  fill : ∀ y : List UInt8, y.all okB = true → y.length = x.length → fillS T H D (k, k + x.length) y = rOB T H D true
theorem write_res {t : List UInt8} {h d : List Sp} {k : Int} {x : List UInt8} (e1 : ownOk t h d = true) (e2 : wrOk k x = true) (e3 : ownOk (overS t (k, k + x.length) x) (addS h (k, k + x.length)) (addS d (k, k + x.length)) = true) :
    WrR t h d k x (overS t (k, k + x.length) x) (addS h (k, k + x.length)) (addS d (k, k + x.length)) := by
  have hr : writeS t h d k x = rOB (overS t (k, k + x.length) x) (addS h (k, k + x.length)) (addS d (k, k + x.length)) true := by simp only [writeS, e1, e2, e3, if_true]
  obtain ⟨hk, hxo⟩ := wrOk_sp e2
  obtain ⟨n, rfl⟩ : ∃ n : Nat, k = n := ⟨k.toNat, by omega⟩
  have hq : spOk ((n : Int), (n : Int) + x.length) = true := spOk_iff.2 (by dsimp only; omega)
  obtain ⟨ht, hsh, hsd, _⟩ := ownOk_t e1
  obtain ⟨hT, hsH, hsD, _⟩ := ownOk_t e3
  have hget := overS_get t x n (n + x.length) (by omega) (by omega) (by omega)
  push_cast at hget
  have hsub := subS_over (x := x) ht (show n + x.length ≤ 48 by omega)
  have hoo := over_over (x := x) ht (show n + x.length ≤ 48 by omega)
  have hH : ∀ j : Nat, j < 48 → inF (addS h ((n : Int), (n : Int) + x.length)) j = (inSp j ((n : Int), (n : Int) + x.length) || inF h j) := fun j hj => addS_get h _ j hj
  have hD : ∀ j : Nat, j < 48 → inF (addS d ((n : Int), (n : Int) + x.length)) j = (inSp j ((n : Int), (n : Int) + x.length) || inF d j) := fun j hj => addS_get d _ j hj
  generalize overS t ((n : Int), (n : Int) + x.length) x = T at *
  generalize addS h ((n : Int), (n : Int) + x.length) = H at *
  generalize addS d ((n : Int), (n : Int) + x.length) = D at *
  have iH : ∀ j : Nat, inSp j ((n : Int), (n : Int) + x.length) = true → inF H j = true := fun j hj => by
    have hj' := inSp_iff.1 hj
    dsimp only at hj'
    rw [hH j (by omega), hj]; rfl
  have iD : ∀ j : Nat, inSp j ((n : Int), (n : Int) + x.length) = true → inF D j = true := fun j hj => by
    have hj' := inSp_iff.1 hj
    dsimp only at hj'
    rw [hD j (by omega), hj]; rfl
  have aH := addS_self hsH fun j _ hj => iH j hj
  have aD := addS_self hsD fun j _ hj => iD j hj
  refine ⟨e3, hr, ?_, ?_, fun i hi hn => ?_, ?_, fun y hy hl => ?_⟩
  · simp only [readS, e3, haveS_of hsH hq iH, if_true, hsub]
  · simp only [patI, e3, hq, if_true]
    rw [patF_one T _ (by dsimp only; omega) D (spsOk_can hsD) iD, hsub]
  · have hno : inSp i ((n : Int), (n : Int) + x.length) = false := by rw [← Bool.not_eq_true, inSp_iff]; exact hn
    refine ⟨read_keep e1 e3 hi (by rw [hH i hi, hno]; rfl) ?_, by rw [hD i hi, hno]; rfl⟩
    rw [hget i, if_neg (by dsimp only at hn; omega)]
  · simp only [writeS, e2, hoo, aH, aD, e3, if_true]
  · have hf : fillOk ((n : Int), (n : Int) + x.length) y = true := by
      simp only [fillOk, hq, hy, Bool.true_and, Bool.and_eq_true, Bool.not_eq_true', ltI_not, eqI_iff]
      omega
    have h4 : ((n : Int) + x.length - (n : Int)).toNat = (n + x.length) - n := by omega
    have hid := fillT_id (d := D) (x := y) (lo := n) (hi := n + x.length) (by omega) (by omega) (by omega) T hT fun j h1 h2 => iD j (inSp_iff.2 (by dsimp only; omega))
    simp only [fillS, e3, hf, if_true, wrap_i, h4, hid, aH]
end Go.Ev

/- The law: what is written is read, and is all that is to be saved there. -/
set_option linter.unusedSimpArgs false
set_option linter.unusedVariables false
set_option maxRecDepth 100000
set_option maxHeartbeats 4000000
namespace Go.Ev
open Go.Proofs
theorem writeS_not {t : List UInt8} {h d : List Sp} {k : Int} {x : List UInt8} (e1 : ownOk t h d = true) (hn : ¬ (wrOk k x = true ∧ ownOk (overS t (k, k + x.length) x) (addS h (k, k + x.length)) (addS d (k, k + x.length)) = true)) : writeS t h d k x = rOB t h d false := by
  unfold writeS
  rw [if_pos e1]
  split
  · rename_i e2
    rw [if_neg fun e3 => hn ⟨e2, e3⟩]
  · rfl
theorem ev_same_none (m m' : M) (hm : m.isOwn = false) (hm' : m'.isOwn = false) : ev E 14 [.v m true [.str [], .sl [], .sl []], .v m' true [.str [], .sl [], .sl []]] = some (rB true) :=
  (ev_OwnSame m m' hm hm' [] [] [] [] [] [] (by simp) (by simp)).trans (by simp)
theorem law_FnOwnWrite (code : List UInt8) : ev E 6 [.v .ro false [.sl (rowsOfBytes code)]] = some (rB true) := by
  cases e0 : ltI 1048576 code.length
  · obtain ⟨t, h, d, k, x, o, hx, c1⟩ := ev_DrawOwnWrite code
    have b := o.w
    have c2 := fun m m' m'' hm => ev_impl_OwnWrite m m' m'' hm t h d k x b (by omega)
    have c3 := fun m m' m'' hm => ev_spec_OwnWrite m m' m'' hm t h d k x b (by omega)
    have c0 := fun m hm => ev_spec_OwnOk m hm t h d (by have := o.t; omega) (by have := o.h; omega) (by have := o.d; omega)
    have c9 := fun m hm => ev_impl_OwnOk m hm t h d (by have := o.t; omega) (by have := o.h; omega) (by have := o.d; omega)
    simp only [write_eq] at c2
    cases e1 : ownOk t h d
    · have hr : writeS t h d k x = rOB [] [] [] false := by simp [writeS, e1]
      rw [hr] at c2 c3
      rw [e1] at c0 c9
      have c4 := ev_same_none
      rw [ev_fn Try.f6 rfl Try.func6 rfl rfl rfl (Nat.le_of_ble_eq_true rfl)]
      simp [e0, c0, c1, c2, c3, c4, c9]
    · rw [e1] at c0 c9
      by_cases e2 : wrOk k x = true ∧ ownOk (overS t (k, k + x.length) x) (addS h (k, k + x.length)) (addS d (k, k + x.length)) = true
      · have R := write_res e1 e2.1 e2.2
        obtain ⟨hk, _⟩ := wrOk_sp e2.1
        generalize overS t (k, k + x.length) x = T at *
        generalize addS h (k, k + x.length) = H at *
        generalize addS d (k, k + x.length) = D at *
        have O := OC.ok R.ok
        have bO := O.w
        rw [R.res] at c2 c3
        have c4 := fun m m' hm hm' => ev_OwnSame m m' hm hm' T T H D H D (by have := O.h; omega) (by have := O.d; omega)
        have c5 := fun m m' hm => ev_OwnRead m m' hm T H D (k, k + x.length) bO
        have c6 := fun m m' hm => ev_OwnPatches m m' hm T H D (k, k + x.length) bO
        have c7 := fun m m' m'' hm hm' => ev_wpOwnKeeps m m' m'' hm hm' t h d T H D (k, k + x.length) b bO R.keep
        have c8 := fun m hm => ev_impl_OwnOk m hm T H D (by have := O.t; omega) (by have := O.h; omega) (by have := O.d; omega)
        rw [R.read] at c5
        rw [R.pats] at c6
        rw [R.ok] at c8
        have hw : IntKind.i64.wrap (k + x.length) = k + x.length := by rw [wrap64] <;> omega
        simp only [spL] at c5 c6 c7
        rw [ev_fn Try.f6 rfl Try.func6 rfl rfl rfl (Nat.le_of_ble_eq_true rfl)]
        simp [e0, c0, c1, c2, c3, c4, c5, c6, c7, c8, c9, hw]
      · have hr := writeS_not e1 e2
        rw [hr] at c2 c3
        have c4 := fun m m' hm hm' => ev_OwnSame m m' hm hm' t t h d h d (by have := o.h; omega) (by have := o.d; omega)
        rw [ev_fn Try.f6 rfl Try.func6 rfl rfl rfl (Nat.le_of_ble_eq_true rfl)]
        simp [e0, c0, c1, c2, c3, c4, c9]
  · rw [ev_fn Try.f6 rfl Try.func6 rfl rfl rfl (Nat.le_of_ble_eq_true rfl)]
    simp [e0]
end Go.Ev

/- The laws: writing twice is writing once; what is bent gives nothing; all cleaned, all dropped. -/
set_option linter.unusedSimpArgs false
set_option linter.unusedVariables false
set_option maxRecDepth 100000
set_option maxHeartbeats 4000000
namespace Go.Ev
open Go.Proofs
theorem dots_ok (n : Nat) : (List.replicate n (46 : UInt8)).all okB = true := by
  rw [List.all_eq_true]
  intro c hc
  rw [(List.mem_replicate.1 hc).2]
  decide
theorem law_FnOwnTwice (code : List UInt8) : ev E 3 [.v .ro false [.sl (rowsOfBytes code)]] = some (rB true) := by
  cases e0 : ltI 1048576 code.length
  · obtain ⟨t, h, d, k, x, o, hx, c1⟩ := ev_DrawOwnWrite code
    have b := o.w
    have c2 := fun m m' m'' hm => ev_impl_OwnWrite m m' m'' hm t h d k x b (by omega)
    have c3 := fun m m' m'' hm => ev_spec_OwnWrite m m' m'' hm t h d k x b (by omega)
    simp only [write_eq] at c2
    cases e1 : ownOk t h d
    · have hr : writeS t h d k x = rOB [] [] [] false := by simp [writeS, e1]
      rw [hr] at c2 c3
      rw [ev_fn Try.f3 rfl Try.func3 rfl rfl rfl (Nat.le_of_ble_eq_true rfl)]
      simp [e0, c1, c2, c3]
    · by_cases e2 : wrOk k x = true ∧ ownOk (overS t (k, k + x.length) x) (addS h (k, k + x.length)) (addS d (k, k + x.length)) = true
      · have R := write_res e1 e2.1 e2.2
        obtain ⟨hk, _⟩ := wrOk_sp e2.1
        generalize overS t (k, k + x.length) x = T at *
        generalize addS h (k, k + x.length) = H at *
        generalize addS d (k, k + x.length) = D at *
        have O := OC.ok R.ok
        have bO := O.w
        rw [R.res] at c2 c3
        have c4 := fun m m' hm hm' => ev_OwnSame m m' hm hm' T T H D H D (by have := O.h; omega) (by have := O.d; omega)
        have c5 := fun m m' m'' hm => ev_impl_OwnWrite m m' m'' hm T H D k x bO (by omega)
        simp only [write_eq] at c5
        rw [R.twice] at c5
        have c6 := fun m m' => ev_TextCut0 m m' x.length (by omega)
        have c7 : ∀ m m' m'', m.isOwn = false → ev E 13 [.v m true (owL T H D), .v m' true (spL (k, k + x.length)), .v m'' false [.str (List.replicate x.length 46)]] = some (rOB T H D true) := fun m m' m'' hm => by
          rw [ev_impl_OwnFill m m' m'' hm T H D (k, k + x.length) (List.replicate x.length 46) bO (by simp; omega), fill_eq, R.fill _ (dots_ok _) (by simp)]
        have hw : IntKind.i64.wrap (k + x.length) = k + x.length := by rw [wrap64] <;> omega
        simp only [spL] at c7
        generalize List.replicate x.length (46 : UInt8) = y at *
        rw [ev_fn Try.f3 rfl Try.func3 rfl rfl rfl (Nat.le_of_ble_eq_true rfl)]
        simp [e0, c1, c2, c3, c4, c5, c6, c7, hw]
      · have hr := writeS_not e1 e2
        rw [hr] at c2 c3
        rw [ev_fn Try.f3 rfl Try.func3 rfl rfl rfl (Nat.le_of_ble_eq_true rfl)]
        simp [e0, c1, c2, c3]
  · rw [ev_fn Try.f3 rfl Try.func3 rfl rfl rfl (Nat.le_of_ble_eq_true rfl)]
    simp [e0]
theorem law_FnOwnBent (code : List UInt8) : ev E 5 [.v .ro false [.sl (rowsOfBytes code)]] = some (rB true) := by
  cases e0 : ltI 1048576 code.length
  · obtain ⟨t, h, d, ⟨o1, o2, o3⟩, c1⟩ := ev_DrawOwnOk code
    have b : OwB t h d := ⟨by omega, by omega, by omega⟩
    have c0 := fun m hm => ev_spec_OwnOk m hm t h d (by omega) (by omega) (by omega)
    have c9 := fun m hm => ev_impl_OwnOk m hm t h d (by omega) (by omega) (by omega)
    cases e1 : ownOk t h d
    · rw [e1] at c0 c9
      have c2 := fun m m' m'' hm => ev_impl_OwnFill m m' m'' hm t h d (0, 1) [97] b (by simp)
      have c3 := fun m m' m'' hm => ev_impl_OwnWrite m m' m'' hm t h d 0 [97] b (by simp)
      have c4 := fun m m' hm => ev_impl_OwnClean m m' hm t h d (0, 1) b
      have c5 := fun m m' hm => ev_impl_OwnDrop m m' hm t h d (0, 1) b
      have c6 := fun m m' hm => ev_OwnRead m m' hm t h d (0, 1) b
      have c7 := fun m m' hm => ev_OwnPatches m m' hm t h d (0, 1) b
      have c8 := ev_same_none
      have n1 : ∀ may t' f g, chgJ t h d may t' f g = rOB [] [] [] false := fun may t' f g => by simp [chgJ, e1]
      have n2 : ∀ may f g, chgI t h d may f g = rOB [] [] [] false := fun may f g => by simp [chgI, e1]
      have n3 : readS t h d (0, 1) = ([], false) := by simp [readS, e1]
      have n4 : patI t h d (0, 1) = [] := by simp [patI, e1]
      rw [n1] at c2 c3 c5
      rw [n2] at c4
      rw [n3] at c6
      rw [n4] at c7
      simp only [spL] at c2 c4 c5 c6 c7
      rw [ev_fn Try.f5 rfl Try.func5 rfl rfl rfl (Nat.le_of_ble_eq_true rfl)]
      simp [e0, c0, c1, c2, c3, c4, c5, c6, c7, c8, c9]
    · rw [e1] at c0 c9
      rw [ev_fn Try.f5 rfl Try.func5 rfl rfl rfl (Nat.le_of_ble_eq_true rfl)]
      simp [e0, c0, c1, c9]
  · rw [ev_fn Try.f5 rfl Try.func5 rfl rfl rfl (Nat.le_of_ble_eq_true rfl)]
    simp [e0]
theorem lp_FnOwnAll (t : List UInt8) (h d : List Sp) (xs : List Pt) (hx : ∀ q ∈ xs, q.2.length ≤ 48) (hl : xs.length ≤ 4000000) (a : Code) (ha : a = lp Try.f4 0) : ∀ (n i : Nat) (mi : M) (k : Nat), i + n = xs.length → k ≤ 48 * i →
    ∃ me, loopC E (ev E) 4 a { V := [(3, adc 3), (5, adc 5), (6, at1 6), (7, vim mi k), (8, vi i)], H := [bx (.c 3) (owL t h d), bx (.c 5) [.int .i64 0, .int .i64 48], ow (.c 6) [.sl (xs.map ptL)]], ps := [] } =
      some (.exit 0, { V := [(3, adc 3), (5, adc 5), (6, at1 6), (7, vim me (k + ((xs.drop i).map fun q => q.2.length).sum : Nat)), (8, vi xs.length), (41, vb false)], H := [bx (.c 3) (owL t h d), bx (.c 5) [.int .i64 0, .int .i64 48], ow (.c 6) [.sl (xs.map ptL)]], ps := [] })
  | 0, i, mi, k, h0, hk => by
    refine ⟨mi, ?_⟩
    rw [loopC_of _ _ _ _ ha]
    obtain rfl : i = xs.length := by omega
    simp [lp, loopsOf, Try.f4]
  | n + 1, i, mi, k, h0, hk => by
    have hlt : i < xs.length := by omega
    have hw := wrapN i (by omega)
    have h48 := hx xs[i] (List.getElem_mem hlt)
    have w2 : IntKind.i64.wrap ((k : Int) + xs[i].2.length) = ((k + xs[i].2.length : Nat) : Int) := by rw [wrap64] <;> omega
    obtain ⟨me, ih⟩ := lp_FnOwnAll t h d xs hx hl a ha n (i + 1) .ro (k + xs[i].2.length) (by omega) (by omega)
    refine ⟨me, ?_⟩
    push_cast at ih w2
    rw [loopC_of _ _ _ _ ha]
    clear ha
    rw [List.drop_eq_getElem_cons hlt, List.map_cons, List.sum_cons, ← Nat.add_assoc]
    simp [lp, loopsOf, Try.f4, hlt, hw, w2]
    simpa using ih
theorem sum_many (t : List UInt8) (ht : t.length = 48) : ∀ (d : List Sp), (∀ s ∈ d, 0 ≤ s.1 ∧ s.1 < s.2 ∧ s.2 ≤ 48) → ((((d.map fun s => ((s.1, subS t s) : Pt)).map fun q => q.2.length).sum : Nat) : Int) = manyN d
  | [], _ => rfl
  | s :: d, h => by
    have hs := h s (by simp)
    have ih := sum_many t ht d fun q hq => h q (by simp [hq])
    simp only [List.map_cons, List.sum_cons, manyN, ← ih]
    have : (subS t s).length = s.2.toNat - s.1.toNat := by simp [subS]; omega
    omega
theorem ownOk_clean {t : List UInt8} {h d : List Sp} (e : ownOk t h d = true) : ownOk t h [] = true := by
  have hd := fun j => dirty_have (j := j) e
  simp only [ownOk, Bool.and_eq_true] at e ⊢
  refine ⟨⟨e.1.1, rfl⟩, (allTo_iff _ _ _).2 fun j h0 hj => ?_⟩
  have := (allTo_iff _ 48 0).1 e.2 j h0 hj
  simp only [okAt, Bool.or_eq_true, Bool.and_eq_true] at this ⊢
  rcases this with q | q
  · exact .inl q
  · exact .inr ⟨q.1, rfl⟩
theorem ownOk_none : ownOk (List.replicate 48 46) [] [] = true := by decide
theorem law_FnOwnAll (code : List UInt8) : ev E 4 [.v .ro false [.sl (rowsOfBytes code)]] = some (rB true) := by
  cases e0 : ltI 1048576 code.length
  · obtain ⟨t, h, d, ⟨o1, o2, o3⟩, c1⟩ := ev_DrawOwnOk code
    have b : OwB t h d := ⟨by omega, by omega, by omega⟩
    have c0 := fun m hm => ev_spec_OwnOk m hm t h d (by omega) (by omega) (by omega)
    have c9 := fun m hm => ev_impl_OwnOk m hm t h d (by omega) (by omega) (by omega)
    cases e1 : ownOk t h d
    · rw [e1] at c0 c9
      rw [ev_fn Try.f4 rfl Try.func4 rfl rfl rfl (Nat.le_of_ble_eq_true rfl)]
      simp [e0, c0, c1, c9]
    · rw [e1] at c0 c9
      obtain ⟨ht, hsh, hsd, _⟩ := ownOk_t e1
      have hsp := fun s hs => spsOk_sp hsd s hs
      have hw : spOk (0, 48) = true := rfl
      have e2 := ownOk_clean e1
      have b2 : OwB t h [] := ⟨by omega, by omega, by simp⟩
      have c2 := fun m m' hm => ev_OwnPatches m m' hm t h d (0, 48) b
      have hpat : patI t h d (0, 48) = d.map fun s => (s.1, subS t s) := by
        simp only [patI, e1, hw, if_true]
        exact patF_self t d hsp
      rw [hpat] at c2
      have c3 := fun m m' hm => ev_impl_OwnClean m m' hm t h d (0, 48) b
      simp only [clean_eq] at c3
      have hcl : cleanS t h d (0, 48) = rOB t h [] true := by
        simp only [cleanS, e1, hw, cutS_whole, e2, if_true]
      rw [hcl] at c3
      have hdr : dropS t h [] (0, 48) = rOB (List.replicate 48 46) [] [] true := by
        have h1 : overS t (0, 48) (List.replicate (48 - 0 : Int).toNat 46) = List.replicate 48 46 := by
          show t.take 0 ++ List.replicate 48 46 ++ t.drop 48 = _
          rw [List.drop_of_length_le (by omega)]
          rfl
        simp only [dropS, e2, hw, if_true, cutS_whole, h1, ownOk_none]
        rfl
      have c4 : ∀ m m', m.isOwn = false → ev E 20 [.v m true [.str t, .sl (h.map spL), .sl []], .v m' true (spL (0, 48))] = some (rOB (List.replicate 48 46) [] [] true) := fun m m' hm => by
        rw [← hdr, ← drop_eq]
        exact ev_impl_OwnDrop m m' hm t h [] (0, 48) b2
      have c5 : ∀ m m', ev E 12 [.v m false [.str []], .v m' false [.int .i64 48]] = some { rs := [.v .own false [.str (List.replicate 48 46)], .v .own false [.bool true]], outs := [] } := fun m m' => ev_TextCut0 m m' 48 (by omega)
      have c6 := fun m => ev_SpansMany m d hsd
      have c7 : ∀ m m', m.isOwn = false → m'.isOwn = false → ev E 14 [.v m true [.str (List.replicate 48 46), .sl [], .sl []], .v m' true [.str (List.replicate 48 46), .sl [], .sl []]] = some (rB true) := fun m m' hm hm' =>
        (ev_OwnSame m m' hm hm' (List.replicate 48 46) (List.replicate 48 46) [] [] [] [] (by simp) (by simp)).trans (by simp)
      have hsl := spsOk_len hsd
      have hsum := sum_many t ht d hsp
      have hlen : (d.map fun s => ((s.1, subS t s) : Pt)).length = d.length := by simp
      obtain ⟨me, hl⟩ := lp_FnOwnAll t h d (d.map fun s => (s.1, subS t s)) (fun q hq => by
        obtain ⟨s, hs, rfl⟩ := List.mem_map.1 hq
        have := hsp s hs
        simp [subS]
        omega) (by omega) _ rfl (d.map fun s => ((s.1, subS t s) : Pt)).length 0 .ro 0 (by omega) (by omega)
      generalize (d.map fun s => ((s.1, subS t s) : Pt)) = xs at *
      generalize List.replicate 48 (46 : UInt8) = z at *
      push_cast at hl
      rw [List.drop_zero] at hl
      generalize (xs.map fun q => q.2.length).sum = n at *
      simp only [spL] at c2 c3 c4
      rw [ev_fn Try.f4 rfl Try.func4 rfl rfl rfl (Nat.le_of_ble_eq_true rfl)]
      simp [e0, c0, c1, c2, c9]
      rw [loopC_at ?_ hl]
      · simp [c3, c4, c5, c6, c7, hsum, hlen]
      · rfl
  · rw [ev_fn Try.f4 rfl Try.func4 rfl rfl rfl (Nat.le_of_ble_eq_true rfl)]
    simp [e0]
end Go.Ev
