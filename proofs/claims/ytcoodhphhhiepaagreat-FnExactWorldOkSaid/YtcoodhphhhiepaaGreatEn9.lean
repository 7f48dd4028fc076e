/- My texts joined: EvW2, EvT26, EvT27, EvT28, EvM2, EvT30, EvW3, EvW4. No condition. -/
import Derived.Test.YtcoodhphhhiepaaGreatEn8
/- Plain words: what writing back does to the file; locks; caches; worlds, and what happens in them. No program in sight. -/
set_option linter.unusedSimpArgs false
set_option linter.unusedVariables false
namespace Go.Ev
/-- The end of the piece that a place lies in, or the end of all. -/
def endOf (size a hi : Nat) : Nat := min hi ((a / size + 1) * size)
theorem endOf_gt {size a hi : Nat} (hs : 0 < size) (h : a < hi) : a < endOf size a hi ∧ endOf size a hi ≤ hi ∧ a % size + (endOf size a hi - a) ≤ size := by
  have b1 := Nat.div_add_mod a size
  have b2 := Nat.mod_lt a hs
  unfold endOf
  rw [Nat.succ_mul, Nat.mul_comm (a / size) size]
  omega
def reqsF (size many : Nat) (who epoch : Int) (lo : Nat) (x : Bs) (hi : Nat) : Nat → Nat → Int → List ReqT
  | 0, _, _ => []
  | n + 1, a, num => if a < hi then { who, epoch, num, obj := (objOf size many a : Nat), pos := (posOf size many a : Nat), data := (x.take (endOf size a hi - lo)).drop (a - lo) } :: reqsF size many who epoch lo x hi n (endOf size a hi) (num + 1) else []
theorem fineAll_cons {c : Int} {cs : List Int} : fineAll (c :: cs) ↔ c = 0 ∧ fineAll cs := by simp [fineAll]
theorem fineAll_app {cs ds : List Int} : fineAll (cs ++ ds) ↔ fineAll cs ∧ fineAll ds := by
  simp only [fineAll, List.mem_append]
  exact ⟨fun h => ⟨fun c hc => h c (.inl hc), fun c hc => h c (.inr hc)⟩, fun h c hc => hc.elim (h.1 c) (h.2 c)⟩
theorem reqsF_file {size many : Nat} (hs : 0 < size) (hm : 0 < many) (hm3 : many ≤ 3) {who epoch : Int} {lo hi : Nat} {x : Bs} (hx : hi = lo + x.length) : ∀ (n a : Nat) (num : Int) (s : StoreT), StoreP s → lo ≤ a → hi ≤ a + n →
    fineAll (storeAll s (reqsF size many who epoch lo x hi n a num)).2 → ∀ j, fileAt size many (storeAll s (reqsF size many who epoch lo x hi n a num)).1.now j = if a ≤ j ∧ j < hi then x.getD (j - lo) 0 else fileAt size many s.now j
  | 0, a, num, s, hsp, hlo, hn, hf, j => by
    rw [if_neg (by omega)]
    rfl
  | n + 1, a, num, s, hsp, hlo, hn, hf, j => by
    rw [reqsF] at hf ⊢
    by_cases ha : a < hi
    · rw [if_pos ha] at hf ⊢
      obtain ⟨g1, g2, g3⟩ := endOf_gt hs ha
      generalize endOf size a hi = e at *
      simp only [storeAll] at hf ⊢
      rw [fineAll_cons] at hf
      obtain ⟨_, _, _, hd⟩ := storeDo_fine hf.1
      have ih := reqsF_file hs hm hm3 (who := who) (epoch := epoch) hx n e (num + 1) _ (storeDo_ok _ hsp) (by omega) (by omega) hf.2 j
      rw [ih, hd]
      dsimp only
      simp only [Int.toNat_natCast]
      have hl : ((x.take (e - lo)).drop (a - lo)).length = e - a := by simp; omega
      rw [file_put hs hm hm3 hsp.now (by rw [hl]; omega), hl]
      by_cases h1 : e ≤ j ∧ j < hi
      · rw [if_pos h1, if_pos (by omega)]
      · rw [if_neg h1]
        by_cases h2 : a ≤ j ∧ j < a + (e - a)
        · rw [if_pos h2, if_pos (by omega)]
          simp only [List.getD_eq_getElem?_getD, List.getElem?_drop]
          rw [List.getElem?_take_of_lt (by omega), show a - lo + (j - a) = j - lo by omega]
        · rw [if_neg h2, if_neg (by omega)]
    · rw [if_neg ha, if_neg (by omega)]
      rfl
def reqsAll (size many : Nat) (who epoch : Int) : List Pt → Int → List ReqT
  | [], _ => []
  | q :: qs, num => reqsF size many who epoch q.1.toNat q.2 (q.1.toNat + q.2.length) 48 q.1.toNat num ++ reqsAll size many who epoch qs (num + (reqsF size many who epoch q.1.toNat q.2 (q.1.toNat + q.2.length) 48 q.1.toNat num).length)
theorem reqsAll_file {size many : Nat} (hs : 0 < size) (hm : 0 < many) (hm3 : many ≤ 3) {who epoch : Int} (t : Bs) (p : Sp) (ht : t.length = 48) (hp : 0 ≤ p.1 ∧ p.1 < p.2 ∧ p.2 ≤ 48) : ∀ (ds : List Sp) (num : Int) (s : StoreT), StoreP s → (∀ d ∈ ds, 0 ≤ d.1 ∧ d.1 < d.2 ∧ d.2 ≤ 48) →
    fineAll (storeAll s (reqsAll size many who epoch (patF t p ds) num)).2 → ∀ j, fileAt size many (storeAll s (reqsAll size many who epoch (patF t p ds) num)).1.now j = if (inSp j p && inF ds j) = true then t.getD j 0 else fileAt size many s.now j
  | [], num, s, hsp, hd, hf, j => by
    have : inF [] j = false := rfl
    rw [this, Bool.and_false]
    rfl
  | d :: ds, num, s, hsp, hd, hf, j => by
    have hs0 := hd d (by simp)
    have hb := meet_bd hs0 hp
    have hme : (meetS d p).1 = maxI d.1 p.1 ∧ (meetS d p).2 = minI d.2 p.2 := ⟨rfl, rfl⟩
    have hin : ∀ i : Nat, inSp i (meetS d p) = (inSp i d && inSp i p) := fun i => by
      rw [Bool.eq_iff_iff, Bool.and_eq_true, inSp_iff, inSp_iff, inSp_iff, hme.1, hme.2]
      simp only [maxI, minI, ltI, decide_eq_true_eq]
      constructor
      · intro ⟨h1, h2⟩; split at h1 <;> split at h2 <;> omega
      · intro h; constructor <;> split <;> omega
    have e4 : inF (d :: ds) j = (inSp j d || inF ds j) := rfl
    rw [patF] at hf ⊢
    cases e : ltI (meetS d p).1 (meetS d p).2
    · rw [e] at hf
      simp only [Bool.false_eq_true, if_false] at hf ⊢
      have ih := reqsAll_file hs hm hm3 (who := who) (epoch := epoch) t p ht hp ds num s hsp (fun q hq => hd q (by simp [hq])) hf j
      have : inSp j (meetS d p) = false := by
        rw [← Bool.not_eq_true, inSp_iff]
        rw [ltI_not] at e
        omega
      rw [hin j] at this
      have e5 : (inSp j p && inF (d :: ds) j) = (inSp j p && inF ds j) := bool_pass _ this
      rw [ih]
      simp only [e5]
    · rw [e] at hf
      simp only [if_true] at hf ⊢
      rw [ltI_iff] at e
      obtain ⟨a, ha⟩ : ∃ a : Nat, (meetS d p).1 = a := ⟨(meetS d p).1.toNat, by omega⟩
      obtain ⟨b, hbb⟩ : ∃ b : Nat, (meetS d p).2 = b := ⟨(meetS d p).2.toNat, by omega⟩
      have hms : meetS d p = ((a : Int), (b : Int)) := Prod.ext ha hbb
      rw [hms] at hin e hb hf ⊢
      dsimp only at e hb hf ⊢
      have hl : (subS t ((a : Int), (b : Int))).length = b - a := by simp [subS]; omega
      rw [reqsAll, storeAll_app] at hf ⊢
      dsimp only at hf ⊢
      rw [fineAll_app] at hf
      simp only [Int.toNat_natCast, hl] at hf ⊢
      rw [show a + (b - a) = b by omega] at hf ⊢
      have h1 := reqsF_file hs hm hm3 (who := who) (epoch := epoch) (lo := a) (hi := b) (x := subS t ((a : Int), (b : Int))) (by omega) 48 a num s hsp (by omega) (by omega) hf.1 j
      have ih := reqsAll_file hs hm hm3 (who := who) (epoch := epoch) t p ht hp ds _ _ (storeAll_ok (s := s) _ hsp) (fun q hq => hd q (by simp [hq])) hf.2 j
      rw [ih, h1]
      have hini := hin j
      have hab : inSp j ((a : Int), (b : Int)) = true ↔ a ≤ j ∧ j < b := by rw [inSp_iff]; dsimp only; omega
      by_cases hc : a ≤ j ∧ j < b
      · have hini := hini.symm.trans (hab.2 hc)
        rw [Bool.and_eq_true] at hini
        have e6 : (inSp j p && inF (d :: ds) j) = true := by rw [e4, hini.1, hini.2]; rfl
        rw [if_pos hc, if_pos e6]
        have : (subS t ((a : Int), (b : Int))).getD (j - a) 0 = t.getD j 0 := by
          rw [List.getD_eq_getElem?_getD, subS_get t a b _ (by omega), show a + (j - a) = j by omega, List.getD_eq_getElem?_getD]
        rw [this]
        split <;> rfl
      · have hf2 : inSp j ((a : Int), (b : Int)) = false := by rw [← Bool.not_eq_true, hab]; exact hc
        have e5 : (inSp j p && inF (d :: ds) j) = (inSp j p && inF ds j) := bool_pass _ (hini.symm.trans hf2)
        rw [if_neg hc]
        simp only [e5]
/-- The numbers that requests of one take. -/
theorem reqsF_who (size many : Nat) (who epoch : Int) (lo : Nat) (x : Bs) (hi : Nat) : ∀ (n a : Nat) (num : Int), ∀ q ∈ reqsF size many who epoch lo x hi n a num, q.who = who ∧ q.epoch = epoch
  | 0, a, num => by simp [reqsF]
  | n + 1, a, num => by
    intro q hq
    rw [reqsF] at hq
    split at hq
    · rcases List.mem_cons.1 hq with rfl | hq
      · exact ⟨rfl, rfl⟩
      · exact reqsF_who size many who epoch lo x hi n _ _ q hq
    · simp at hq
theorem reqsAll_who (size many : Nat) (who epoch : Int) : ∀ (ps : List Pt) (num : Int), ∀ q ∈ reqsAll size many who epoch ps num, q.who = who ∧ q.epoch = epoch
  | [], num => by simp [reqsAll]
  | p :: ps, num => by
    intro q hq
    rw [reqsAll, List.mem_append] at hq
    exact hq.elim (reqsF_who _ _ _ _ _ _ _ _ _ _ q) (reqsAll_who size many who epoch ps _ q)
/-! ### locks -/
structure HoldT where
  r : List Sp
  w : List Sp
def noH : HoldT := ⟨[], []⟩
def clearS (a b : List Sp) : Bool := a.all fun x => b.all fun y => !ltI (meetS x y).1 (meetS x y).2
def lockAt (t : List HoldT) (i : Nat) : Bool := spsOk (t.getD i noH).r && spsOk (t.getD i noH).w && clearS (t.getD i noH).r (t.getD i noH).w && allTo (fun k => (k == i) || (clearS (t.getD i noH).w (t.getD k noH).w && clearS (t.getD i noH).w (t.getD k noH).r)) 3 0
def lockOk (t : List HoldT) : Bool := eqI t.length 3 && allTo (lockAt t) 3 0
def apartS (a b : List Sp) : Prop := ∀ j : Nat, ¬ (inF a j = true ∧ inF b j = true)
structure LockP (t : List HoldT) : Prop where
  len : t.length = 3
  r : ∀ i, i < 3 → spsOk (t.getD i noH).r = true
  w : ∀ i, i < 3 → spsOk (t.getD i noH).w = true
  rw : ∀ i, i < 3 → apartS (t.getD i noH).r (t.getD i noH).w
  ww : ∀ i k, i < 3 → k < 3 → k ≠ i → apartS (t.getD i noH).w (t.getD k noH).w
  wr : ∀ i k, i < 3 → k < 3 → k ≠ i → apartS (t.getD i noH).w (t.getD k noH).r
theorem clearS_iff {a b : List Sp} (ha : ∀ s ∈ a, 0 ≤ s.1 ∧ s.1 < s.2 ∧ s.2 ≤ 48) (hb : ∀ s ∈ b, 0 ≤ s.1 ∧ s.1 < s.2 ∧ s.2 ≤ 48) : clearS a b = true ↔ apartS a b := by
  simp only [clearS, List.all_eq_true, Bool.not_eq_true', ltI_not]
  constructor
  · intro h j ⟨h1, h2⟩
    obtain ⟨x, hx, x1, x2⟩ := inF_iff.1 h1
    obtain ⟨y, hy, y1, y2⟩ := inF_iff.1 h2
    have := h x hx y hy
    simp only [meetS, maxI, minI, ltI, decide_eq_true_eq] at this
    split at this <;> split at this <;> omega
  · intro h x hx y hy
    have hx0 := ha x hx
    have hy0 := hb y hy
    apply Classical.byContradiction
    intro hn
    have hlt : (meetS x y).1 < (meetS x y).2 := by omega
    refine h (meetS x y).1.toNat ⟨inF_iff.2 ⟨x, hx, ?_⟩, inF_iff.2 ⟨y, hy, ?_⟩⟩ <;>
      · simp only [meetS, maxI, minI, ltI, decide_eq_true_eq] at hlt ⊢
        split at hlt <;> split at hlt <;> (constructor <;> simp only [*, if_true, if_false] <;> omega)
theorem lockOk_iff {t : List HoldT} : lockOk t = true ↔ LockP t := by
  simp only [lockOk, Bool.and_eq_true, eqI3, allTo_iff]
  constructor
  · rintro ⟨h0, h⟩
    have g : ∀ i, i < 3 → spsOk (t.getD i noH).r = true ∧ spsOk (t.getD i noH).w = true := fun i hi => by
      have := h i (Nat.zero_le i) (by omega)
      simp only [lockAt, Bool.and_eq_true] at this
      exact ⟨this.1.1.1, this.1.1.2⟩
    refine ⟨h0, fun i hi => (g i hi).1, fun i hi => (g i hi).2, fun i hi => ?_, fun i k hi hk hne => ?_, fun i k hi hk hne => ?_⟩
    · have := h i (Nat.zero_le i) (by omega)
      simp only [lockAt, Bool.and_eq_true] at this
      exact (clearS_iff (spsOk_sp (g i hi).1) (spsOk_sp (g i hi).2)).1 this.1.2
    all_goals
      have := h i (Nat.zero_le i) (by omega)
      simp only [lockAt, Bool.and_eq_true, allTo_iff] at this
      have := this.2 k (Nat.zero_le k) (by omega)
      simp only [Bool.or_eq_true, beq_iff_eq, Bool.and_eq_true, hne, false_or] at this
    · exact (clearS_iff (spsOk_sp (g i hi).2) (spsOk_sp (g k hk).2)).1 this.1
    · exact (clearS_iff (spsOk_sp (g i hi).2) (spsOk_sp (g k hk).1)).1 this.2
  · intro h
    refine ⟨h.len, fun i _ hi => ?_⟩
    have hi : i < 3 := by omega
    simp only [lockAt, Bool.and_eq_true, allTo_iff]
    refine ⟨⟨⟨h.r i hi, h.w i hi⟩, (clearS_iff (spsOk_sp (h.r i hi)) (spsOk_sp (h.w i hi))).2 (h.rw i hi)⟩, fun k _ hk => ?_⟩
    have hk : k < 3 := by omega
    by_cases hne : k = i
    · simp [hne]
    · simp only [Bool.or_eq_true, beq_iff_eq, Bool.and_eq_true, hne, false_or]
      exact ⟨(clearS_iff (spsOk_sp (h.w i hi)) (spsOk_sp (h.w k hk))).2 (h.ww i k hi hk hne), (clearS_iff (spsOk_sp (h.w i hi)) (spsOk_sp (h.r k hk))).2 (h.wr i k hi hk hne)⟩
end Go.Ev

/- Answers: the program's caches: changes that turn the bytes. -/
set_option linter.unusedSimpArgs false
set_option linter.unusedVariables false
set_option maxRecDepth 100000
set_option maxHeartbeats 4000000
namespace Go.Ev
open Go.Proofs
def chgJ (t : List UInt8) (h d : List Sp) (may : Bool) (t' : List UInt8) (f g : Nat → Bool) : Out :=
  if ownOk t h d = true then
    if may = true then (if ownOk t' (spansF f 48 0) (spansF g 48 0) = true then rOB t' (spansF f 48 0) (spansF g 48 0) true else rOB t h d false)
    else rOB t h d false
  else rOB [] [] [] false
theorem rows_set (s : List UInt8) (i : Nat) (c : UInt8) : (rowsOfBytes s).set i [.int .u8 c.toNat] = rowsOfBytes (s.set i c) := by
  simp [rowsOfBytes, List.map_set]
def setB (c : UInt8) : Nat → Nat → List UInt8 → List UInt8
  | 0, _, s => s
  | n + 1, i, s => setB c n (i + 1) (s.set i c)
theorem setB_len (c : UInt8) : ∀ n i s, (setB c n i s).length = s.length
  | 0, _, _ => rfl
  | n + 1, i, s => by rw [setB, setB_len c n (i + 1)]; simp
theorem setB_get (c : UInt8) : ∀ (n i : Nat) (s : List UInt8) (j : Nat), i + n ≤ s.length → (setB c n i s)[j]? = if i ≤ j ∧ j < i + n then some c else s[j]?
  | 0, i, s, j, h => by rw [if_neg (by omega)]; rfl
  | n + 1, i, s, j, h => by
    rw [setB, setB_get c n (i + 1) (s.set i c) j (by simp; omega)]
    by_cases e : j = i
    · subst e
      rw [if_neg (by omega), if_pos (by omega), List.getElem?_set_self (by omega)]
    · rw [List.getElem?_set_ne (Ne.symm e)]
      by_cases h2 : i ≤ j ∧ j < i + (n + 1)
      · rw [if_pos h2, if_pos (by omega)]
      · rw [if_neg h2, if_neg (by omega)]
theorem overS_get (s x : List UInt8) (lo hi : Nat) (h1 : lo ≤ hi) (h2 : hi ≤ s.length) (hx : x.length = hi - lo) (j : Nat) : (overS s ((lo : Int), (hi : Int)) x)[j]? = if lo ≤ j ∧ j < hi then x[j - lo]? else s[j]? := by
  simp only [overS, wrap_i]
  by_cases a1 : j < lo
  · rw [List.append_assoc, List.getElem?_append_left (by simp; omega), List.getElem?_take_of_lt a1, if_neg (by omega)]
  · by_cases a2 : j < hi
    · rw [if_pos ⟨by omega, a2⟩, List.append_assoc, List.getElem?_append_right (by simp; omega), List.getElem?_append_left (by simp; omega)]
      congr 1
      simp
      omega
    · rw [if_neg (by omega), List.getElem?_append_right (by simp; omega), List.getElem?_drop]
      congr 1
      simp
      omega
theorem setB_over (c : UInt8) (s : List UInt8) (lo hi : Nat) (h1 : lo ≤ hi) (h2 : hi ≤ s.length) : setB c (hi - lo) lo s = overS s ((lo : Int), (hi : Int)) (List.replicate (hi - lo) c) := by
  refine List.ext_getElem? fun j => ?_
  rw [setB_get c _ _ _ _ (by omega), overS_get s _ lo hi h1 h2 (by simp)]
  by_cases e : lo ≤ j ∧ j < hi
  · rw [if_pos e, if_pos (by omega), List.getElem?_replicate, if_pos (by omega)]
  · rw [if_neg e, if_neg (by omega)]
theorem over1 (s x : List UInt8) (i j : Nat) (hi : i < s.length) (hj : j < x.length) : overS s ((i : Int), (i : Int) + 1) ((x.take (j + 1)).drop j) = s.set i x[j] := by
  have hx : (x.take (j + 1)).drop j = [x[j]] := by
    refine List.ext_getElem? fun k => ?_
    cases k with
    | zero => simp [hj]
    | succ k => rw [List.getElem?_eq_none (by simp; omega)]; simp
  have := overS_get s [x[j]] i (i + 1) (by omega) (by omega) (by simp)
  push_cast at this
  rw [hx]
  refine List.ext_getElem? fun k => ?_
  rw [this k, List.getElem?_set]
  by_cases e : i = k
  · subst e; simp [hi]
  · rw [if_neg e, if_neg (by omega)]
abbrev ato (i : Nat) : AV := .at (.p i) 0 0 0 [] 1 false
abbrev vim (m : M) (i : Int) : AV := .v m false [.int .i64 i]
end Go.Ev

/- Answers: the program's drops and fills. -/
set_option linter.unusedSimpArgs false
set_option linter.unusedVariables false
set_option maxRecDepth 100000
set_option maxHeartbeats 4000000
namespace Go.Ev
open Go.Proofs
theorem nat_sp {p : Sp} (hp : 0 ≤ p.1 ∧ p.1 < p.2 ∧ p.2 ≤ 48) : ∃ lo hi : Nat, p = ((lo : Int), (hi : Int)) ∧ lo < hi ∧ hi ≤ 48 := by
  obtain ⟨a, b⟩ := p
  dsimp only at hp
  exact ⟨a.toNat, b.toNat, by simp only [Prod.mk.injEq]; omega, by omega, by omega⟩
theorem chgJ_ex (t : List UInt8) (h d : List Sp) (may : Bool) (t' : List UInt8) (f g : Nat → Bool) : ∃ T H D b', chgJ t h d may t' f g = rOB T H D b' := by
  unfold chgJ
  split
  · split
    · split <;> exact ⟨_, _, _, _, rfl⟩
    · exact ⟨_, _, _, _, rfl⟩
  · exact ⟨_, _, _, _, rfl⟩
def dropMay (t : List UInt8) (h d : List Sp) (p : Sp) : Bool := spOk p && eqI (patI t h d p).length 0
end Go.Ev

/- Answers: the program's fills. -/
set_option linter.unusedSimpArgs false
set_option linter.unusedVariables false
set_option maxRecDepth 100000
set_option maxHeartbeats 4000000
namespace Go.Ev
open Go.Proofs
def fillI (g : Nat → Bool) (x : List UInt8) (lo : Nat) : Nat → Nat → List UInt8 → List UInt8
  | 0, _, s => s
  | n + 1, i, s => fillI g x lo n (i + 1) (if g i = true then s else s.set i (x.getD (i - lo) 0))
theorem fillI_len (g : Nat → Bool) (x : List UInt8) (lo : Nat) : ∀ (n i : Nat) (s : List UInt8), (fillI g x lo n i s).length = s.length
  | 0, _, _ => rfl
  | n + 1, i, s => by
    rw [fillI, fillI_len g x lo n (i + 1)]
    split <;> simp
theorem fillOk_sp {p : Sp} {x : List UInt8} (e : fillOk p x = true) : (0 ≤ p.1 ∧ p.1 < p.2 ∧ p.2 ≤ 48) ∧ (x.length : Int) = p.2 - p.1 := by
  simp only [fillOk, Bool.and_eq_true] at e
  exact ⟨spOk_iff.1 e.1.1, eqI_iff.1 e.2⟩
theorem addS_spans (h : List Sp) (p : Sp) : spansF (fun j => if inF [p] j = true then true else inF h j) 48 0 = addS h p :=
  spans_of fun j _ => by simp [inF]
theorem drop_eq (t : List UInt8) (h d : List Sp) (p : Sp) : chgJ t h d (dropMay t h d p) (setB 46 (p.2.toNat - p.1.toNat) p.1.toNat t) (fun j => if inF [p] j = true then false else inF h j) (inF d) = dropS t h d p := by
  unfold chgJ dropS
  cases e : ownOk t h d with
  | false => rfl
  | true =>
    obtain ⟨ht, _, hsd, _⟩ := ownOk_t e
    have h1 : spansF (inF d) 48 0 = d := by rw [spans_of (g := inF d) (fun j _ => rfl)]; exact of_self hsd fun j _ => rfl
    have h2 : spansF (fun j => if inF [p] j = true then false else inF h j) 48 0 = cutS h p := spans_of fun j _ => by simp [inF]
    rw [h1, h2]
    cases e2 : spOk p with
    | false => simp [dropMay, e2]
    | true =>
      obtain ⟨lo, hi, rfl, hp1, hp2⟩ := nat_sp (spOk_iff.1 e2)
      have h3 := setB_over 46 t lo hi (by omega) (by omega)
      have h4 : ((hi : Int) - (lo : Int)).toNat = hi - lo := by omega
      simp only [wrap_i, h3, h4, dropMay, e2, patI, e, Bool.true_and, if_true]
      cases patF t ((lo : Int), (hi : Int)) d with
      | nil => simp [ltI, eqI]
      | cons q qs =>
        have : ¬ ((qs.length : Int) + 1 = 0) := by omega
        have : (0 : Int) < (qs.length : Int) + 1 := by omega
        simp [ltI, eqI, *]
theorem fill_eq (t : List UInt8) (h d : List Sp) (p : Sp) (x : List UInt8) : chgJ t h d (fillOk p x) (fillI (inF d) x p.1.toNat (p.2.toNat - p.1.toNat) p.1.toNat t) (fun j => if inF [p] j = true then true else inF h j) (inF d) = fillS t h d p x := by
  unfold chgJ fillS
  cases e : ownOk t h d with
  | false => rfl
  | true =>
    obtain ⟨ht, _, hsd, _⟩ := ownOk_t e
    have h1 : spansF (inF d) 48 0 = d := by rw [spans_of (g := inF d) (fun j _ => rfl)]; exact of_self hsd fun j _ => rfl
    rw [h1, addS_spans]
    cases e2 : fillOk p x with
    | false => simp
    | true =>
      obtain ⟨hp, hx⟩ := fillOk_sp e2
      obtain ⟨lo, hi, rfl, hp1, hp2⟩ := nat_sp hp
      have h4 : ((hi : Int) - (lo : Int)).toNat = hi - lo := by omega
      dsimp only at hx
      have h5 : ∀ n i (s : List UInt8), i + n = hi → lo ≤ i → s.length = 48 → fillI (inF d) x lo n i s = fillT d x lo n i s := by
        intro n
        induction n with
        | zero => intro i s _ _ _; rfl
        | succ n ih =>
          intro i s hi2 hlo hs
          simp only [fillI, fillT]
          cases inF d i with
          | true => exact ih (i + 1) s (by omega) (by omega) hs
          | false =>
            have hj : i - lo < x.length := by omega
            have := over1 s x i (i - lo) (by omega) hj
            simp only [Bool.false_eq_true, if_false, this, List.getD_eq_getElem?_getD, List.getElem?_eq_getElem hj, Option.getD_some]
            exact ih (i + 1) _ (by omega) (by omega) (by simpa using hs)
      simp only [wrap_i, h4, h5 (hi - lo) lo t (by omega) (Nat.le_refl lo) ht]
end Go.Ev

/- Plain laws of caches: what is read after a change. -/
set_option linter.unusedSimpArgs false
set_option linter.unusedVariables false
namespace Go.Ev
open Go.Proofs
theorem inSp_one {i j : Nat} : inSp (j : Int) ((i : Int), (i : Int) + 1) = decide (j = i) := by
  rw [Bool.eq_iff_iff, inSp_iff]
  simp only [decide_eq_true_eq]
  omega
theorem have1 {h : List Sp} (hs : spsOk h = true) {i : Nat} (hi : i < 48) : haveS h ((i : Int), (i : Int) + 1) = inF h i := by
  have h1 : spOk ((i : Int), (i : Int) + 1) = true := by
    rw [spOk_iff]
    dsimp only
    omega
  simp only [haveS, hs, h1, Bool.true_and]
  rw [Bool.eq_iff_iff, eqP_iff]
  have h2 : ∀ j : Nat, inF [((i : Int), (i : Int) + 1)] j = decide (j = i) := fun j => by simp [inF, inSp_one]
  constructor
  · intro h
    have := h i hi
    rw [h2] at this
    simpa using this
  · intro h j _
    rw [h2]
    by_cases e : j = i
    · subst e; simp [h]
    · simp [e]
theorem subS_one {t : List UInt8} {i : Nat} (hi : i < t.length) : subS t ((i : Int), (i : Int) + 1) = [t[i]] := by
  have h1 : ((i : Int) + 1).toNat = i + 1 := by omega
  simp only [subS, wrap_i, h1]
  refine List.ext_getElem? fun k => ?_
  cases k with
  | zero => simp [hi]
  | succ k => rw [List.getElem?_eq_none (by simp; omega)]; simp
theorem read_keep {t t' : List UInt8} {h d h' d' : List Sp} (e : ownOk t h d = true) (e' : ownOk t' h' d' = true) {i : Nat} (hi : i < 48) (h1 : inF h i = inF h' i) (h2 : t[i]? = t'[i]?) :
    readS t h d ((i : Int), (i : Int) + 1) = readS t' h' d' ((i : Int), (i : Int) + 1) := by
  obtain ⟨ht, hs, _, _⟩ := ownOk_t e
  obtain ⟨ht', hs', _, _⟩ := ownOk_t e'
  simp only [readS, e, e', if_true, have1 hs hi, have1 hs' hi, h1, subS_one (show i < t.length by omega), subS_one (show i < t'.length by omega)]
  rw [List.getElem?_eq_getElem (by omega), List.getElem?_eq_getElem (by omega)] at h2
  simp only [Option.some.injEq] at h2
  rw [h2]
theorem addS_get (h : List Sp) (p : Sp) (j : Nat) (hj : j < 48) : inF (addS h p) j = (inSp j p || inF h j) := by
  have := (of_can fun j => if inSp j p = true then true else h.any (inSp j)).2 j hj
  rw [addS, this]
  cases inSp j p <;> simp [inF]
theorem patF_nil (t : List UInt8) (p : Sp) (hp : 0 ≤ p.1 ∧ p.1 < p.2 ∧ p.2 ≤ 48) : ∀ (d : List Sp), patF t p d = [] → ∀ s ∈ d, (0 ≤ s.1 ∧ s.1 < s.2 ∧ s.2 ≤ 48) → ∀ j : Nat, inSp j s = true → inSp j p = false
  | [], _, s, hs, _, _, _ => by simp at hs
  | q :: d, h, s, hs, hb, j, hj => by
    simp only [patF] at h
    cases e : ltI (meetS q p).1 (meetS q p).2 with
    | true => rw [e] at h; simp at h
    | false =>
      rw [e] at h
      simp only [Bool.false_eq_true, if_false] at h
      rcases List.mem_cons.1 hs with rfl | hs
      · rw [ltI_not] at e
        apply Classical.byContradiction
        intro hn
        simp only [Bool.not_eq_false] at hn
        rw [inSp_iff] at hj hn
        simp only [meetS] at e
        have m1 : maxI s.1 p.1 = s.1 ∨ maxI s.1 p.1 = p.1 := by simp only [maxI]; split <;> simp
        have m2 : minI s.2 p.2 = s.2 ∨ minI s.2 p.2 = p.2 := by simp only [minI]; split <;> simp
        omega
      · exact patF_nil t p hp d h s hs hb j hj
theorem fillI_get (g : Nat → Bool) (x : List UInt8) (lo : Nat) : ∀ (n i : Nat) (s : List UInt8) (j : Nat), i + n ≤ s.length → (fillI g x lo n i s)[j]? = if i ≤ j ∧ j < i + n ∧ g j = false then some (x.getD (j - lo) 0) else s[j]?
  | 0, i, s, j, h => by rw [if_neg (by omega)]; rfl
  | n + 1, i, s, j, h => by
    have hl : (if g i = true then s else s.set i (x.getD (i - lo) 0)).length = s.length := by split <;> simp
    rw [fillI, fillI_get g x lo n (i + 1) _ j (by rw [hl]; omega)]
    by_cases e : j = i
    · subst e
      rw [if_neg (by omega)]
      cases e2 : g j with
      | true => simp
      | false =>
        simp [show j < s.length by omega]
    · have hk : (if g i = true then s else s.set i (x.getD (i - lo) 0))[j]? = s[j]? := by
        split
        · rfl
        · exact List.getElem?_set_ne (Ne.symm e)
      rw [hk]
      cases hg : g j with
      | true => simp
      | false =>
        simp only [and_true]
        by_cases h2 : i ≤ j ∧ j < i + (n + 1)
        · rw [if_pos h2, if_pos (by omega)]
        · rw [if_neg h2, if_neg (by omega)]
end Go.Ev

/- The law: fetched data never hides unsaved writes. -/
set_option linter.unusedSimpArgs false
set_option linter.unusedVariables false
set_option maxRecDepth 100000
set_option maxHeartbeats 4000000
namespace Go.Ev
open Go.Proofs
theorem fillT_get (d : List Sp) (x : List UInt8) (lo hi : Nat) (h1 : lo ≤ hi) (h2 : hi ≤ 48) (hx : x.length = hi - lo) : ∀ (n i : Nat) (s : List UInt8) (j : Nat), i + n = hi → lo ≤ i → s.length = 48 → (fillT d x lo n i s)[j]? = if i ≤ j ∧ j < i + n then (if inF d j = true then s[j]? else x[j - lo]?) else s[j]? := by
  intro n i s j h3 h4 hs
  have h5 : ∀ n i (s : List UInt8), i + n = hi → lo ≤ i → s.length = 48 → fillT d x lo n i s = fillI (inF d) x lo n i s := by
    intro n
    induction n with
    | zero => intro i s _ _ _; rfl
    | succ n ih =>
      intro i s hi2 hlo hs
      simp only [fillI, fillT]
      cases inF d i with
      | true => exact ih (i + 1) s (by omega) (by omega) hs
      | false =>
        have hj : i - lo < x.length := by omega
        have := over1 s x i (i - lo) (by omega) hj
        simp only [Bool.false_eq_true, if_false, this, List.getD_eq_getElem?_getD, List.getElem?_eq_getElem hj, Option.getD_some]
        exact ih (i + 1) _ (by omega) (by omega) (by simpa using hs)
  rw [h5 n i s h3 h4 hs, fillI_get _ _ _ _ _ _ _ (by omega)]
  by_cases h6 : i ≤ j ∧ j < i + n
  · have hj : j - lo < x.length := by omega
    cases inF d j with
    | true => simp
    | false => simp [h6, hj]
  · rw [if_neg (fun h7 => h6 ⟨h7.1, h7.2.1⟩), if_neg h6]
end Go.Ev

/- Plain words: worlds, and what happens in them. No program in sight. -/
set_option linter.unusedSimpArgs false
set_option linter.unusedVariables false
namespace Go.Ev
structure OwnT where
  t : Bs
  h : List Sp
  d : List Sp
def noO : OwnT := ⟨List.replicate 48 46, [], []⟩
def OwnT.ok (o : OwnT) : Bool := ownOk o.t o.h o.d
def cleanT (o : OwnT) (p : Sp) : OwnT × Bool := if spOk p = true then (if ownOk o.t o.h (cutS o.d p) = true then (⟨o.t, o.h, cutS o.d p⟩, true) else (o, false)) else (o, false)
def dropT (o : OwnT) (p : Sp) : OwnT × Bool :=
  if (spOk p && eqI (patF o.t p o.d).length 0) = true then
    if ownOk (overS o.t p (List.replicate (p.2 - p.1).toNat 46)) (cutS o.h p) o.d = true then (⟨overS o.t p (List.replicate (p.2 - p.1).toNat 46), cutS o.h p, o.d⟩, true) else (o, false)
  else (o, false)
def fillT1 (o : OwnT) (p : Sp) (x : Bs) : OwnT × Bool :=
  if fillOk p x = true then
    if ownOk (fillT o.d x p.1.toNat (p.2 - p.1).toNat p.1.toNat o.t) (addS o.h p) o.d = true then (⟨fillT o.d x p.1.toNat (p.2 - p.1).toNat p.1.toNat o.t, addS o.h p, o.d⟩, true) else (o, false)
  else (o, false)
def writeT1 (o : OwnT) (k : Int) (x : Bs) : OwnT × Bool :=
  if wrOk k x = true then
    if ownOk (overS o.t (k, k + x.length) x) (addS o.h (k, k + x.length)) (addS o.d (k, k + x.length)) = true then (⟨overS o.t (k, k + x.length) x, addS o.h (k, k + x.length), addS o.d (k, k + x.length)⟩, true) else (o, false)
  else (o, false)
structure WorldT where
  size : Int
  many : Int
  st : StoreT
  locks : List HoldT
  owns : List OwnT
  epochs : List Int
  alive : List Bool
  kept : List ReqT
  late : List ReqT
structure EvT where
  kind : Int
  who : Int
  write : Bool
  span : Sp
  pos : Int
  data : Bs
def WorldT.own (w : WorldT) (i : Nat) : OwnT := w.owns.getD i noO
def WorldT.lock (w : WorldT) (i : Nat) : HoldT := w.locks.getD i noH
def WorldT.ep (w : WorldT) (i : Nat) : Int := w.epochs.getD i 0
def WorldT.live (w : WorldT) (i : Nat) : Bool := w.alive.getD i false
def WorldT.byte (w : WorldT) (j : Nat) : UInt8 := fileAt w.size.toNat w.many.toNat w.st.now j
def WorldT.file (w : WorldT) : Bs := (List.range 48).map w.byte
def whole : Sp := (0, 48)
def zeros (qs : List ReqT) : List Int := qs.map fun _ => 0
/-- Of a world that is right, for sure. -/
structure WorldP (w : WorldT) : Prop where
  lay : 1 ≤ w.size ∧ w.size ≤ 8 ∧ 1 ≤ w.many ∧ w.many ≤ 3
  st : StoreP w.st
  lk : LockP w.locks
  owns : w.owns.length = 3
  epochs : w.epochs.length = 3
  alive : w.alive.length = 3
  lateN : w.late.length ≤ 8
  own : ∀ i, i < 3 → (w.own i).ok = true
  ep : ∀ i, i < 3 → w.st.floors.getD i 0 ≤ w.ep i ∧ w.ep i ≤ 100
  dead : ∀ i, i < 3 → w.live i = false → w.own i = noO
  kept : storeAll (storeFall w.st) w.kept = (w.st, zeros w.kept)
  keptE : ∀ q ∈ w.kept, q.epoch = w.ep q.who.toNat
  late : ∀ q ∈ w.late, ReqP q ∧ q.epoch < w.st.floors.getD q.who.toNat 0
  held : ∀ i, i < 3 → ∀ j : Nat, j < 48 → inF (w.own i).h j = true → (inF (w.lock i).w j = true ∨ (inF (w.own i).d j = false ∧ inF (w.lock i).r j = true)) ∧ (inF (w.own i).d j = true ∨ (w.own i).t.getD j 0 = w.byte j)
/-! ### events -/
def WorldT.reqs (w : WorldT) (i : Nat) (s : Sp) : List ReqT := reqsAll w.size.toNat w.many.toNat i (w.ep i) (patF (w.own i).t s (w.own i).d) (w.st.last.getD i 0 + 1)
def flushW (w : WorldT) (i : Nat) (s : Sp) : Option WorldT :=
  if ((storeAll w.st (w.reqs i s)).2.all fun c => eqI c 0) = true then
    if (cleanT (w.own i) s).2 = true then some { w with st := (storeAll w.st (w.reqs i s)).1, owns := w.owns.set i (cleanT (w.own i) s).1, kept := w.kept ++ w.reqs i s } else none
  else none
def putL (t : List HoldT) (i : Nat) (h : HoldT) : List HoldT × Bool := if lockOk (t.set i h) = true then (t.set i h, true) else (t, false)
def lockDrop (t : List HoldT) (i : Nat) (s : Sp) : List HoldT × Bool := putL t i ⟨cutS (t.getD i noH).r s, cutS (t.getD i noH).w s⟩
def lockDown (t : List HoldT) (i : Nat) (s : Sp) : List HoldT × Bool := putL t i ⟨ofL (fun j => inF (t.getD i noH).r j || (inSp j s && inF (t.getD i noH).w j)) 48 0 [], cutS (t.getD i noH).w s⟩
def lockGive (t : List HoldT) (i : Nat) (write : Bool) (s : Sp) : List HoldT × Bool :=
  if write = true then putL t i ⟨cutS (t.getD i noH).r s, addS (t.getD i noH).w s⟩
  else putL t i ⟨ofL (fun j => (inSp j s || inF (t.getD i noH).r j) && !inF (t.getD i noH).w j) 48 0 [], (t.getD i noH).w⟩
def barsAt (t : List HoldT) (i : Nat) (write : Bool) (s : Sp) (k : Nat) : Bool := !(k == i) && (!clearS (t.getD k noH).w [s] || (write && !clearS (t.getD k noH).r [s]))
def lockBars (t : List HoldT) (i : Nat) (write : Bool) (s : Sp) : List Nat := (List.range 3).filter (barsAt t i write s)
def yieldW (w : WorldT) (k : Nat) (write : Bool) (s : Sp) : Option WorldT :=
  match flushW w k s with
  | none => none
  | some x =>
    if write = true then
      if ((lockDrop x.locks k s).2 && (dropT (x.own k) s).2) = true then some { x with owns := x.owns.set k (dropT (x.own k) s).1, locks := (lockDrop x.locks k s).1 } else none
    else if (lockDown x.locks k s).2 = true then some { x with locks := (lockDown x.locks k s).1 } else none
def yieldsW (write : Bool) (s : Sp) : List Nat → WorldT → Option WorldT
  | [], w => some w
  | k :: ks, w => match yieldW w k write s with | some x => yieldsW write s ks x | none => none
def lockW (w : WorldT) (i : Nat) (write : Bool) (s : Sp) : WorldT × Int :=
  if ((lockBars w.locks i write s).any fun k => !w.live k) = true then (w, 22)
  else match yieldsW write s (lockBars w.locks i write s) w with
    | none => (w, 24)
    | some x => if (lockGive x.locks i write s).2 = true then ({ x with locks := (lockGive x.locks i write s).1 }, 0) else (w, 24)
def mayAt (h : HoldT) (write : Bool) (j : Nat) : Bool := inF h.w j || (!write && inF h.r j)
def lockMay (h : HoldT) (write : Bool) (s : Sp) : Bool := allTo (mayAt h write) (s.2 - s.1).toNat s.1.toNat
def readW (w : WorldT) (i : Nat) (s : Sp) : WorldT × Bs × Int :=
  if lockMay (w.lock i) false s = true then
    if (fillT1 (w.own i) s (subS w.file s)).2 = true then ({ w with owns := w.owns.set i (fillT1 (w.own i) s (subS w.file s)).1 }, subS (fillT1 (w.own i) s (subS w.file s)).1.t s, 0) else (w, [], 24)
  else (w, [], 23)
def writeW (w : WorldT) (i : Nat) (k : Int) (x : Bs) : WorldT × Int :=
  if wrOk k x = true then
    if lockMay (w.lock i) true (k, k + x.length) = true then
      if (writeT1 (w.own i) k x).2 = true then ({ w with owns := w.owns.set i (writeT1 (w.own i) k x).1 }, 0) else (w, 24)
    else (w, 23)
  else (w, 20)
/-- What is late: of the requests, those that are right, as long as there is room. -/
def addLate : List ReqT → List ReqT → List ReqT
  | late, [] => late
  | late, q :: qs => if (reqOk q && ltI late.length 8) = true then addLate (late ++ [q]) qs else addLate late qs
def evictW (w : WorldT) (i : Nat) : WorldT × Int :=
  if ltI (w.ep i) 100 = true then
    ({ w with st := storeFence (storeSync w.st) i (w.ep i + 1), kept := [], epochs := w.epochs.set i (w.ep i + 1), locks := w.locks.set i noH, owns := w.owns.set i noO, alive := w.alive.set i true, late := addLate w.late (w.reqs i whole) }, 0)
  else (w, 24)
def giveW (w : WorldT) (k : Int) : WorldT × Int :=
  if (ltI k 0 || !ltI k w.late.length) = true then (w, 20)
  else ({ w with late := w.late.take k.toNat ++ w.late.drop (k.toNat + 1), st := (storeDo w.st (w.late.getD k.toNat ⟨0, 0, 0, 0, 0, []⟩)).1 }, (storeDo w.st (w.late.getD k.toNat ⟨0, 0, 0, 0, 0, []⟩)).2)
def dieW (w : WorldT) (i : Nat) : WorldT := { w with alive := w.alive.set i false, owns := w.owns.set i noO }
def formEv (e : EvT) : Bool := ltI e.kind 1 || ltI 9 e.kind || !whoOk e.who || ((eqI e.kind 1 || eqI e.kind 2) && !spOk e.span)
def whoW (w : WorldT) (e : EvT) : WorldT × Bs × Int :=
  if e.kind = 1 then ((lockW w e.who.toNat e.write e.span).1, [], (lockW w e.who.toNat e.write e.span).2)
  else if e.kind = 2 then readW w e.who.toNat e.span
  else if e.kind = 3 then ((writeW w e.who.toNat e.pos e.data).1, [], (writeW w e.who.toNat e.pos e.data).2)
  else if e.kind = 4 then (match flushW w e.who.toNat whole with | some x => (x, [], 0) | none => (w, [], 24))
  else (dieW w e.who.toNat, [], 0)
def doW (w : WorldT) (e : EvT) : WorldT × Bs × Int :=
  if e.kind = 5 then ({ w with st := storeSync w.st, kept := [] }, [], 0)
  else if e.kind = 6 then ({ w with st := (storeAll (storeFall w.st) w.kept).1 }, [], 0)
  else if e.kind = 9 then ((giveW w e.pos).1, [], (giveW w e.pos).2)
  else if formEv e = true then (w, [], 20)
  else if e.kind = 8 then ((evictW w e.who.toNat).1, [], (evictW w e.who.toNat).2)
  else if w.live e.who.toNat = false then (w, [], 21)
  else whoW w e
/-! ### what a cache's changes come to -/
theorem ownOk_have {o : OwnT} (h : o.ok = true) {j : Nat} (hj : j < 48) (hd : inF o.d j = true) : inF o.h j = true := by
  simp only [OwnT.ok, ownOk, Bool.and_eq_true] at h
  have := (allTo_iff _ 48 0).1 h.2 j (Nat.zero_le j) (by omega)
  simpa [okAt, hd] using this
theorem inF_lt {xs : List Sp} (h : spsOk xs = true) {j : Nat} (hj : inF xs j = true) : j < 48 := by
  obtain ⟨s, hs, _, h2⟩ := inF_iff.1 hj
  have := spsOk_sp h s hs
  omega
theorem cleanT_ok {o : OwnT} {p : Sp} (h : (cleanT o p).2 = true) : spOk p = true ∧ ownOk o.t o.h (cutS o.d p) = true ∧ (cleanT o p).1 = ⟨o.t, o.h, cutS o.d p⟩ := by
  unfold cleanT at h ⊢
  split at h
  · split at h
    · rename_i a b
      exact ⟨a, b, by rw [if_pos a, if_pos b]⟩
    · cases h
  · cases h
theorem dropT_ok {o : OwnT} {p : Sp} (h : (dropT o p).2 = true) : spOk p = true ∧ patF o.t p o.d = [] ∧ (dropT o p).1.ok = true ∧ (dropT o p).1 = ⟨overS o.t p (List.replicate (p.2 - p.1).toNat 46), cutS o.h p, o.d⟩ := by
  unfold dropT at h ⊢
  split at h
  · split at h
    · rename_i a b
      rw [if_pos a, if_pos b]
      simp only [Bool.and_eq_true, eqI_iff] at a
      exact ⟨a.1, List.length_eq_zero_iff.1 (by omega), b, rfl⟩
    · cases h
  · cases h
theorem fillT1_ok {o : OwnT} {p : Sp} {x : Bs} (h : (fillT1 o p x).2 = true) : fillOk p x = true ∧ (fillT1 o p x).1.ok = true ∧ (fillT1 o p x).1 = ⟨fillT o.d x p.1.toNat (p.2 - p.1).toNat p.1.toNat o.t, addS o.h p, o.d⟩ := by
  unfold fillT1 at h ⊢
  split at h
  · split at h
    · rename_i a b
      rw [if_pos a, if_pos b]
      exact ⟨a, b, rfl⟩
    · cases h
  · cases h
theorem writeT1_ok {o : OwnT} {k : Int} {x : Bs} (h : (writeT1 o k x).2 = true) : wrOk k x = true ∧ (writeT1 o k x).1.ok = true ∧ (writeT1 o k x).1 = ⟨overS o.t (k, k + x.length) x, addS o.h (k, k + x.length), addS o.d (k, k + x.length)⟩ := by
  unfold writeT1 at h ⊢
  split at h
  · split at h
    · rename_i a b
      rw [if_pos a, if_pos b]
      exact ⟨a, b, rfl⟩
    · cases h
  · cases h
theorem putL_ok {t : List HoldT} {i : Nat} {h : HoldT} (e : (putL t i h).2 = true) : LockP (t.set i h) ∧ (putL t i h).1 = t.set i h := by
  unfold putL at e ⊢
  split at e
  · rename_i a
    rw [if_pos a]
    exact ⟨lockOk_iff.1 a, rfl⟩
  · cases e
end Go.Ev

/- Plain words: what happens in a right world leaves a right world. No program in sight. -/
set_option linter.unusedSimpArgs false
set_option linter.unusedVariables false
namespace Go.Ev
theorem own_set (w : WorldT) (i k : Nat) (o : OwnT) (hl : w.owns.length = 3) (hk : k < 3) : (w.owns.set i o).getD k noO = if i = k then o else w.own k := by
  rw [getD_set]
  by_cases h : i = k
  · rw [if_pos ⟨h, by omega⟩, if_pos h]
  · rw [if_neg (fun q => h q.1), if_neg h]; rfl
theorem lock_set (t : List HoldT) (i k : Nat) (o : HoldT) (hl : t.length = 3) (hk : k < 3) : (t.set i o).getD k noH = if i = k then o else t.getD k noH := by
  rw [getD_set]
  by_cases h : i = k
  · rw [if_pos ⟨h, by omega⟩, if_pos h]
  · rw [if_neg (fun q => h q.1), if_neg h]
theorem ownOk_bd {o : OwnT} (h : o.ok = true) : o.t.length = 48 ∧ spsOk o.h = true ∧ spsOk o.d = true ∧ o.t.all okB = true := ownOk_t h
theorem noO_ok : noO.ok = true := by decide
theorem fine_all {cs : List Int} : (cs.all fun c => eqI c 0) = true ↔ fineAll cs := by
  simp only [List.all_eq_true, eqI_iff, fineAll]
/-- Where one has turned a place, nobody else keeps it. -/
theorem WorldP.sole {w : WorldT} (h : WorldP w) {i k j : Nat} (hi : i < 3) (hk : k < 3) (hne : k ≠ i) (hj : j < 48) (hd : inF (w.own i).d j = true) : inF (w.own k).h j = false := by
  rw [← Bool.not_eq_true]
  intro hh
  have h1 := ownOk_have (h.own i hi) hj hd
  have hw : inF (w.lock i).w j = true := by
    rcases (h.held i hi j hj h1).1 with q | ⟨q, _⟩
    · exact q
    · rw [hd] at q; cases q
  rcases (h.held k hk j hj hh).1 with q | ⟨_, q⟩
  · exact h.lk.ww i k hi hk hne j ⟨hw, q⟩
  · exact h.lk.wr i k hi hk hne j ⟨hw, q⟩
structure FlushR (w : WorldT) (i : Nat) (s : Sp) (x : WorldT) : Prop where
  ok : WorldP x
  size : x.size = w.size
  many : x.many = w.many
  locks : x.locks = w.locks
  epochs : x.epochs = w.epochs
  alive : x.alive = w.alive
  late : x.late = w.late
  own : ∀ k, k < 3 → x.own k = if i = k then ⟨(w.own i).t, (w.own i).h, cutS (w.own i).d s⟩ else w.own k
  byte : ∀ j, x.byte j = if (inSp j s && inF (w.own i).d j) = true then (w.own i).t.getD j 0 else w.byte j
  floors : x.st.floors = w.st.floors
  keptN : w.kept.length ≤ x.kept.length
theorem flushW_ok {w x : WorldT} {i : Nat} {s : Sp} (hw : WorldP w) (hi : i < 3) (ha : w.live i = true) (h : flushW w i s = some x) : FlushR w i s x := by
  unfold flushW at h
  split at h <;> try (cases h; done)
  rename_i hf
  split at h <;> cases h
  rename_i hc
  rw [fine_all] at hf
  obtain ⟨hs, hok, hce⟩ := cleanT_ok hc
  have hp := spOk_iff.1 hs
  obtain ⟨ht, hsh, hsd, hob⟩ := ownOk_bd (hw.own i hi)
  obtain ⟨l1, l2, l3, l4⟩ := hw.lay
  obtain ⟨k1, k2, k3⟩ := storeAll_keeps (w.reqs i s) w.st
  have hby : ∀ j, fileAt w.size.toNat w.many.toNat (storeAll w.st (w.reqs i s)).1.now j = if (inSp j s && inF (w.own i).d j) = true then (w.own i).t.getD j 0 else w.byte j := fun j =>
    reqsAll_file (by omega) (by omega) (by omega) (w.own i).t s ht hp (w.own i).d _ w.st hw.st (spsOk_sp hsd) hf j
  have hown : ∀ k, k < 3 → (w.owns.set i (cleanT (w.own i) s).1).getD k noO = if i = k then ⟨(w.own i).t, (w.own i).h, cutS (w.own i).d s⟩ else w.own k := fun k hk => by
    rw [own_set w i k _ hw.owns hk, hce]
  have hcd : ∀ j, j < 48 → inF (cutS (w.own i).d s) j = (!inSp j s && inF (w.own i).d j) := cutS_get (w.own i).d s
  refine ⟨⟨hw.lay, storeAll_ok (s := w.st) _ hw.st, hw.lk, by simpa using hw.owns, hw.epochs, hw.alive, hw.lateN, fun k hk => ?_, fun k hk => ?_, fun k hk hd => ?_, ?_, fun q hq => ?_, fun q hq => ?_, fun k hk j hj hh => ?_⟩, rfl, rfl, rfl, rfl, rfl, rfl, hown, hby, k3, by simp⟩
  · show OwnT.ok ((w.owns.set i (cleanT (w.own i) s).1).getD k noO) = true
    rw [hown k hk]
    split
    · exact hok
    · exact hw.own k hk
  · show (storeAll w.st (w.reqs i s)).1.floors.getD k 0 ≤ _ ∧ _
    rw [k3]; exact hw.ep k hk
  · show (w.owns.set i (cleanT (w.own i) s).1).getD k noO = noO
    rw [hown k hk]
    have hne : i ≠ k := fun e => by
      subst e
      rw [show w.live i = false from hd] at ha; cases ha
    rw [if_neg hne]
    exact hw.dead k hk hd
  · show storeAll (storeFall (storeAll w.st (w.reqs i s)).1) (w.kept ++ w.reqs i s) = ((storeAll w.st (w.reqs i s)).1, zeros (w.kept ++ w.reqs i s))
    rw [storeFall_all, storeAll_app, hw.kept]
    dsimp only
    congr 1
    simp only [zeros, List.map_append, List.append_cancel_left_eq]
    have hl := storeAll_len (w.reqs i s) w.st
    generalize (storeAll w.st (w.reqs i s)).2 = cs at hf hl
    refine List.ext_getElem (by simp [hl]) fun n h1 h2 => ?_
    rw [hf _ (List.getElem_mem h1)]
    simp
  · rcases List.mem_append.1 hq with hq | hq
    · exact hw.keptE q hq
    · obtain ⟨e1, e2⟩ := reqsAll_who _ _ _ _ _ _ q hq
      rw [e1, e2]
      rfl
  · show ReqP q ∧ q.epoch < (storeAll w.st (w.reqs i s)).1.floors.getD q.who.toNat 0
    rw [k3]; exact hw.late q hq
  · have hbk := hby j
    change inF ((w.owns.set i (cleanT (w.own i) s).1).getD k noO).h j = true at hh
    show (inF (w.lock k).w j = true ∨ (inF ((w.owns.set i (cleanT (w.own i) s).1).getD k noO).d j = false ∧ inF (w.lock k).r j = true)) ∧ (inF ((w.owns.set i (cleanT (w.own i) s).1).getD k noO).d j = true ∨ ((w.owns.set i (cleanT (w.own i) s).1).getD k noO).t.getD j 0 = fileAt w.size.toNat w.many.toNat (storeAll w.st (w.reqs i s)).1.now j)
    rw [hown k hk] at hh ⊢
    rw [hbk]
    by_cases hik : i = k
    · subst hik
      simp only [if_true] at hh ⊢
      obtain ⟨g1, g2⟩ := hw.held i hi j hj hh
      rw [hcd j hj]
      constructor
      · rcases g1 with g | ⟨g, g'⟩
        · exact .inl g
        · exact .inr ⟨by rw [g]; simp, g'⟩
      · cases e1 : inF (w.own i).d j
        · rw [e1] at g2
          simp only [Bool.false_eq_true, false_or] at g2
          right
          simp only [Bool.and_false, Bool.false_eq_true, if_false]
          exact g2
        · cases e2 : inSp j s
          · left; rfl
          · right; simp
    · rw [if_neg hik] at hh ⊢
      obtain ⟨g1, g2⟩ := hw.held k hk j hj hh
      refine ⟨g1, ?_⟩
      have : inF (w.own i).d j = false := by
        rw [← Bool.not_eq_true]
        intro hd
        have := hw.sole hi hk (fun e => hik e.symm) hj hd
        rw [hh] at this; cases this
      rw [this, Bool.and_false]
      exact g2
/-- A lock of one is turned, and what one keeps; nothing else. -/
theorem WorldP.turn {w : WorldT} (hw : WorldP w) {i : Nat} (hi : i < 3) (o : OwnT) (h : HoldT) (hl : LockP (w.locks.set i h)) (ho : o.ok = true) (ha : w.live i = true)
    (hh : ∀ j : Nat, j < 48 → inF o.h j = true → (inF h.w j = true ∨ (inF o.d j = false ∧ inF h.r j = true)) ∧ (inF o.d j = true ∨ o.t.getD j 0 = w.byte j)) :
    WorldP { w with owns := w.owns.set i o, locks := w.locks.set i h } := by
  have hown : ∀ k, k < 3 → (w.owns.set i o).getD k noO = if i = k then o else w.own k := fun k hk => own_set w i k _ hw.owns hk
  have hlk : ∀ k, k < 3 → (w.locks.set i h).getD k noH = if i = k then h else w.lock k := fun k hk => lock_set w.locks i k _ hw.lk.len hk
  refine ⟨hw.lay, hw.st, hl, by simpa using hw.owns, hw.epochs, hw.alive, hw.lateN, fun k hk => ?_, hw.ep, fun k hk hd => ?_, hw.kept, hw.keptE, hw.late, fun k hk j hj hhv => ?_⟩
  · show OwnT.ok ((w.owns.set i o).getD k noO) = true
    rw [hown k hk]
    split
    · exact ho
    · exact hw.own k hk
  · show (w.owns.set i o).getD k noO = noO
    rw [hown k hk]
    have hne : i ≠ k := fun e => by
      subst e
      rw [show w.live i = false from hd] at ha; cases ha
    rw [if_neg hne]
    exact hw.dead k hk hd
  · change inF ((w.owns.set i o).getD k noO).h j = true at hhv
    show (inF ((w.locks.set i h).getD k noH).w j = true ∨ (inF ((w.owns.set i o).getD k noO).d j = false ∧ inF ((w.locks.set i h).getD k noH).r j = true)) ∧ (inF ((w.owns.set i o).getD k noO).d j = true ∨ ((w.owns.set i o).getD k noO).t.getD j 0 = w.byte j)
    rw [hown k hk] at hhv ⊢
    rw [hlk k hk]
    by_cases hik : i = k
    · simp only [if_pos hik] at hhv ⊢
      exact hh j hj hhv
    · simp only [if_neg hik] at hhv ⊢
      exact hw.held k hk j hj hhv
theorem own_self (w : WorldT) {i : Nat} (h : w.owns.length = 3) (hi : i < 3) : w.owns.set i (w.own i) = w.owns := by
  have : i < w.owns.length := by omega
  rw [show w.own i = w.owns[i] by simp [WorldT.own, List.getD_eq_getElem?_getD, this]]
  exact List.set_getElem_self this
theorem lock_self (w : WorldT) {i : Nat} (h : w.locks.length = 3) (hi : i < 3) : w.locks.set i (w.lock i) = w.locks := by
  have : i < w.locks.length := by omega
  rw [show w.lock i = w.locks[i] by simp [WorldT.lock, List.getD_eq_getElem?_getD, this]]
  exact List.set_getElem_self this
theorem of_get (f : Nat → Bool) {j : Nat} (hj : j < 48) : inF (ofL f 48 0 []) j = f j := (of_can f).2 j hj
/-- What is kept of a world when one makes way. -/
structure YieldR (w : WorldT) (k : Nat) (write : Bool) (s : Sp) (x : WorldT) : Prop where
  ok : WorldP x
  size : x.size = w.size
  many : x.many = w.many
  epochs : x.epochs = w.epochs
  alive : x.alive = w.alive
  late : x.late = w.late
  lock : ∀ q, q < 3 → q ≠ k → x.lock q = w.lock q
  own : ∀ q, q < 3 → q ≠ k → x.own q = w.own q
  byte : ∀ j, x.byte j = if (inSp j s && inF (w.own k).d j) = true then (w.own k).t.getD j 0 else w.byte j
  dirty : ∀ j, j < 48 → inF (x.own k).d j = (!inSp j s && inF (w.own k).d j)
  text : ∀ j, inF (x.own k).d j = true → (x.own k).t.getD j 0 = (w.own k).t.getD j 0
  lw : ∀ j, j < 48 → inF (x.lock k).w j = (!inSp j s && inF (w.lock k).w j)
  lr : ∀ j, j < 48 → write = true → inF (x.lock k).r j = (!inSp j s && inF (w.lock k).r j)
  lr2 : ∀ j, j < 48 → inF (x.lock k).r j = true → inF (w.lock k).r j = true ∨ inF (w.lock k).w j = true
  floors : x.st.floors = w.st.floors
theorem yieldW_ok {w x : WorldT} {k : Nat} {write : Bool} {s : Sp} (hw : WorldP w) (hk : k < 3) (ha : w.live k = true) (h : yieldW w k write s = some x) : YieldR w k write s x := by
  unfold yieldW at h
  split at h <;> try (cases h; done)
  rename_i y hy
  have F := flushW_ok hw hk ha hy
  have hay : y.live k = true := by unfold WorldT.live at ha ⊢; rw [F.alive]; exact ha
  have hok := F.own k hk
  rw [if_pos rfl] at hok
  have hsp : spOk s = true := by
    unfold flushW at hy
    split at hy <;> try (cases hy; done)
    split at hy <;> cases hy
    rename_i hc
    exact (cleanT_ok hc).1
  have hcd : ∀ j, j < 48 → inF (cutS (w.own k).d s) j = (!inSp j s && inF (w.own k).d j) := cutS_get (w.own k).d s
  have hby : y.lock k = w.lock k := by unfold WorldT.lock; rw [F.locks]
  have hdlt : ∀ j, inF (w.own k).d j = true → j < 48 := fun j hj => inF_lt (ownOk_bd (hw.own k hk)).2.2.1 hj
  have hylen : y.owns.length = 3 := F.ok.owns
  have hllen : y.locks.length = 3 := F.ok.lk.len
  split at h
  · rename_i hwr
    split at h <;> cases h
    rename_i hc
    rw [Bool.and_eq_true] at hc
    obtain ⟨hl, hle⟩ := putL_ok hc.1
    obtain ⟨_, hpat, hdo, hde⟩ := dropT_ok hc.2
    have hld : (lockDrop y.locks k s).1 = y.locks.set k ⟨cutS (y.lock k).r s, cutS (y.lock k).w s⟩ := hle
    rw [hby] at hld
    rw [hld]
    have hl' : LockP (y.locks.set k ⟨cutS (w.lock k).r s, cutS (w.lock k).w s⟩) := by rw [← hby]; exact hl
    rw [hde] at hdo ⊢
    rw [hok] at hdo hpat ⊢
    dsimp only at hdo hpat ⊢
    have hp := spOk_iff.1 hsp
    obtain ⟨lo, hi, hs, hlo, hhi⟩ := nat_sp hp
    have ht48 := (ownOk_bd (hw.own k hk)).1
    have htx : ∀ j : Nat, inSp j s = false → (overS (w.own k).t s (List.replicate (s.2 - s.1).toNat 46)).getD j 0 = (w.own k).t.getD j 0 := fun j hj => by
      subst hs
      rw [List.getD_eq_getElem?_getD, overS_get _ _ lo hi (by omega) (by omega) (by simp), if_neg, List.getD_eq_getElem?_getD]
      rw [← Bool.not_eq_true, inSp_iff] at hj
      dsimp only at hj
      omega
    have W := F.ok.turn hk ⟨overS (w.own k).t s (List.replicate (s.2 - s.1).toNat 46), cutS (w.own k).h s, cutS (w.own k).d s⟩ ⟨cutS (w.lock k).r s, cutS (w.lock k).w s⟩ hl' hdo hay (fun j hj hh => by
      dsimp only at hh ⊢
      rw [cutS_get _ s j hj, Bool.and_eq_true, Bool.not_eq_true'] at hh
      have := F.ok.held k hk j hj (by rw [hok]; exact hh.2)
      rw [hby, hok] at this
      dsimp only at this
      rw [cutS_get _ s j hj, cutS_get _ s j hj, cutS_get _ s j hj] at *
      rw [hh.1] at this ⊢
      rw [htx j hh.1]
      simpa using this)
    refine ⟨W, F.size, F.many, F.epochs, F.alive, F.late, fun q hq hne => ?_, fun q hq hne => ?_, F.byte, fun j hj => ?_, fun j hj => ?_, fun j hj => ?_, fun j hj _ => ?_, fun j hj hh => ?_, F.floors⟩
    · show (y.locks.set k _).getD q noH = _
      rw [lock_set _ _ _ _ hllen hq, if_neg (fun e => hne e.symm)]
      show y.lock q = _
      unfold WorldT.lock; rw [F.locks]
    · show (y.owns.set k _).getD q noO = _
      rw [own_set _ _ _ _ hylen hq, if_neg (fun e => hne e.symm), F.own q hq, if_neg (fun e => hne e.symm)]
    · show inF ((y.owns.set k _).getD k noO).d j = _
      rw [own_set _ _ _ _ hylen hk, if_pos rfl]
      exact hcd j hj
    · change inF ((y.owns.set k _).getD k noO).d j = true at hj
      show ((y.owns.set k _).getD k noO).t.getD j 0 = _
      rw [own_set _ _ _ _ hylen hk, if_pos rfl] at hj ⊢
      dsimp only at hj ⊢
      have hlt := inF_lt (ownOk_bd hdo).2.2.1 hj
      rw [hcd j hlt, Bool.and_eq_true, Bool.not_eq_true'] at hj
      exact htx j hj.1
    · show inF ((y.locks.set k _).getD k noH).w j = _
      rw [lock_set _ _ _ _ hllen hk, if_pos rfl]
      exact cutS_get _ s j hj
    · show inF ((y.locks.set k _).getD k noH).r j = _
      rw [lock_set _ _ _ _ hllen hk, if_pos rfl]
      exact cutS_get _ s j hj
    · change inF ((y.locks.set k _).getD k noH).r j = true at hh
      rw [lock_set _ _ _ _ hllen hk, if_pos rfl] at hh
      dsimp only at hh
      rw [cutS_get _ s j hj, Bool.and_eq_true] at hh
      exact .inl hh.2
  · rename_i hwr
    split at h <;> cases h
    rename_i hc
    obtain ⟨hl, hle⟩ := putL_ok hc
    have hld : (lockDown y.locks k s).1 = y.locks.set k ⟨ofL (fun j => inF (y.lock k).r j || (inSp j s && inF (y.lock k).w j)) 48 0 [], cutS (y.lock k).w s⟩ := hle
    rw [hby] at hld
    rw [hld]
    have hl' : LockP (y.locks.set k ⟨ofL (fun j => inF (w.lock k).r j || (inSp j s && inF (w.lock k).w j)) 48 0 [], cutS (w.lock k).w s⟩) := by rw [← hby]; exact hl
    have W := F.ok.turn hk (y.own k) ⟨ofL (fun j => inF (w.lock k).r j || (inSp j s && inF (w.lock k).w j)) 48 0 [], cutS (w.lock k).w s⟩ hl' (F.ok.own k hk) hay (fun j hj hh => by
      have := F.ok.held k hk j hj hh
      rw [hby] at this
      refine ⟨?_, this.2⟩
      dsimp only
      rw [cutS_get _ s j hj, of_get _ hj]
      have hd : inF (y.own k).d j = (!inSp j s && inF (w.own k).d j) := by rw [hok]; exact hcd j hj
      rw [hd] at this ⊢
      cases e1 : inSp j s <;> cases e2 : inF (w.lock k).w j <;> cases e3 : inF (w.lock k).r j <;> simp [e1, e2, e3] at this ⊢
      all_goals first | exact this.1 | skip)
    rw [own_self y hylen hk] at W
    refine ⟨W, F.size, F.many, F.epochs, F.alive, F.late, fun q hq hne => ?_, fun q hq hne => ?_, F.byte, fun j hj => ?_, fun j hj => ?_, fun j hj => ?_, fun j hj hx => absurd hx hwr, fun j hj hh => ?_, F.floors⟩
    · show (y.locks.set k _).getD q noH = _
      rw [lock_set _ _ _ _ hllen hq, if_neg (fun e => hne e.symm)]
      show y.lock q = _
      unfold WorldT.lock; rw [F.locks]
    · show y.own q = _
      rw [F.own q hq, if_neg (fun e => hne e.symm)]
    · show inF (y.own k).d j = _
      rw [hok]
      exact hcd j hj
    · show (y.own k).t.getD j 0 = _
      rw [hok]
    · show inF ((y.locks.set k _).getD k noH).w j = _
      rw [lock_set _ _ _ _ hllen hk, if_pos rfl]
      exact cutS_get _ s j hj
    · change inF ((y.locks.set k _).getD k noH).r j = true at hh
      rw [lock_set _ _ _ _ hllen hk, if_pos rfl] at hh
      dsimp only at hh
      rw [of_get _ hj, Bool.or_eq_true, Bool.and_eq_true] at hh
      exact hh.imp id fun q => q.2
end Go.Ev
