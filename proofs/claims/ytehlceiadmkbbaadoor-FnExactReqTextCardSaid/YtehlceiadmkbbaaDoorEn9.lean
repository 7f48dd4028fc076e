/- My texts joined: EvW7, EvW8, EvW9, EvQ1, EvT35. No condition. -/
import Derived.Test.YtehlceiadmkbbaaDoorEn6
import Derived.Test.YtehlceiadmkbbaaDoorEn7
import Derived.Test.YtehlceiadmkbbaaDoorEn8
import Derived.Lib.ItoaLen
/- Plain words: what each event does to the file as all see it. No program in sight. -/
set_option linter.unusedSimpArgs false
set_option linter.unusedVariables false
namespace Go.Ev
theorem form_who {e : EvT} (h : ¬ formEv e = true) : e.who.toNat < 3 ∧ 0 ≤ e.who ∧ e.who < 3 ∧ 1 ≤ e.kind ∧ e.kind ≤ 9 ∧ ((e.kind = 1 ∨ e.kind = 2) → spOk e.span = true) := by
  simp only [formEv, Bool.or_eq_true, not_or, Bool.not_eq_true, Bool.not_eq_true', Bool.not_eq_false, whoOk, Bool.and_eq_true, ltI_not, ltI_iff, eqI_iff, not_and] at h
  refine ⟨by omega, by omega, by omega, by omega, by omega, h.2⟩
theorem see_congr {w x : WorldT} (ho : ∀ i, i < 3 → x.own i = w.own i) (hb : ∀ j, x.byte j = w.byte j) (j : Nat) : x.see j = w.see j := by
  unfold WorldT.see
  rw [ho 0 (by omega), ho 1 (by omega), ho 2 (by omega), hb]
theorem lockW_see {w : WorldT} {i : Nat} {write : Bool} {s : Sp} (hw : WorldP w) (hi : i < 3) {j : Nat} (hj : j < 48) : (lockW w i write s).1.see j = w.see j := by
  unfold lockW
  split
  · rfl
  · rename_i hd
    split
    · rfl
    · rename_i x hx
      split
      · have hall : ∀ k ∈ lockBars w.locks i write s, k < 3 ∧ w.live k = true := fun k hk => ⟨(bars_mem.1 hk).1, by
          simp only [List.any_eq_true, Bool.not_eq_true', not_exists, not_and, Bool.not_eq_false] at hd
          exact hd k hk⟩
        have Y := yieldsW_ok _ hw hall (bars_nodup _ _ _ _) hx
        rw [← Y.see hw hj]
        exact see_congr (fun _ _ => rfl) (fun _ => rfl) j
      · rfl
/-- Where one may read, nobody else has turned anything. -/
theorem WorldP.may_sole {w : WorldT} (h : WorldP w) {i k j : Nat} (hi : i < 3) (hk : k < 3) (hne : k ≠ i) (hj : j < 48) {write : Bool} (hm : mayAt (w.lock i) write j = true) : inF (w.own k).d j = false := by
  rw [← Bool.not_eq_true]
  intro hd
  have h1 := ownOk_have (h.own k hk) hj hd
  have hw : inF (w.lock k).w j = true := by
    rcases (h.held k hk j hj h1).1 with q | ⟨q, _⟩
    · exact q
    · rw [hd] at q; cases q
  simp only [mayAt, Bool.or_eq_true, Bool.and_eq_true] at hm
  rcases hm with q | ⟨_, q⟩
  · exact h.lk.ww k i hk hi (fun e => hne e.symm) j ⟨hw, q⟩
  · exact h.lk.wr k i hk hi (fun e => hne e.symm) j ⟨hw, q⟩
/-- Where one may write, nobody else keeps anything. -/
theorem WorldP.write_sole {w : WorldT} (h : WorldP w) {i k j : Nat} (hi : i < 3) (hk : k < 3) (hne : k ≠ i) (hj : j < 48) (hm : inF (w.lock i).w j = true) : inF (w.own k).h j = false := by
  rw [← Bool.not_eq_true]
  intro hh
  rcases (h.held k hk j hj hh).1 with q | ⟨_, q⟩
  · exact h.lk.ww i k hi hk hne j ⟨hm, q⟩
  · exact h.lk.wr i k hi hk hne j ⟨hm, q⟩
structure ReadR (w : WorldT) (i : Nat) (s : Sp) (x : WorldT) (data : Bs) : Prop where
  ok : WorldP x
  own : ∀ k, k < 3 → k ≠ i → x.own k = w.own k
  dirty : (x.own i).d = (w.own i).d
  text : ∀ j, (x.own i).t.getD j 0 = if inSp j s = true ∧ inF (w.own i).d j = false then w.byte j else (w.own i).t.getD j 0
  have' : ∀ j, j < 48 → inF (x.own i).h j = (inSp j s || inF (w.own i).h j)
  rest : x = { w with owns := x.owns }
  data : data = subS (x.own i).t s
  may : ∀ j : Nat, inSp j s = true → mayAt (w.lock i) false j = true
theorem readW_fine {w : WorldT} {i : Nat} {s : Sp} (hw : WorldP w) (hi : i < 3) (ha : w.live i = true) (h : (readW w i s).2.2 = 0) : spOk s = true ∧ ReadR w i s (readW w i s).1 (readW w i s).2.1 := by
  have hok := readW_ok (s := s) hw hi ha
  unfold readW at h hok ⊢
  split at h
  · rename_i hm
    split at h
    · rename_i hf
      simp only [if_pos hm, if_pos hf] at hok ⊢
      obtain ⟨hfo, hoo, he⟩ := fillT1_ok hf
      obtain ⟨hsp, hxl⟩ := fillOk_of hfo
      have hp := spOk_iff.1 hsp
      rw [lockMay_iff hp] at hm
      refine ⟨hsp, hok, fun k hk hne => ?_, ?_, fun j => ?_, fun j hj => ?_, rfl, ?_, hm⟩
      · show (w.owns.set i _).getD k noO = _
        rw [own_set _ _ _ _ hw.owns hk, if_neg fun e => hne e.symm]
      · show ((w.owns.set i _).getD i noO).d = _
        rw [own_set _ _ _ _ hw.owns hi, if_pos rfl, he]
      · show ((w.owns.set i _).getD i noO).t.getD j 0 = _
        rw [own_set _ _ _ _ hw.owns hi, if_pos rfl, he]
        obtain ⟨lo, hi', rfl, h1, h2⟩ := nat_sp hp
        have ht := (ownOk_bd (hw.own i hi)).1
        dsimp only at hxl ⊢
        have hn : ((hi' : Int) - (lo : Int)).toNat = hi' - lo := by omega
        simp only [Int.toNat_natCast, hn]
        rw [fill_getD h1 h2 ht (by omega)]
        have hab : inSp j ((lo : Int), (hi' : Int)) = true ↔ lo ≤ j ∧ j < hi' := by rw [inSp_iff]; dsimp only; omega
        by_cases hc : lo ≤ j ∧ j < hi' ∧ inF (w.own i).d j = false
        · rw [if_pos hc, if_pos ⟨hab.2 ⟨hc.1, hc.2.1⟩, hc.2.2⟩, sub_getD (by omega), show lo + (j - lo) = j by omega, file_getD w (by omega)]
        · rw [if_neg hc, if_neg fun q => hc ⟨(hab.1 q.1).1, (hab.1 q.1).2, q.2⟩]
      · show inF ((w.owns.set i _).getD i noO).h j = _
        rw [own_set _ _ _ _ hw.owns hi, if_pos rfl, he]
        exact addS_get _ _ j hj
      · show _ = subS ((w.owns.set i _).getD i noO).t s
        rw [own_set _ _ _ _ hw.owns hi, if_pos rfl]
    · exact absurd h (by simp)
  · exact absurd h (by simp)
theorem ReadR.byte {w x : WorldT} {i : Nat} {s : Sp} {data : Bs} (R : ReadR w i s x data) (j : Nat) : x.byte j = w.byte j := by rw [R.rest]; rfl
theorem ReadR.see {w x : WorldT} {i : Nat} {s : Sp} {data : Bs} (hw : WorldP w) (hi : i < 3) (R : ReadR w i s x data) {j : Nat} (hj : j < 48) : x.see j = w.see j := by
  refine R.ok.see_of hj (fun k hk hd => ?_) (fun hn => ?_)
  · by_cases e : k = i
    · subst e
      rw [R.dirty] at hd
      rw [R.text j, if_neg (by rw [hd]; simp), hw.see_own hk hj hd]
    · rw [R.own k hk e] at hd ⊢
      exact (hw.see_own hk hj hd).symm
  · rw [R.byte]
    refine (see_none fun k hk => ?_).symm
    have := hn k hk
    by_cases e : k = i
    · subst e; rwa [R.dirty] at this
    · rwa [R.own k hk e] at this
/-- What is read is what all see. -/
theorem ReadR.data_see {w x : WorldT} {i : Nat} {s : Sp} {data : Bs} (hw : WorldP w) (hi : i < 3) (hs : spOk s = true) (R : ReadR w i s x data) : data = subS w.text s := by
  obtain ⟨a1, a2⟩ := hw.textGet
  rw [R.data]
  obtain ⟨lo, hi', rfl, h1, h2⟩ := nat_sp (spOk_iff.1 hs)
  have ht := (ownOk_bd (R.ok.own i hi)).1
  refine List.ext_getElem? fun k => ?_
  by_cases hk : k < hi' - lo
  · rw [subS_get _ _ _ _ (by omega), subS_get _ _ _ _ (by omega)]
    have hj : lo + k < 48 := by omega
    have e1 : (x.own i).t[lo + k]? = some ((x.own i).t.getD (lo + k) 0) := by rw [List.getD_eq_getElem?_getD, List.getElem?_eq_getElem (by omega)]; rfl
    have e2 : w.text[lo + k]? = some (w.text.getD (lo + k) 0) := by rw [List.getD_eq_getElem?_getD, List.getElem?_eq_getElem (by omega)]; rfl
    rw [e1, e2, a2 _ hj, R.text]
    have hin : inSp ((lo + k : Nat) : Int) ((lo : Int), (hi' : Int)) = true := inSp_iff.2 (by dsimp only; omega)
    congr 1
    cases e : inF (w.own i).d (lo + k)
    · rw [if_pos ⟨hin, rfl⟩]
      refine (see_none fun q hq => ?_).symm
      by_cases hqi : q = i
      · subst hqi; exact e
      · exact hw.may_sole hi hq hqi hj (R.may _ hin)
    · rw [if_neg (by simp), hw.see_own hi hj e]
  · rw [List.getElem?_eq_none (by simp [subS]; omega), List.getElem?_eq_none (by simp [subS]; omega)]
structure WriteR (w : WorldT) (i : Nat) (lo : Nat) (data : Bs) (x : WorldT) : Prop where
  ok : WorldP x
  own : ∀ k, k < 3 → k ≠ i → x.own k = w.own k
  dirty : ∀ j, j < 48 → inF (x.own i).d j = (decide (lo ≤ j ∧ j < lo + data.length) || inF (w.own i).d j)
  text : ∀ j, (x.own i).t.getD j 0 = if lo ≤ j ∧ j < lo + data.length then data.getD (j - lo) 0 else (w.own i).t.getD j 0
  rest : x = { w with owns := x.owns }
  lock : ∀ j, lo ≤ j → j < lo + data.length → inF (w.lock i).w j = true
  wr : wrOk lo data = true
theorem writeW_fine {w : WorldT} {i : Nat} {k : Int} {data : Bs} (hw : WorldP w) (hi : i < 3) (ha : w.live i = true) (h : (writeW w i k data).2 = 0) : 0 ≤ k ∧ WriteR w i k.toNat data (writeW w i k data).1 := by
  have hok := writeW_ok (k := k) (x := data) hw hi ha
  unfold writeW at h hok ⊢
  split at h
  · rename_i hwr
    split at h
    · rename_i hm
      split at h
      · rename_i hf
        simp only [if_pos hwr, if_pos hm, if_pos hf] at hok ⊢
        obtain ⟨_, hoo, he⟩ := writeT1_ok hf
        obtain ⟨g1, g2, g3, g4⟩ := wrOk_len hwr
        obtain ⟨lo, rfl⟩ : ∃ lo : Nat, k = lo := ⟨k.toNat, by omega⟩
        have hp : 0 ≤ ((lo : Int), (lo : Int) + data.length).1 ∧ ((lo : Int), (lo : Int) + data.length).1 < ((lo : Int), (lo : Int) + data.length).2 ∧ ((lo : Int), (lo : Int) + data.length).2 ≤ 48 := by dsimp only; omega
        rw [lockMay_iff hp] at hm
        have ht := (ownOk_bd (hw.own i hi)).1
        have hab : ∀ j : Nat, inSp j ((lo : Int), (lo : Int) + data.length) = decide (lo ≤ j ∧ j < lo + data.length) := fun j => by
          rw [Bool.eq_iff_iff, inSp_iff, decide_eq_true_eq]; dsimp only; omega
        refine ⟨g1, hok, fun k hk hne => ?_, fun j hj => ?_, fun j => ?_, rfl, fun j h1 h2 => ?_, by simpa using hwr⟩
        · show (w.owns.set i _).getD k noO = _
          rw [own_set _ _ _ _ hw.owns hk, if_neg fun e => hne e.symm]
        · show inF ((w.owns.set i _).getD i noO).d j = _
          rw [own_set _ _ _ _ hw.owns hi, if_pos rfl, he]
          rw [addS_get _ _ j hj, hab]
          rfl
        · show ((w.owns.set i _).getD i noO).t.getD j 0 = _
          rw [own_set _ _ _ _ hw.owns hi, if_pos rfl, he]
          exact over_getD (by omega) j
        · have := hm j (by rw [hab]; simp only [decide_eq_true_eq]; simp only [Int.toNat_natCast] at h1 h2; omega)
          simpa [mayAt] using this
      · exact absurd h (by simp)
    · exact absurd h (by simp)
  · exact absurd h (by simp)
theorem WriteR.byte {w x : WorldT} {i lo : Nat} {data : Bs} (R : WriteR w i lo data x) (j : Nat) : x.byte j = w.byte j := by rw [R.rest]; rfl
theorem WriteR.see {w x : WorldT} {i lo : Nat} {data : Bs} (hw : WorldP w) (hi : i < 3) (R : WriteR w i lo data x) {j : Nat} (hj : j < 48) : x.see j = if lo ≤ j ∧ j < lo + data.length then data.getD (j - lo) 0 else w.see j := by
  by_cases hc : lo ≤ j ∧ j < lo + data.length
  · rw [if_pos hc]
    have hd : inF (x.own i).d j = true := by rw [R.dirty j hj]; simp [hc]
    rw [R.ok.see_own hi hj hd, R.text, if_pos hc]
  · rw [if_neg hc]
    refine R.ok.see_of hj (fun k hk hd => ?_) (fun hn => ?_)
    · by_cases e : k = i
      · subst e
        rw [R.dirty j hj, decide_eq_false hc, Bool.false_or] at hd
        rw [R.text, if_neg hc, hw.see_own hk hj hd]
      · rw [R.own k hk e] at hd ⊢
        exact (hw.see_own hk hj hd).symm
    · rw [R.byte]
      refine (see_none fun k hk => ?_).symm
      have := hn k hk
      by_cases e : k = i
      · subst e
        rwa [R.dirty j hj, decide_eq_false hc, Bool.false_or] at this
      · rwa [R.own k hk e] at this
/-- A text that a write was put into. -/
theorem WriteR.text_eq {w x : WorldT} {i lo : Nat} {data : Bs} (hw : WorldP w) (hi : i < 3) (R : WriteR w i lo data x) : x.text = wrS w.text lo data := by
  obtain ⟨a1, a2⟩ := hw.textGet
  obtain ⟨b1, b2⟩ := R.ok.textGet
  have hwl := (wrOk_len R.wr).2.1
  refine List.ext_getElem? fun j => ?_
  rw [wrS_get]
  by_cases hj : j < 48
  · have e1 : x.text[j]? = some (x.text.getD j 0) := by rw [List.getD_eq_getElem?_getD, List.getElem?_eq_getElem (by omega)]; rfl
    have e2 : w.text[j]? = some (w.text.getD j 0) := by rw [List.getD_eq_getElem?_getD, List.getElem?_eq_getElem (by omega)]; rfl
    rw [e1, b2 j hj, R.see hw hi hj]
    by_cases hc : lo ≤ j ∧ j < lo + data.length
    · rw [if_pos hc, if_pos hc, List.getD_eq_getElem?_getD, List.getElem?_eq_getElem (by omega)]; rfl
    · rw [if_neg hc, if_neg hc, if_pos (by omega), e2, a2 j hj]
  · rw [List.getElem?_eq_none (by omega), if_neg (by omega), if_neg (by omega), if_neg (by omega)]
/-- One is gone: what it had turned is lost. -/
theorem gone_see {w x : WorldT} {i : Nat} (hw : WorldP w) (hx : WorldP x) (hi : i < 3) (ho : ∀ k, k < 3 → x.own k = if i = k then noO else w.own k) (hb : ∀ j, x.byte j = w.byte j) {j : Nat} (hj : j < 48) : x.see j = if inF (w.own i).d j = true then w.byte j else w.see j := by
  have n1 : inF noO.d j = false := rfl
  by_cases hd : inF (w.own i).d j = true
  · rw [if_pos hd]
    refine (see_none fun k hk => ?_).trans (hb j)
    rw [ho k hk]
    by_cases e : i = k
    · rw [if_pos e]; exact n1
    · rw [if_neg e, ← Bool.not_eq_true]
      intro hk2
      have := ownOk_have (hw.own k hk) hj hk2
      rw [hw.sole hi hk (fun q => e q.symm) hj hd] at this
      cases this
  · rw [if_neg hd]
    refine hx.see_of hj (fun k hk hk2 => ?_) (fun hn => ?_)
    · rw [ho k hk] at hk2 ⊢
      by_cases e : i = k
      · rw [if_pos e, n1] at hk2; cases hk2
      · rw [if_neg e] at hk2 ⊢
        exact (hw.see_own hk hj hk2).symm
    · rw [hb]
      refine (see_none fun k hk => ?_).symm
      have := hn k hk
      rw [ho k hk] at this
      by_cases e : i = k
      · subst e; rwa [Bool.not_eq_true] at hd
      · rwa [if_neg e] at this
theorem giveW_still {w : WorldT} {k : Int} (hw : WorldP w) : (giveW w k).1.st = w.st ∧ (giveW w k).1.owns = w.owns ∧ (giveW w k).1.size = w.size ∧ (giveW w k).1.many = w.many := by
  unfold giveW
  split
  · exact ⟨rfl, rfl, rfl, rfl⟩
  · rename_i hc
    simp only [Bool.or_eq_true, Bool.not_eq_true', not_or, Bool.not_eq_true, Bool.not_eq_false, ltI_not, ltI_iff] at hc
    have hlt : k.toNat < w.late.length := by omega
    have hq := hw.late (w.late.getD k.toNat ⟨0, 0, 0, 0, 0, []⟩) (by
      rw [List.getD_eq_getElem?_getD, List.getElem?_eq_getElem hlt]
      exact List.getElem_mem hlt)
    rw [storeDo_late hq]
    exact ⟨rfl, rfl, rfl, rfl⟩
theorem see_of_parts {w x : WorldT} (h1 : x.st.now = w.st.now) (h2 : x.owns = w.owns) (h3 : x.size = w.size) (h4 : x.many = w.many) (j : Nat) : x.see j = w.see j :=
  see_congr (fun i _ => by unfold WorldT.own; rw [h2]) (fun j => by unfold WorldT.byte; rw [h1, h3, h4]) j
/-- Locks, reads, flushes, syncs, falls and what comes late are not seen. -/
theorem still_see {w : WorldT} (hw : WorldP w) {e : EvT} (h3 : e.kind ≠ 3) (h7 : e.kind ≠ 7) (h8 : e.kind ≠ 8) {j : Nat} (hj : j < 48) : (doW w e).1.see j = w.see j := by
  unfold doW
  split
  · exact see_of_parts rfl rfl rfl rfl j
  · split
    · rw [hw.kept]
    · split
      · obtain ⟨a1, a2, a3, a4⟩ := giveW_still (k := e.pos) hw
        exact see_of_parts (by rw [a1]) a2 a3 a4 j
      · split
        · rfl
        · rename_i h5 h6 h9 hf
          obtain ⟨hi, _, _, k1, k9, hsp⟩ := form_who hf
          split
          · rfl
          · rename_i hl
            rw [Bool.not_eq_false] at hl
            unfold whoW
            split
            · exact lockW_see hw hi hj
            · split
              · by_cases hc : (readW w e.who.toNat e.span).2.2 = 0
                · exact (readW_fine hw hi hl hc).2.see hw hi hj
                · have : (readW w e.who.toNat e.span).1 = w := by
                    unfold readW at hc ⊢
                    split
                    · rename_i a
                      split
                      · rename_i b
                        rw [if_pos a, if_pos b] at hc
                        exact absurd rfl hc
                      · rfl
                    · rfl
                  rw [this]
              · split
                · split
                  · rename_i x hx
                    exact (flushW_ok hw hi hl hx).see hw hi hj
                  · rfl
                · exact absurd (show e.kind = 7 by omega) h7
end Go.Ev

/- Plain words: the program's ways with locks come to the reference's. No program in sight. -/
set_option linter.unusedSimpArgs false
set_option linter.unusedVariables false
namespace Go.Ev
def noneP (f : Nat → Bool) : Bool := eqP f fun _ => false
theorem noneP_iff {f : Nat → Bool} : noneP f = true ↔ ∀ j, j < 48 → f j = false := eqP_iff
def orP (f g : Nat → Bool) : Nat → Bool := fun j => if g j = true then true else f j
theorem orP_eq (f g : Nat → Bool) (j : Nat) : orP f g j = (f j || g j) := by unfold orP; cases g j <;> simp
def lockI : (Nat → Bool) → (Nat → Bool) → List HoldT → Bool
  | _, _, [] => true
  | a, wr, h :: hs => spsOk h.r && spsOk h.w && (noneP (fun j => inF h.r j && inF h.w j) && noneP (fun j => inF h.w j && a j) && noneP (fun j => inF h.r j && wr j)) && lockI (orP (orP a (inF h.w)) (inF h.r)) (orP wr (inF h.w)) hs
def lockOkI (t : List HoldT) : Bool := eqI t.length 3 && lockI (fun _ => false) (fun _ => false) t
theorem apart48 {a b : List Sp} (ha : spsOk a = true) : apartS a b ↔ ∀ j, j < 48 → ¬ (inF a j = true ∧ inF b j = true) :=
  ⟨fun h j _ => h j, fun h j hj => h j (inF_lt ha hj.1) hj⟩
theorem lockI_eq (t : List HoldT) : lockOkI t = lockOk t := by
  rw [Bool.eq_iff_iff, lockOk_iff]
  unfold lockOkI
  rw [Bool.and_eq_true, eqI3]
  constructor
  · rintro ⟨hl, h⟩
    match t, hl with
    | [a, b, c], _ =>
      simp only [lockI, Bool.and_eq_true, noneP_iff, orP_eq, Bool.or_eq_false_iff, Bool.and_eq_false_imp, Bool.or_false, Bool.false_or, Bool.or_eq_false_iff] at h
      obtain ⟨⟨⟨a1, a2⟩, ⟨a3, _⟩, _⟩, ⟨⟨b1, b2⟩, ⟨b3, b4⟩, b5⟩, ⟨⟨c1, c2⟩, ⟨c3, c4⟩, c5⟩, _⟩ := h
      have e : ∀ x y : List Sp, spsOk x = true → (∀ j, j < 48 → inF x j = true → inF y j = false) → apartS x y := fun x y hx hh => (apart48 hx).2 fun j hj q => by rw [hh j hj q.1] at q; cases q.2
      have sy : ∀ x y : List Sp, apartS x y → apartS y x := fun x y hh j q => hh j ⟨q.2, q.1⟩
      refine ⟨rfl, fun i hi => ?_, fun i hi => ?_, fun i hi => ?_, fun i k hi hk hne => ?_, fun i k hi hk hne => ?_⟩
      · match i, hi with
        | 0, _ => exact a1
        | 1, _ => exact b1
        | 2, _ => exact c1
      · match i, hi with
        | 0, _ => exact a2
        | 1, _ => exact b2
        | 2, _ => exact c2
      · match i, hi with
        | 0, _ => exact e _ _ a1 a3
        | 1, _ => exact e _ _ b1 b3
        | 2, _ => exact e _ _ c1 c3
      · have x01 : apartS b.w a.w := e _ _ b2 fun j hj q => (b4 j hj q).1
        have x02 : apartS c.w a.w := e _ _ c2 fun j hj q => (c4 j hj q).1.1.1
        have x12 : apartS c.w b.w := e _ _ c2 fun j hj q => (c4 j hj q).1.2
        match i, hi, k, hk with
        | 0, _, 0, _ => exact absurd rfl hne
        | 0, _, 1, _ => exact sy _ _ x01
        | 0, _, 2, _ => exact sy _ _ x02
        | 1, _, 0, _ => exact x01
        | 1, _, 1, _ => exact absurd rfl hne
        | 1, _, 2, _ => exact sy _ _ x12
        | 2, _, 0, _ => exact x02
        | 2, _, 1, _ => exact x12
        | 2, _, 2, _ => exact absurd rfl hne
      · have y10 : apartS b.w a.r := e _ _ b2 fun j hj q => (b4 j hj q).2
        have y20 : apartS c.w a.r := e _ _ c2 fun j hj q => (c4 j hj q).1.1.2
        have y21 : apartS c.w b.r := e _ _ c2 fun j hj q => (c4 j hj q).2
        have y01 : apartS a.w b.r := sy _ _ (e _ _ b1 fun j hj q => (b5 j hj q))
        have y02 : apartS a.w c.r := sy _ _ (e _ _ c1 fun j hj q => (c5 j hj q).1)
        have y12 : apartS b.w c.r := sy _ _ (e _ _ c1 fun j hj q => (c5 j hj q).2)
        match i, hi, k, hk with
        | 0, _, 0, _ => exact absurd rfl hne
        | 0, _, 1, _ => exact y01
        | 0, _, 2, _ => exact y02
        | 1, _, 0, _ => exact y10
        | 1, _, 1, _ => exact absurd rfl hne
        | 1, _, 2, _ => exact y12
        | 2, _, 0, _ => exact y20
        | 2, _, 1, _ => exact y21
        | 2, _, 2, _ => exact absurd rfl hne
  · intro h
    refine ⟨h.len, ?_⟩
    match t, h.len with
    | [a, b, c], _ =>
      have r0 := h.r 0 (by omega)
      have r1 := h.r 1 (by omega)
      have r2 := h.r 2 (by omega)
      have w0 := h.w 0 (by omega)
      have w1 := h.w 1 (by omega)
      have w2 := h.w 2 (by omega)
      have f : ∀ x y : List Sp, apartS x y → ∀ j, j < 48 → inF x j = true → inF y j = false := fun x y hh j _ q => by
        rw [← Bool.not_eq_true]; exact fun q2 => hh j ⟨q, q2⟩
      have sy : ∀ x y : List Sp, apartS x y → apartS y x := fun x y hh j q => hh j ⟨q.2, q.1⟩
      simp only [lockI, Bool.and_eq_true, noneP_iff, orP_eq, Bool.or_eq_false_iff, Bool.and_eq_false_imp, Bool.or_false, Bool.false_or, Bool.or_eq_false_iff]
      refine ⟨⟨⟨r0, w0⟩, ⟨f _ _ (h.rw 0 (by omega)), fun _ _ _ => trivial⟩, fun _ _ _ => trivial⟩, ⟨⟨r1, w1⟩, ⟨f _ _ (h.rw 1 (by omega)), fun j hj q => ⟨f _ _ (h.ww 1 0 (by omega) (by omega) (by omega)) j hj q, f _ _ (h.wr 1 0 (by omega) (by omega) (by omega)) j hj q⟩⟩, fun j hj q => f _ _ (sy _ _ (h.wr 0 1 (by omega) (by omega) (by omega))) j hj q⟩,
        ⟨⟨r2, w2⟩, ⟨f _ _ (h.rw 2 (by omega)), fun j hj q => ⟨⟨⟨f _ _ (h.ww 2 0 (by omega) (by omega) (by omega)) j hj q, f _ _ (h.wr 2 0 (by omega) (by omega) (by omega)) j hj q⟩, f _ _ (h.ww 2 1 (by omega) (by omega) (by omega)) j hj q⟩, f _ _ (h.wr 2 1 (by omega) (by omega) (by omega)) j hj q⟩⟩, fun j hj q => ⟨f _ _ (sy _ _ (h.wr 0 2 (by omega) (by omega) (by omega))) j hj q, f _ _ (sy _ _ (h.wr 1 2 (by omega) (by omega) (by omega))) j hj q⟩⟩, trivial⟩
/-! ### what a lock given means -/
structure LockR (w : WorldT) (i : Nat) (write : Bool) (s : Sp) (x : WorldT) : Prop where
  ok : WorldP x
  may : ∀ j : Nat, inSp j s = true → mayAt (x.lock i) write j = true
  alone : ∀ k, k < 3 → k ≠ i → ∀ j : Nat, inSp j s = true → inF (x.lock k).w j = false ∧ (write = true → inF (x.lock k).r j = false)
  live : x.alive = w.alive
  epochs : x.epochs = w.epochs
  nobar : ∀ k ∈ lockBars w.locks i write s, w.live k = true
theorem lockW_fine {w : WorldT} {i : Nat} {write : Bool} {s : Sp} (hw : WorldP w) (hi : i < 3) (ha : w.live i = true) (hs : spOk s = true) (h : (lockW w i write s).2 = 0) : LockR w i write s (lockW w i write s).1 := by
  have hok := lockW_ok (write := write) (s := s) hw hi ha
  unfold lockW at h hok ⊢
  split at h
  · exact absurd h (by simp)
  · rename_i hd
    rw [if_neg hd] at hok ⊢
    split at h
    · exact absurd h (by simp)
    · rename_i x hx
      simp only [hx] at hok ⊢
      split at h
      · rename_i hg
        rw [if_pos hg] at hok ⊢
        have hall : ∀ k ∈ lockBars w.locks i write s, k < 3 ∧ w.live k = true := fun k hk => ⟨(bars_mem.1 hk).1, by
          simp only [List.any_eq_true, Bool.not_eq_true', not_exists, not_and, Bool.not_eq_false] at hd
          exact hd k hk⟩
        have Y := yieldsW_ok _ hw hall (bars_nodup _ _ _ _) hx
        have hxl : x.live i = true := by unfold WorldT.live at ha ⊢; rw [Y.alive]; exact ha
        obtain ⟨_, he⟩ := give_ok Y.ok hi hxl hg
        have hlk : ∀ k, k < 3 → ({ x with locks := (lockGive x.locks i write s).1 } : WorldT).lock k = if i = k then (if write = true then ⟨cutS (x.lock i).r s, addS (x.lock i).w s⟩ else ⟨ofL (fun j => (inSp j s || inF (x.lock i).r j) && !inF (x.lock i).w j) 48 0 [], (x.lock i).w⟩) else x.lock k := fun k hk => by
          show ((lockGive x.locks i write s).1).getD k noH = _
          rw [he, lock_set _ _ _ _ Y.ok.lk.len hk]; rfl
        have hmay : ∀ j : Nat, inSp j s = true → mayAt (({ x with locks := (lockGive x.locks i write s).1 } : WorldT).lock i) write j = true := fun j hj => by
          have hj48 : j < 48 := by have := spOk_iff.1 hs; rw [inSp_iff] at hj; omega
          rw [hlk i hi, if_pos rfl]
          cases write
          · simp only [Bool.false_eq_true, if_false, mayAt]
            rw [of_get _ hj48, hj]
            cases inF (x.lock i).w j <;> rfl
          · simp only [if_true, mayAt]
            rw [addS_get _ _ j hj48, hj]; rfl
        refine ⟨hok, hmay, fun k hk hne j hj => ?_, Y.alive, Y.epochs, fun k hk => (hall k hk).2⟩
        have hm := hmay j hj
        simp only [mayAt, Bool.or_eq_true, Bool.and_eq_true, Bool.not_eq_true'] at hm
        have hL := hok.lk
        constructor
        · rw [← Bool.not_eq_true]
          intro hk2
          rcases hm with q | ⟨_, q⟩
          · exact hL.ww k i hk hi (fun e => hne e.symm) j ⟨hk2, q⟩
          · exact hL.wr k i hk hi (fun e => hne e.symm) j ⟨hk2, q⟩
        · intro hwr
          subst hwr
          rw [← Bool.not_eq_true]
          intro hk2
          rcases hm with q | ⟨q, _⟩
          · exact hL.wr i k hi hk hne j ⟨q, hk2⟩
          · cases q
      · exact absurd h (by simp)
/-- An answer that is no 'fine' leaves all as it was. -/
theorem doW_full {w : WorldT} {e : EvT} (h : 20 ≤ (doW w e).2.2) : (doW w e).1 = w ∧ (doW w e).2.1 = [] := by
  unfold doW at h ⊢
  split at h
  · exact absurd h (by simp)
  · rename_i h5
    rw [if_neg h5]
    split at h
    · exact absurd h (by simp)
    · rename_i h6
      rw [if_neg h6]
      split at h
      · rename_i h9
        rw [if_pos h9]
        refine ⟨?_, rfl⟩
        unfold giveW at h ⊢
        split at h
        · rename_i q; rw [if_pos q]
        · exfalso
          dsimp only at h
          unfold storeDo at h
          repeat' split at h
          all_goals simp at h
      · rename_i h9
        rw [if_neg h9]
        split at h
        · rename_i hf; rw [if_pos hf]; exact ⟨rfl, rfl⟩
        · rename_i hf
          rw [if_neg hf]
          split at h
          · rename_i h8
            rw [if_pos h8]
            refine ⟨?_, rfl⟩
            unfold evictW at h ⊢
            split at h
            · exact absurd h (by simp)
            · rename_i q; rw [if_neg q]
          · rename_i h8
            rw [if_neg h8]
            split at h
            · rename_i hl; rw [if_pos hl]; exact ⟨rfl, rfl⟩
            · rename_i hl
              rw [if_neg hl]
              unfold whoW at h ⊢
              split at h
              · rename_i h1
                rw [if_pos h1]
                refine ⟨?_, rfl⟩
                unfold lockW at h ⊢
                split at h
                · rename_i q; rw [if_pos q]
                · rename_i q
                  rw [if_neg q]
                  split at h
                  · rename_i hy; simp only [hy]
                  · rename_i x hy
                    simp only [hy]
                    split at h
                    · exact absurd h (by simp)
                    · rename_i q2; rw [if_neg q2]
              · rename_i h1
                rw [if_neg h1]
                split at h
                · rename_i h2
                  rw [if_pos h2]
                  unfold readW at h ⊢
                  split at h
                  · rename_i q
                    rw [if_pos q]
                    split at h
                    · exact absurd h (by simp)
                    · rename_i q2; rw [if_neg q2]; exact ⟨rfl, rfl⟩
                  · rename_i q; rw [if_neg q]; exact ⟨rfl, rfl⟩
                · rename_i h2
                  rw [if_neg h2]
                  split at h
                  · rename_i h3
                    rw [if_pos h3]
                    refine ⟨?_, rfl⟩
                    unfold writeW at h ⊢
                    split at h
                    · rename_i q
                      rw [if_pos q]
                      split at h
                      · rename_i q2
                        rw [if_pos q2]
                        split at h
                        · exact absurd h (by simp)
                        · rename_i q3; rw [if_neg q3]
                      · rename_i q2; rw [if_neg q2]
                    · rename_i q; rw [if_neg q]
                  · rename_i h3
                    rw [if_neg h3]
                    split at h
                    · rename_i h4
                      rw [if_pos h4]
                      split at h
                      · exact absurd h (by simp)
                      · rename_i hy; simp only [hy]; exact ⟨trivial, trivial⟩
                    · exact absurd h (by simp)
end Go.Ev

/- Plain words: histories. No program in sight. -/
set_option linter.unusedSimpArgs false
set_option linter.unusedVariables false
namespace Go.Ev
def newSt : StoreT := ⟨[[], [], []], [[], [], []], [0, 0, 0], [0, 0, 0], [0, 0, 0]⟩
def newW (size many : Int) : WorldT := ⟨size, many, newSt, [noH, noH, noH], [noO, noO, noO], [0, 0, 0], [true, true, true], [], []⟩
def layOk (size many : Int) : Bool := !ltI size 1 && !ltI 8 size && !ltI many 1 && !ltI 3 many
theorem layOk_iff {size many : Int} : layOk size many = true ↔ 1 ≤ size ∧ size ≤ 8 ∧ 1 ≤ many ∧ many ≤ 3 := by
  simp only [layOk, Bool.and_eq_true, Bool.not_eq_true', ltI_not]
  omega
theorem three {P : Nat → Prop} (h0 : P 0) (h1 : P 1) (h2 : P 2) : ∀ i, i < 3 → P i := fun i hi => by
  match i, hi with
  | 0, _ => exact h0
  | 1, _ => exact h1
  | 2, _ => exact h2
theorem newW_ok {size many : Int} (h : layOk size many = true) : WorldP (newW size many) := by
  have hown : ∀ i, i < 3 → (newW size many).own i = noO := three rfl rfl rfl
  refine ⟨layOk_iff.1 h, storeOk_iff.1 (show storeOk newSt = true by decide), lockOk_iff.1 (show lockOk [noH, noH, noH] = true by decide), rfl, rfl, rfl, by simp [newW], fun i hi => by rw [hown i hi]; exact noO_ok, three ⟨Int.le_refl 0, show (0 : Int) ≤ 100 by decide⟩ ⟨Int.le_refl 0, show (0 : Int) ≤ 100 by decide⟩ ⟨Int.le_refl 0, show (0 : Int) ≤ 100 by decide⟩, fun i hi _ => hown i hi, rfl, by simp [newW], by simp [newW], fun i hi j hj hh => ?_⟩
  rw [hown i hi] at hh
  exact absurd hh (by simp [noO, inF])
def playW (w : WorldT) : List EvT → WorldT × List Int
  | [] => (w, [])
  | e :: es => ((playW (doW w e).1 es).1, (doW w e).2.2 :: (playW (doW w e).1 es).2)
theorem playW_ok : ∀ (es : List EvT) {w : WorldT}, WorldP w → WorldP (playW w es).1
  | [], w, h => h
  | e :: es, w, h => playW_ok es (doW_ok h e)
theorem playW_len : ∀ (es : List EvT) (w : WorldT), (playW w es).2.length = es.length
  | [], w => rfl
  | e :: es, w => by simp [playW, playW_len es]
theorem playW_app : ∀ (es fs : List EvT) (w : WorldT), playW w (es ++ fs) = ((playW (playW w es).1 fs).1, (playW w es).2 ++ (playW (playW w es).1 fs).2)
  | [], fs, w => rfl
  | e :: es, fs, w => by simp [playW, playW_app es fs]
/-! ### bytes that may be in a file -/
theorem getD_ok {xs : Bs} (h : xs.all okB = true) (j : Nat) {d : UInt8} (hd : okB d = true) : okB (xs.getD j d) = true := by
  rw [List.getD_eq_getElem?_getD]
  by_cases hj : j < xs.length
  · rw [List.getElem?_eq_getElem hj]
    exact List.all_eq_true.1 h _ (List.getElem_mem hj)
  · rw [List.getElem?_eq_none (by omega)]; exact hd
theorem txtOk_all {s : Bs} (h : txtOk s = true) : s.all okB = true := by
  simp only [txtOk, Bool.and_eq_true] at h
  exact h.1
theorem WorldP.byte_ok {w : WorldT} (h : WorldP w) (j : Nat) : okB (w.byte j) = true := by
  unfold WorldT.byte fileAt
  refine getD_ok ?_ _ (by decide)
  rw [List.getD_eq_getElem?_getD]
  by_cases hj : objOf w.size.toNat w.many.toNat j < w.st.now.length
  · rw [List.getElem?_eq_getElem hj]
    exact txtOk_all (h.st.nowT _ (List.getElem_mem hj))
  · rw [List.getElem?_eq_none (by omega)]; rfl
theorem WorldP.see_ok {w : WorldT} (h : WorldP w) {j : Nat} (hj : j < 48) : okB (w.see j) = true := by
  have g : ∀ i, i < 3 → okB ((w.own i).t.getD j 0) = true := fun i hi => by
    obtain ⟨h1, _, _, h4⟩ := ownOk_bd (h.own i hi)
    rw [List.getD_eq_getElem?_getD, List.getElem?_eq_getElem (by omega)]
    exact List.all_eq_true.1 h4 _ (List.getElem_mem _)
  unfold WorldT.see
  split
  · exact g 2 (by omega)
  · split
    · exact g 1 (by omega)
    · split
      · exact g 0 (by omega)
      · exact h.byte_ok j
theorem all_of_get {xs : Bs} {P : UInt8 → Bool} (h : ∀ j, j < xs.length → P (xs.getD j 0) = true) : xs.all P = true := by
  rw [List.all_eq_true]
  intro c hc
  obtain ⟨j, hj, rfl⟩ := List.getElem_of_mem hc
  have := h j hj
  rwa [List.getD_eq_getElem?_getD, List.getElem?_eq_getElem hj] at this
theorem WorldP.text_ok {w : WorldT} (h : WorldP w) : txtOk w.text = true := by
  obtain ⟨a1, a2⟩ := h.textGet
  simp only [txtOk, Bool.and_eq_true, Bool.not_eq_true', ltI_not]
  refine ⟨all_of_get fun j hj => ?_, by omega⟩
  rw [a2 j (by omega)]
  exact h.see_ok (by omega)
theorem WorldP.file_ok {w : WorldT} (h : WorldP w) : txtOk w.file = true := by
  simp only [txtOk, Bool.and_eq_true, Bool.not_eq_true', ltI_not, file_len]
  refine ⟨all_of_get fun j hj => ?_, by omega⟩
  rw [file_len] at hj
  rw [file_getD w hj]
  exact h.byte_ok j
/-- The program's write into what all see. -/
theorem twS_of {s : Bs} {k : Int} {x : Bs} (h1 : txtOk s = true) (h2 : wrOk k x = true) : twS s k x = (wrS s k.toNat x, true) := by
  simp only [twS, h1, h2, if_true]
theorem doW_write {w : WorldT} {e : EvT} (hw : WorldP w) (hk : e.kind = 3) (h : (doW w e).2.2 = 0) : e.who.toNat < 3 ∧ w.live e.who.toNat = true ∧ 0 ≤ e.pos ∧ WriteR w e.who.toNat e.pos.toNat e.data (doW w e).1 := by
  unfold doW at h ⊢
  rw [if_neg (by omega), if_neg (by omega), if_neg (by omega)] at h ⊢
  split at h
  · exact absurd h (by simp)
  · rename_i hf
    obtain ⟨hi, _⟩ := form_who hf
    rw [if_neg hf]
    rw [if_neg (by omega)] at h ⊢
    split at h
    · exact absurd h (by simp)
    · rename_i hl
      rw [if_neg hl]
      rw [Bool.not_eq_false] at hl
      unfold whoW at h ⊢
      rw [if_neg (by omega), if_neg (by omega), if_pos hk] at h ⊢
      obtain ⟨g1, g2⟩ := writeW_fine hw hi hl h
      exact ⟨hi, hl, g1, g2⟩
theorem doW_codes {w : WorldT} (hw : WorldP w) (e : EvT) : (doW w e).2.2 = 0 ∨ 20 ≤ (doW w e).2.2 ∨ (e.kind = 9 ∧ (doW w e).2.2 = 2) := by
  unfold doW
  split
  · exact .inl rfl
  · split
    · exact .inl rfl
    · split
      · rename_i h9
        unfold giveW
        split
        · exact .inr (.inl (by simp))
        · rename_i hc
          simp only [Bool.or_eq_true, Bool.not_eq_true', not_or, Bool.not_eq_true, Bool.not_eq_false, ltI_not, ltI_iff] at hc
          have hlt : e.pos.toNat < w.late.length := by omega
          have hq := hw.late (w.late.getD e.pos.toNat ⟨0, 0, 0, 0, 0, []⟩) (by
            rw [List.getD_eq_getElem?_getD, List.getElem?_eq_getElem hlt]
            exact List.getElem_mem hlt)
          rw [storeDo_late hq]
          exact .inr (.inr ⟨h9, rfl⟩)
      · split
        · exact .inr (.inl (by simp))
        · split
          · unfold evictW
            split
            · exact .inl rfl
            · exact .inr (.inl (by simp))
          · split
            · exact .inr (.inl (by simp))
            · unfold whoW
              split
              · unfold lockW
                repeat' split
                all_goals first | exact .inl rfl | exact .inr (.inl (by simp))
              · split
                · unfold readW
                  repeat' split
                  all_goals first | exact .inl rfl | exact .inr (.inl (by simp))
                · split
                  · unfold writeW
                    repeat' split
                    all_goals first | exact .inl rfl | exact .inr (.inl (by simp))
                  · split
                    · split
                      · exact .inl rfl
                      · exact .inr (.inl (by simp))
                    · exact .inl rfl
/-! ### without deaths -/
def isDeath (e : EvT) (c : Int) : Bool := (eqI e.kind 7 || eqI e.kind 8) && eqI c 0
def flatT : List EvT → List Int → Bs → Bs
  | e :: es, c :: cs, s => flatT es cs (if (eqI e.kind 3 && eqI c 0) = true then (twS s e.pos e.data).1 else s)
  | _, _, s => s
theorem do_text {w : WorldT} (hw : WorldP w) {e : EvT} (h : isDeath e (doW w e).2.2 = false) : (doW w e).1.text = if (eqI e.kind 3 && eqI (doW w e).2.2 0) = true then (twS w.text e.pos e.data).1 else w.text := by
  by_cases hc : (eqI e.kind 3 && eqI (doW w e).2.2 0) = true
  · rw [if_pos hc]
    simp only [Bool.and_eq_true, eqI_iff] at hc
    obtain ⟨hi, _, hp, R⟩ := doW_write hw hc.1 hc.2
    rw [R.text_eq hw hi, twS_of hw.text_ok (by have := R.wr; rwa [Int.toNat_of_nonneg hp] at this)]
  · rw [if_neg hc]
    simp only [Bool.and_eq_true, eqI_iff, not_and] at hc
    by_cases h378 : e.kind = 3 ∨ e.kind = 7 ∨ e.kind = 8
    · have h20 : 20 ≤ (doW w e).2.2 := by
        rcases doW_codes hw e with q | q | q
        · rcases h378 with k | k | k
          · exact absurd q (hc k)
          · simp [isDeath, k, q] at h
          · simp [isDeath, k, q] at h
        · exact q
        · omega
      rw [(doW_full h20).1]
    · exact text_eq hw (doW_ok hw e) fun j hj => still_see hw (by omega) (by omega) (by omega) hj
def noDeath : List EvT → List Int → Bool
  | e :: es, c :: cs => !isDeath e c && noDeath es cs
  | _, _ => true
theorem flat_text : ∀ (es : List EvT) {w : WorldT}, WorldP w → noDeath es (playW w es).2 = true → (playW w es).1.text = flatT es (playW w es).2 w.text
  | [], w, hw, _ => rfl
  | e :: es, w, hw, h => by
    simp only [playW, noDeath, Bool.and_eq_true, Bool.not_eq_true'] at h
    simp only [playW, flatT]
    rw [flat_text es (doW_ok hw e) h.2, do_text hw h.1]
/-! ### the late -/
theorem give_first {w : WorldT} (hw : WorldP w) (h : 0 < w.late.length) : giveW w 0 = ({ w with late := w.late.drop 1 }, 2) := by
  have hq := hw.late (w.late.getD 0 ⟨0, 0, 0, 0, 0, []⟩) (by
    rw [List.getD_eq_getElem?_getD, List.getElem?_eq_getElem h]
    exact List.getElem_mem h)
  unfold giveW
  have e1 : (ltI 0 0 || !ltI 0 w.late.length) = false := by simp [ltI, h]
  rw [if_neg (by rw [e1]; simp)]
  have e2 : storeDo w.st (w.late.getD (Int.toNat 0) ⟨0, 0, 0, 0, 0, []⟩) = (w.st, 2) := storeDo_late hq
  rw [e2]
  simp
/-! ### the dead who bar -/
theorem evict_fine {w : WorldT} {k : Nat} (h : (evictW w k).2 = 0) : (evictW w k).1.locks = w.locks.set k noH ∧ (evictW w k).1.alive = w.alive.set k true ∧ (evictW w k).1.owns = w.owns.set k noO ∧ (evictW w k).1.epochs = w.epochs.set k (w.ep k + 1) ∧ (evictW w k).1.size = w.size ∧ (evictW w k).1.many = w.many ∧ (evictW w k).1.st.now = w.st.now ∧ (evictW w k).1.kept = [] := by
  unfold evictW at h ⊢
  split at h
  · rename_i q
    rw [if_pos q]
    exact ⟨rfl, rfl, rfl, rfl, rfl, rfl, rfl, rfl⟩
  · exact absurd h (by simp)
end Go.Ev

/- Plain words: how values lie flat. No program in sight. -/
set_option linter.unusedVariables false
namespace Go.Ev
abbrev reqL (q : ReqT) : List L := [.int .i64 q.who, .int .i64 q.epoch, .int .i64 q.num, .int .i64 q.obj, .int .i64 q.pos, .str q.data]
abbrev strsL (xs : List Bs) : List (List L) := xs.map fun s => [.str s]
abbrev intsL (xs : List Int) : List (List L) := xs.map fun n => [.int .i64 n]
abbrev storeL (s : StoreT) : List L := [.sl (strsL s.now), .sl (strsL s.sure), .sl (intsL s.last), .sl (intsL s.slast), .sl (intsL s.floors)]
abbrev holdL (h : HoldT) : List L := [.sl (h.r.map spL), .sl (h.w.map spL)]
abbrev ownL (o : OwnT) : List L := owL o.t o.h o.d
abbrev boolsL (xs : List Bool) : List (List L) := xs.map fun b => [.bool b]
abbrev worldL (w : WorldT) : List L := [.int .i64 w.size, .int .i64 w.many, .sl (strsL w.st.now), .sl (strsL w.st.sure), .sl (intsL w.st.last), .sl (intsL w.st.slast), .sl (intsL w.st.floors), .sl (w.locks.map holdL), .sl (w.owns.map ownL), .sl (intsL w.epochs), .sl (boolsL w.alive), .sl (w.kept.map reqL), .sl (w.late.map reqL)]
abbrev evL (e : EvT) : List L := [.int .i64 e.kind, .int .i64 e.who, .bool e.write, .int .i64 e.span.1, .int .i64 e.span.2, .int .i64 e.pos, .str e.data]
end Go.Ev

/- Answers: numbers as text; requests told. -/
set_option linter.unusedSimpArgs false
set_option linter.unusedVariables false
set_option maxRecDepth 100000
set_option maxHeartbeats 4000000
namespace Go.Ev
open Go.Proofs
theorem ev_Itoa (m : M) (n : Int) (h : -9223372036854775808 ≤ n ∧ n ≤ 9223372036854775807) : ev E 16 [.v m false [.int .i64 n]] = some { rs := [.v .own false [.str (Lib.itoa n)]], outs := [] } := by
  rw [ev_eq]
  simp [itoaK, h, leafOut]
theorem ev_spec_l4Who (m : M) (k : Int) : ev E 12 [.v m false [.int .i64 k]] = some (rB (whoOk k)) := by
  rw [ev_fn Tryd.f12 rfl Tryd.func12 rfl rfl rfl (Nat.le_of_ble_eq_true rfl)]
  cases e1 : ltI k 0 <;> simp [e1, whoOk]
theorem ev_impl_client (m : M) (k : Int) : ev E 15 [.v m false [.int .i64 k]] = some (rB (whoOk k)) := by
  rw [ev_fn Tryd.f15 rfl Tryd.func15 rfl rfl rfl (Nat.le_of_ble_eq_true rfl)]
  cases e1 : ltI k 0 <;> simp [e1, whoOk]
theorem ev_l5Req (m : M) (q : ReqT) (hx : q.data.length ≤ 4000000) : ev E 8 [.v m true (reqL q)] = some (rB (reqOk q)) := by
  have c1 : ∀ m, ev E 12 [.v m false [.int .i64 q.who]] = some (rB (whoOk q.who)) := fun m => ev_spec_l4Who m q.who
  have c2 : ∀ m, ev E 13 [.v m false [.str q.data]] = some (rB (txtOk q.data)) := fun m => ev_spec_TextOk m q.data (by omega)
  have hwr : wrOk q.pos q.data = (!ltI q.pos 0 && !ltI 48 q.pos && txtOk q.data && !eqS q.data [] && !ltI 48 (q.pos + q.data.length)) := rfl
  rw [ev_fn Tryd.f8 rfl Tryd.func8 rfl rfl rfl (Nat.le_of_ble_eq_true rfl)]
  cases e1 : whoOk q.who
  · simp [c1, e1, reqOk]
  cases e2 : ltI q.epoch 0
  case true => simp [c1, e1, e2, reqOk]
  cases e3 : ltI 100 q.epoch
  case true => simp [c1, e1, e2, e3, reqOk]
  cases e4 : ltI q.num 1
  case true => simp [c1, e1, e2, e3, e4, reqOk]
  cases e5 : ltI 1000 q.num
  case true => simp [c1, e1, e2, e3, e4, e5, reqOk]
  cases e6 : ltI q.obj 0
  case true => simp [c1, e1, e2, e3, e4, e5, e6, reqOk]
  cases e7 : ltI q.obj 3
  case false => simp [c1, e1, e2, e3, e4, e5, e6, e7, reqOk]
  cases e8 : ltI q.pos 0
  case true => simp [c1, e1, e2, e3, e4, e5, e6, e7, e8, reqOk, hwr]
  cases e9 : ltI 48 q.pos
  case true => simp [c1, e1, e2, e3, e4, e5, e6, e7, e8, e9, reqOk, hwr]
  have h1 := ltI_not.1 e8
  have h2 := ltI_not.1 e9
  have hw : IntKind.i64.wrap (q.pos + q.data.length) = q.pos + q.data.length := wrap64 (by omega)
  cases e10 : txtOk q.data
  · simp [c1, c2, e1, e2, e3, e4, e5, e6, e7, e8, e9, e10, reqOk, hwr]
  · cases e11 : eqS q.data [] <;> simp [c1, c2, e1, e2, e3, e4, e5, e6, e7, e8, e9, e10, e11, hw, reqOk, hwr]
theorem ev_formed (m : M) (q : ReqT) (hx : q.data.length ≤ 4000000) : ev E 10 [.v m true (reqL q)] = some (rB (reqOk q)) := by
  have c1 : ∀ m, ev E 15 [.v m false [.int .i64 q.who]] = some (rB (whoOk q.who)) := fun m => ev_impl_client m q.who
  have c2 : ∀ m m' m'', ev E 14 [.v m false [.str []], .v m' false [.int .i64 q.pos], .v m'' false [.str q.data]] = some { rs := [.v .own false [.str (twS [] q.pos q.data).1], .v .own false [.bool (wrOk q.pos q.data)]], outs := [] } := fun m m' m'' => by
    rw [ev_impl_TextWrite m m' m'' [] q.data q.pos (by simp) hx]
    have e0 : txtOk [] = true := by decide
    simp only [twS, e0, if_true]
    cases wrOk q.pos q.data <;> rfl
  rw [ev_fn Tryd.f10 rfl Tryd.func10 rfl rfl rfl (Nat.le_of_ble_eq_true rfl)]
  cases e1 : whoOk q.who
  · simp [c1, c2, e1, reqOk]
  cases e2 : ltI q.epoch 0
  case true => simp [c1, c2, e1, e2, reqOk]
  cases e3 : ltI 100 q.epoch
  case true => simp [c1, c2, e1, e2, e3, reqOk]
  cases e4 : ltI q.num 1
  case true => simp [c1, c2, e1, e2, e3, e4, reqOk]
  cases e5 : ltI 1000 q.num
  case true => simp [c1, c2, e1, e2, e3, e4, e5, reqOk]
  cases e6 : ltI q.obj 0
  case true => simp [c1, c2, e1, e2, e3, e4, e5, e6, reqOk]
  cases e7 : ltI q.obj 3 <;> simp [c1, c2, e1, e2, e3, e4, e5, e6, e7, reqOk]
/-! numbers in decimals -/
theorem wrap8 {n : Nat} (h : n < 256) : IntKind.u8.wrap (n : Int) = (n : Int) := by
  simp only [IntKind.wrap, IntKind.signed, IntKind.bits]
  simp
  omega
theorem lp_l10Dec (a : Code) (ha : a = lp Tryd.f9 0) : ∀ (k n : Nat) (m1 m3 : M) (out : List UInt8), n < 10 ^ k → n < 9223372036854775808 → out.length + k ≤ 40 →
    ∃ (n' : Nat) (out' : List UInt8) (m1' m3' : M), n' ≤ 9 ∧ Lib.decDigits n ++ out = UInt8.ofNat (48 + n') :: out' ∧ out'.length ≤ 40 ∧
    loopC E (ev E) 9 a { V := [(0, .v m1 false [.int .i64 n]), (3, .v m3 false [.str out])], H := [], ps := [] } =
      some (.exit 0, { V := [(0, .v m1' false [.int .i64 n']), (3, .v m3' false [.str out']), (13, vb false)], H := [], ps := [] })
  | k, n, m1, m3, out, h, hn, ho => by
    by_cases h9 : n ≤ 9
    · refine ⟨n, out, m1, m3, h9, ?_, by omega, ?_⟩
      · rw [Lib.decDigits, dif_pos (by omega)]; rfl
      · have e : ltI 9 n = false := ltI_not.2 (by omega)
        rw [loopC_of _ _ _ _ ha]
        clear ha
        simp [lp, loopsOf, Tryd.f9, e]
    · match k, h, ho with
      | 0, h, _ => simp at h; omega
      | k + 1, h, ho =>
        have hd : n / 10 < 10 ^ k := by rw [Nat.pow_succ] at h; omega
        obtain ⟨n', out', m1', m3', g1, g2, g3, ih⟩ := lp_l10Dec a ha k (n / 10) .ro .ro (UInt8.ofNat (48 + n % 10) :: out) hd (by omega) (by simp; omega)
        refine ⟨n', out', m1', m3', g1, ?_, g3, ?_⟩
        · rw [← g2, Lib.decDigits, dif_neg (by omega)]; simp
        · have e : ltI 9 n = true := ltI_iff.2 (by omega)
          have hq : Int.tdiv (n : Int) 10 = ((n / 10 : Nat) : Int) := rfl
          have hr : Int.tmod (n : Int) 10 = ((n % 10 : Nat) : Int) := rfl
          have w1 : IntKind.i64.wrap (48 + ((n % 10 : Nat) : Int)) = ((48 + n % 10 : Nat) : Int) := by rw [wrap64] <;> omega
          have w2 : IntKind.u8.wrap ((48 + n % 10 : Nat) : Int) = ((48 + n % 10 : Nat) : Int) := wrap8 (by omega)
          have w3 : IntKind.i64.wrap ((n / 10 : Nat) : Int) = ((n / 10 : Nat) : Int) := wrap64 (by omega)
          have hl : 1 + out.length ≤ 4611686018427387904 := by omega
          have hl2 : out.length + 1 ≤ 4611686018427387904 := by omega
          generalize hv : 48 + n % 10 = v at *
          generalize n / 10 = d at *
          generalize n % 10 = r at *
          rw [loopC_of _ _ _ _ ha]
          clear ha
          simp [lp, loopsOf, Tryd.f9, e, hq, hr, w1, w2, w3, hl, hl2, bytesOfRows]
          simpa using ih
theorem ev_l10Dec_nat (m : M) (n : Nat) (hn : n < 9223372036854775808) : ev E 9 [.v m false [.int .i64 n]] = some { rs := [.v .own false [.str (Lib.decDigits n)]], outs := [] } := by
  obtain ⟨n', out', m1', m3', g1, g2, g3, hl⟩ := lp_l10Dec _ rfl 19 n m .ro [] (by omega) hn (by simp)
  have e1 : ltI n (-9223372036854775807) = false := ltI_not.2 (by omega)
  have e2 : ltI n 0 = false := ltI_not.2 (by omega)
  have w1 : IntKind.i64.wrap (48 + (n' : Int)) = ((48 + n' : Nat) : Int) := by rw [wrap64] <;> omega
  have w2 : IntKind.u8.wrap ((48 + n' : Nat) : Int) = ((48 + n' : Nat) : Int) := wrap8 (by omega)
  have hl1 : 1 + out'.length ≤ 4611686018427387904 := by omega
  have hl2 : out'.length + 1 ≤ 4611686018427387904 := by omega
  generalize hv : 48 + n' = v at *
  rw [List.append_nil] at g2
  rw [ev_fn Tryd.f9 rfl Tryd.func9 rfl rfl rfl (Nat.le_of_ble_eq_true rfl)]
  simp [e1, e2]
  rw [loopC_at ?_ hl]
  · simp [w1, w2, hl1, hl2, bytesOfRows, g2]
  · rfl
theorem ev_l10Dec (m : M) (n : Int) (hn : -9223372036854775808 ≤ n ∧ n ≤ 9223372036854775807) : ev E 9 [.v m false [.int .i64 n]] = some { rs := [.v .own false [.str (Lib.itoa n)]], outs := [] } := by
  by_cases h0 : 0 ≤ n
  · obtain ⟨k, rfl⟩ : ∃ k : Nat, n = k := ⟨n.toNat, by omega⟩
    rw [ev_l10Dec_nat m k (by omega)]
    simp only [Lib.itoa, if_neg (show ¬ (k : Int) < 0 by omega), Int.toNat_natCast]
  · by_cases h1 : n < -9223372036854775807
    · have e1 : ltI n (-9223372036854775807) = true := ltI_iff.2 h1
      have hn' : n = -9223372036854775808 := by omega
      have hi : Lib.itoa (-9223372036854775808) = [45, 57, 50, 50, 51, 51, 55, 50, 48, 51, 54, 56, 53, 52, 55, 55, 53, 56, 48, 56] := by decide +kernel
      rw [ev_fn Tryd.f9 rfl Tryd.func9 rfl rfl rfl (Nat.le_of_ble_eq_true rfl)]
      simp [e1, hn', hi]
    · have e1 : ltI n (-9223372036854775807) = false := ltI_not.2 (by omega)
      have e2 : ltI n 0 = true := ltI_iff.2 (by omega)
      obtain ⟨k, hk⟩ : ∃ k : Nat, n = -(k : Int) := ⟨n.natAbs, by omega⟩
      have hw : IntKind.i64.wrap (0 - n) = (k : Int) := by rw [wrap64] <;> omega
      have c := fun m => ev_l10Dec_nat m k (by omega)
      have hlen : (Lib.decDigits k).length ≤ 40 := by
        have := Lib.itoa_length_le k (by omega) (by omega)
        simp only [Lib.itoa, if_neg (show ¬ (k : Int) < 0 by omega), Int.toNat_natCast] at this
        omega
      have hw2 : IntKind.i64.wrap (-n) = (k : Int) := by rw [wrap64] <;> omega
      have hl1 : 1 + (Lib.decDigits k).length ≤ 4611686018427387904 := by omega
      have hl2 : (Lib.decDigits k).length + 1 ≤ 4611686018427387904 := by omega
      have hi : Lib.itoa n = 45 :: Lib.decDigits k := by
        simp only [Lib.itoa, if_pos (show n < 0 by omega)]
        rw [show n.natAbs = k by omega]
      rw [ev_fn Tryd.f9 rfl Tryd.func9 rfl rfl rfl (Nat.le_of_ble_eq_true rfl)]
      simp [e1, e2, hw, hw2, c, hl1, hl2, hi]
/-! numbers with spaces between -/
def i64 (n : Int) : Prop := -9223372036854775808 ≤ n ∧ n ≤ 9223372036854775807
theorem lp_spaced (m : M) (xs : List Int) (hx : ∀ n ∈ xs, i64 n) (hb : xs.length ≤ 1000) (a : Code) (ha : a = lp Tryd.f11 0) : ∀ (n i : Nat) (out : List (List UInt8)), i + n = xs.length → out.length = i →
    loopC E (ev E) 11 a { V := [(3, at1 3), (7, .v m false [.sl (intsL xs)]), (8, vi xs.length), (9, vi i)], H := [ow (.c 3) [.sl (strsL out)]], ps := [] } =
      some (.exit 0, { V := [(3, at1 3), (7, .v m false [.sl (intsL xs)]), (8, vi xs.length), (9, vi xs.length), (10, vb false)], H := [ow (.c 3) [.sl (strsL (out ++ (xs.drop i).map Lib.itoa))]], ps := [] })
  | 0, i, out, h0, ho => by
    rw [loopC_of _ _ _ _ ha]
    obtain rfl : i = xs.length := by omega
    simp [lp, loopsOf, Tryd.f11]
  | n + 1, i, out, h0, ho => by
    have hlt : i < xs.length := by omega
    have hw := wrapN i (by omega)
    have c := fun m => ev_Itoa m xs[i] (hx _ (List.getElem_mem hlt))
    have ih := lp_spaced m xs hx hb a ha n (i + 1) (out ++ [Lib.itoa xs[i]]) (by omega) (by simp; omega)
    have hsz : (out.length + 1) * 16 ≤ 17592186044416 := by omega
    have hsz2 : out.length + 1 ≤ 17592186044416 := by omega
    push_cast at ih
    rw [List.drop_eq_getElem_cons hlt, List.map_cons]
    rw [loopC_of _ _ _ _ ha]
    clear ha
    simp [lp, loopsOf, Tryd.f11, hlt, hw, c, hsz, hsz2]
    simpa using ih
theorem join_len (sep : List UInt8) (B : Nat) : ∀ (xs : List (List UInt8)), (∀ x ∈ xs, x.length + sep.length ≤ B) → (Lib.join xs sep).length ≤ xs.length * B
  | [], _ => by simp [Lib.join, List.intercalate]
  | [x], h => by
    have := h x (by simp)
    simp only [Lib.join, List.intercalate, List.intersperse, List.flatten_cons, List.flatten_nil, List.append_nil, List.length_cons, List.length_nil]
    omega
  | x :: y :: r, h => by
    have h1 := h x (by simp)
    have ih := join_len sep B (y :: r) fun z hz => h z (by simp [hz])
    have e : Lib.join (x :: y :: r) sep = x ++ sep ++ Lib.join (y :: r) sep := by simp [Lib.join, List.intercalate, List.intersperse]
    rw [e]
    simp only [List.length_append, List.length_cons] at ih ⊢
    have : (r.length + 1 + 1) * B = (r.length + 1) * B + B := by rw [Nat.succ_mul]
    omega
theorem strRows_of (xs : List (List UInt8)) : strRows (strsL xs) = some xs := by
  induction xs with
  | nil => rfl
  | cons x xs ih => simp only [List.map_cons, strRows, ih, Option.map_some]
theorem ev_Join (m m' : M) (xs : List (List UInt8)) (sep : List UInt8) (h1 : xs.length ≤ 140737488355328) (h2 : (Lib.join xs sep).length ≤ 140737488355328) : ev E 17 [.v m false [.sl (strsL xs)], .v m' false [.str sep]] = some { rs := [.v .own false [.str (Lib.join xs sep)]], outs := [] } := by
  have hx : E.ext 17 = some joinK := rfl
  rw [ev_eq]
  simp only [hx, joinK, strRows_of, h1, h2, and_self, if_true]
  rfl
theorem ev_spaced (m : M) (xs : List Int) (hx : ∀ n ∈ xs, i64 n) (hb : xs.length ≤ 1000) : ev E 11 [.v m false [.sl (intsL xs)]] = some { rs := [.v .own false [.str (Lib.join (xs.map Lib.itoa) [32])]], outs := [] } := by
  have hl := lp_spaced m xs hx hb _ rfl xs.length 0 [] (by omega) rfl
  have hj : (Lib.join (xs.map Lib.itoa) [32]).length ≤ 140737488355328 := by
    have := join_len [32] 22 (xs.map Lib.itoa) fun z hz => by
      obtain ⟨n, hn, rfl⟩ := List.mem_map.1 hz
      have := Lib.itoa_length_le n (hx n hn).1 (hx n hn).2
      simp only [List.length_singleton]
      omega
    rw [List.length_map] at this
    omega
  have c := fun m m' => ev_Join m m' (xs.map Lib.itoa) [32] (by rw [List.length_map]; omega) hj
  push_cast at hl
  rw [ev_fn Tryd.f11 rfl Tryd.func11 rfl rfl rfl (Nat.le_of_ble_eq_true rfl)]
  simp
  rw [loopC_at ?_ (by simpa using hl)]
  · simp [strsL] at c ⊢
    simp [c]
  · rfl
end Go.Ev
