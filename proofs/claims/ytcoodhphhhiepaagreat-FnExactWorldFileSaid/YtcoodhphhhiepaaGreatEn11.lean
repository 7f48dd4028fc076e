/- My texts joined: EvW9, EvQ1, EvT50, EvT51, EvT52, EvT53. No condition. -/
import Derived.Test.YtcoodhphhhiepaaGreatEn8
import Derived.Test.YtcoodhphhhiepaaGreatEn10
/- Plain words: histories. No program in sight. -/
set_option linter.unusedSimpArgs false
set_option linter.unusedVariables false
namespace Go.Ev
def newSt : StoreT := ⟨[[], [], []], [[], [], []], [0, 0, 0], [0, 0, 0], [0, 0, 0]⟩
def newW (size many : Int) : WorldT := ⟨size, many, newSt, [noH, noH, noH], [noO, noO, noO], [0, 0, 0], [true, true, true], [], []⟩
def layOk (size many : Int) : Bool := !ltI size 1 && !ltI 8 size && !ltI many 1 && !ltI 3 many
theorem layOk_iff {size many : Int} : layOk size many = true ↔ 1 ≤ size ∧ size ≤ 8 ∧ 1 ≤ many ∧ many ≤ 3 := by
  simp only [layOk, Bool.and_eq_true, Bool.not_eq_true', ltI_not]
  omega
theorem three {P : Nat → Prop} (h0 : P 0) (h1 : P 1) (h2 : P 2) : ∀ i, i < 3 → P i := fun i hi => by
  match i, hi with
  | 0, _ => exact h0
  | 1, _ => exact h1
  | 2, _ => exact h2
theorem newW_ok {size many : Int} (h : layOk size many = true) : WorldP (newW size many) := by
  have hown : ∀ i, i < 3 → (newW size many).own i = noO := three rfl rfl rfl
  refine ⟨layOk_iff.1 h, storeOk_iff.1 (show storeOk newSt = true by decide), lockOk_iff.1 (show lockOk [noH, noH, noH] = true by decide), rfl, rfl, rfl, by simp [newW], fun i hi => by rw [hown i hi]; exact noO_ok, three ⟨Int.le_refl 0, show (0 : Int) ≤ 100 by decide⟩ ⟨Int.le_refl 0, show (0 : Int) ≤ 100 by decide⟩ ⟨Int.le_refl 0, show (0 : Int) ≤ 100 by decide⟩, fun i hi _ => hown i hi, rfl, by simp [newW], by simp [newW], fun i hi j hj hh => ?_⟩
  rw [hown i hi] at hh
  exact absurd hh (by simp [noO, inF])
def playW (w : WorldT) : List EvT → WorldT × List Int
  | [] => (w, [])
  | e :: es => ((playW (doW w e).1 es).1, (doW w e).2.2 :: (playW (doW w e).1 es).2)
theorem playW_ok : ∀ (es : List EvT) {w : WorldT}, WorldP w → WorldP (playW w es).1
  | [], w, h => h
  | e :: es, w, h => playW_ok es (doW_ok h e)
theorem playW_len : ∀ (es : List EvT) (w : WorldT), (playW w es).2.length = es.length
  | [], w => rfl
  | e :: es, w => by simp [playW, playW_len es]
theorem playW_app : ∀ (es fs : List EvT) (w : WorldT), playW w (es ++ fs) = ((playW (playW w es).1 fs).1, (playW w es).2 ++ (playW (playW w es).1 fs).2)
  | [], fs, w => rfl
  | e :: es, fs, w => by simp [playW, playW_app es fs]
/-! ### bytes that may be in a file -/
theorem getD_ok {xs : Bs} (h : xs.all okB = true) (j : Nat) {d : UInt8} (hd : okB d = true) : okB (xs.getD j d) = true := by
  rw [List.getD_eq_getElem?_getD]
  by_cases hj : j < xs.length
  · rw [List.getElem?_eq_getElem hj]
    exact List.all_eq_true.1 h _ (List.getElem_mem hj)
  · rw [List.getElem?_eq_none (by omega)]; exact hd
theorem txtOk_all {s : Bs} (h : txtOk s = true) : s.all okB = true := by
  simp only [txtOk, Bool.and_eq_true] at h
  exact h.1
theorem WorldP.byte_ok {w : WorldT} (h : WorldP w) (j : Nat) : okB (w.byte j) = true := by
  unfold WorldT.byte fileAt
  refine getD_ok ?_ _ (by decide)
  rw [List.getD_eq_getElem?_getD]
  by_cases hj : objOf w.size.toNat w.many.toNat j < w.st.now.length
  · rw [List.getElem?_eq_getElem hj]
    exact txtOk_all (h.st.nowT _ (List.getElem_mem hj))
  · rw [List.getElem?_eq_none (by omega)]; rfl
theorem WorldP.see_ok {w : WorldT} (h : WorldP w) {j : Nat} (hj : j < 48) : okB (w.see j) = true := by
  have g : ∀ i, i < 3 → okB ((w.own i).t.getD j 0) = true := fun i hi => by
    obtain ⟨h1, _, _, h4⟩ := ownOk_bd (h.own i hi)
    rw [List.getD_eq_getElem?_getD, List.getElem?_eq_getElem (by omega)]
    exact List.all_eq_true.1 h4 _ (List.getElem_mem _)
  unfold WorldT.see
  split
  · exact g 2 (by omega)
  · split
    · exact g 1 (by omega)
    · split
      · exact g 0 (by omega)
      · exact h.byte_ok j
theorem all_of_get {xs : Bs} {P : UInt8 → Bool} (h : ∀ j, j < xs.length → P (xs.getD j 0) = true) : xs.all P = true := by
  rw [List.all_eq_true]
  intro c hc
  obtain ⟨j, hj, rfl⟩ := List.getElem_of_mem hc
  have := h j hj
  rwa [List.getD_eq_getElem?_getD, List.getElem?_eq_getElem hj] at this
theorem WorldP.text_ok {w : WorldT} (h : WorldP w) : txtOk w.text = true := by
  obtain ⟨a1, a2⟩ := h.textGet
  simp only [txtOk, Bool.and_eq_true, Bool.not_eq_true', ltI_not]
  refine ⟨all_of_get fun j hj => ?_, by omega⟩
  rw [a2 j (by omega)]
  exact h.see_ok (by omega)
theorem WorldP.file_ok {w : WorldT} (h : WorldP w) : txtOk w.file = true := by
  simp only [txtOk, Bool.and_eq_true, Bool.not_eq_true', ltI_not, file_len]
  refine ⟨all_of_get fun j hj => ?_, by omega⟩
  rw [file_len] at hj
  rw [file_getD w hj]
  exact h.byte_ok j
/-- The program's write into what all see. -/
theorem twS_of {s : Bs} {k : Int} {x : Bs} (h1 : txtOk s = true) (h2 : wrOk k x = true) : twS s k x = (wrS s k.toNat x, true) := by
  simp only [twS, h1, h2, if_true]
theorem doW_write {w : WorldT} {e : EvT} (hw : WorldP w) (hk : e.kind = 3) (h : (doW w e).2.2 = 0) : e.who.toNat < 3 ∧ w.live e.who.toNat = true ∧ 0 ≤ e.pos ∧ WriteR w e.who.toNat e.pos.toNat e.data (doW w e).1 := by
  unfold doW at h ⊢
  rw [if_neg (by omega), if_neg (by omega), if_neg (by omega)] at h ⊢
  split at h
  · exact absurd h (by simp)
  · rename_i hf
    obtain ⟨hi, _⟩ := form_who hf
    rw [if_neg hf]
    rw [if_neg (by omega)] at h ⊢
    split at h
    · exact absurd h (by simp)
    · rename_i hl
      rw [if_neg hl]
      rw [Bool.not_eq_false] at hl
      unfold whoW at h ⊢
      rw [if_neg (by omega), if_neg (by omega), if_pos hk] at h ⊢
      obtain ⟨g1, g2⟩ := writeW_fine hw hi hl h
      exact ⟨hi, hl, g1, g2⟩
theorem doW_codes {w : WorldT} (hw : WorldP w) (e : EvT) : (doW w e).2.2 = 0 ∨ 20 ≤ (doW w e).2.2 ∨ (e.kind = 9 ∧ (doW w e).2.2 = 2) := by
  unfold doW
  split
  · exact .inl rfl
  · split
    · exact .inl rfl
    · split
      · rename_i h9
        unfold giveW
        split
        · exact .inr (.inl (by simp))
        · rename_i hc
          simp only [Bool.or_eq_true, Bool.not_eq_true', not_or, Bool.not_eq_true, Bool.not_eq_false, ltI_not, ltI_iff] at hc
          have hlt : e.pos.toNat < w.late.length := by omega
          have hq := hw.late (w.late.getD e.pos.toNat ⟨0, 0, 0, 0, 0, []⟩) (by
            rw [List.getD_eq_getElem?_getD, List.getElem?_eq_getElem hlt]
            exact List.getElem_mem hlt)
          rw [storeDo_late hq]
          exact .inr (.inr ⟨h9, rfl⟩)
      · split
        · exact .inr (.inl (by simp))
        · split
          · unfold evictW
            split
            · exact .inl rfl
            · exact .inr (.inl (by simp))
          · split
            · exact .inr (.inl (by simp))
            · unfold whoW
              split
              · unfold lockW
                repeat' split
                all_goals first | exact .inl rfl | exact .inr (.inl (by simp))
              · split
                · unfold readW
                  repeat' split
                  all_goals first | exact .inl rfl | exact .inr (.inl (by simp))
                · split
                  · unfold writeW
                    repeat' split
                    all_goals first | exact .inl rfl | exact .inr (.inl (by simp))
                  · split
                    · split
                      · exact .inl rfl
                      · exact .inr (.inl (by simp))
                    · exact .inl rfl
/-! ### without deaths -/
def isDeath (e : EvT) (c : Int) : Bool := (eqI e.kind 7 || eqI e.kind 8) && eqI c 0
def flatT : List EvT → List Int → Bs → Bs
  | e :: es, c :: cs, s => flatT es cs (if (eqI e.kind 3 && eqI c 0) = true then (twS s e.pos e.data).1 else s)
  | _, _, s => s
theorem do_text {w : WorldT} (hw : WorldP w) {e : EvT} (h : isDeath e (doW w e).2.2 = false) : (doW w e).1.text = if (eqI e.kind 3 && eqI (doW w e).2.2 0) = true then (twS w.text e.pos e.data).1 else w.text := by
  by_cases hc : (eqI e.kind 3 && eqI (doW w e).2.2 0) = true
  · rw [if_pos hc]
    simp only [Bool.and_eq_true, eqI_iff] at hc
    obtain ⟨hi, _, hp, R⟩ := doW_write hw hc.1 hc.2
    rw [R.text_eq hw hi, twS_of hw.text_ok (by have := R.wr; rwa [Int.toNat_of_nonneg hp] at this)]
  · rw [if_neg hc]
    simp only [Bool.and_eq_true, eqI_iff, not_and] at hc
    by_cases h378 : e.kind = 3 ∨ e.kind = 7 ∨ e.kind = 8
    · have h20 : 20 ≤ (doW w e).2.2 := by
        rcases doW_codes hw e with q | q | q
        · rcases h378 with k | k | k
          · exact absurd q (hc k)
          · simp [isDeath, k, q] at h
          · simp [isDeath, k, q] at h
        · exact q
        · omega
      rw [(doW_full h20).1]
    · exact text_eq hw (doW_ok hw e) fun j hj => still_see hw (by omega) (by omega) (by omega) hj
def noDeath : List EvT → List Int → Bool
  | e :: es, c :: cs => !isDeath e c && noDeath es cs
  | _, _ => true
theorem flat_text : ∀ (es : List EvT) {w : WorldT}, WorldP w → noDeath es (playW w es).2 = true → (playW w es).1.text = flatT es (playW w es).2 w.text
  | [], w, hw, _ => rfl
  | e :: es, w, hw, h => by
    simp only [playW, noDeath, Bool.and_eq_true, Bool.not_eq_true'] at h
    simp only [playW, flatT]
    rw [flat_text es (doW_ok hw e) h.2, do_text hw h.1]
/-! ### the late -/
theorem give_first {w : WorldT} (hw : WorldP w) (h : 0 < w.late.length) : giveW w 0 = ({ w with late := w.late.drop 1 }, 2) := by
  have hq := hw.late (w.late.getD 0 ⟨0, 0, 0, 0, 0, []⟩) (by
    rw [List.getD_eq_getElem?_getD, List.getElem?_eq_getElem h]
    exact List.getElem_mem h)
  unfold giveW
  have e1 : (ltI 0 0 || !ltI 0 w.late.length) = false := by simp [ltI, h]
  rw [if_neg (by rw [e1]; simp)]
  have e2 : storeDo w.st (w.late.getD (Int.toNat 0) ⟨0, 0, 0, 0, 0, []⟩) = (w.st, 2) := storeDo_late hq
  rw [e2]
  simp
/-! ### the dead who bar -/
theorem evict_fine {w : WorldT} {k : Nat} (h : (evictW w k).2 = 0) : (evictW w k).1.locks = w.locks.set k noH ∧ (evictW w k).1.alive = w.alive.set k true ∧ (evictW w k).1.owns = w.owns.set k noO ∧ (evictW w k).1.epochs = w.epochs.set k (w.ep k + 1) ∧ (evictW w k).1.size = w.size ∧ (evictW w k).1.many = w.many ∧ (evictW w k).1.st.now = w.st.now ∧ (evictW w k).1.kept = [] := by
  unfold evictW at h ⊢
  split at h
  · rename_i q
    rw [if_pos q]
    exact ⟨rfl, rfl, rfl, rfl, rfl, rfl, rfl, rfl⟩
  · exact absurd h (by simp)
end Go.Ev

/- Plain words: how values lie flat. No program in sight. -/
set_option linter.unusedVariables false
namespace Go.Ev
abbrev reqL (q : ReqT) : List L := [.int .i64 q.who, .int .i64 q.epoch, .int .i64 q.num, .int .i64 q.obj, .int .i64 q.pos, .str q.data]
abbrev strsL (xs : List Bs) : List (List L) := xs.map fun s => [.str s]
abbrev intsL (xs : List Int) : List (List L) := xs.map fun n => [.int .i64 n]
abbrev storeL (s : StoreT) : List L := [.sl (strsL s.now), .sl (strsL s.sure), .sl (intsL s.last), .sl (intsL s.slast), .sl (intsL s.floors)]
abbrev holdL (h : HoldT) : List L := [.sl (h.r.map spL), .sl (h.w.map spL)]
abbrev ownL (o : OwnT) : List L := owL o.t o.h o.d
abbrev boolsL (xs : List Bool) : List (List L) := xs.map fun b => [.bool b]
abbrev worldL (w : WorldT) : List L := [.int .i64 w.size, .int .i64 w.many, .sl (strsL w.st.now), .sl (strsL w.st.sure), .sl (intsL w.st.last), .sl (intsL w.st.slast), .sl (intsL w.st.floors), .sl (w.locks.map holdL), .sl (w.owns.map ownL), .sl (intsL w.epochs), .sl (boolsL w.alive), .sl (w.kept.map reqL), .sl (w.late.map reqL)]
abbrev evL (e : EvT) : List L := [.int .i64 e.kind, .int .i64 e.who, .bool e.write, .int .i64 e.span.1, .int .i64 e.span.2, .int .i64 e.pos, .str e.data]
end Go.Ev

/- Answers: the laws' arguments taken over, element by element. -/
set_option linter.unusedSimpArgs false
set_option linter.unusedVariables false
set_option maxRecDepth 100000
set_option maxHeartbeats 4000000
namespace Go.Ev
open Go.Proofs
theorem set_next {α : Type} (xs : List α) (f : α → List L) (z : List L) {i : Nat} (n : Nat) (h : i < xs.length) : ((xs.take i).map f ++ List.replicate (n + 1) z).set i (f xs[i]) = (xs.take (i + 1)).map f ++ List.replicate n z := by
  have hl : ((xs.take i).map f).length = i := by rw [List.length_map, List.length_take]; omega
  rw [List.set_append_right _ _ (by omega), hl, Nat.sub_self, List.replicate_succ, List.set_cons_zero, List.take_succ_eq_append_getElem h, List.map_append, List.append_assoc]
  rfl
theorem get_next {α : Type} (xs : List α) (f : α → List L) (z : List L) {i : Nat} (n : Nat) (h : i < xs.length) (h' : i < ((xs.take i).map f ++ List.replicate (n + 1) z).length) : ((xs.take i).map f ++ List.replicate (n + 1) z)[i] = z := by
  have hl : ((xs.take i).map f).length = i := by rw [List.length_map, List.length_take]; omega
  rw [List.getElem_append_right (by omega)]
  simp
theorem lp_laws_toIntS (m : M) (xs : List (Int)) (hb : xs.length ≤ 4000000) (a : Code) (ha : a = lp Tryz.f26 0) : ∀ (n i : Nat), i + n = xs.length →
    loopC E (ev E) 26 a { V := [(0, .v m false [.sl (xs.map (fun n : Int => [L.int .i64 n]))]), (3, at1 3), (4, vi i)], H := [ow (.c 3) [.sl ((xs.take i).map (fun n : Int => [L.int .i64 n]) ++ List.replicate n [L.int .i64 0])]], ps := [] } =
      some (.exit 0, { V := [(0, .v m false [.sl (xs.map (fun n : Int => [L.int .i64 n]))]), (3, at1 3), (4, vi xs.length), (11, vb false)], H := [ow (.c 3) [.sl (xs.map (fun n : Int => [L.int .i64 n]))]], ps := [] })
  | 0, i, h0 => by
    rw [loopC_of _ _ _ _ ha]
    obtain rfl : i = xs.length := by omega
    simp [lp, loopsOf, Tryz.f26]
  | n + 1, i, h0 => by
    have hlt : i < xs.length := by omega
    have hw := wrapN i (by omega)
    have hs := set_next xs (fun n : Int => [L.int .i64 n]) [L.int .i64 0] n hlt
    have hl : ((xs.take i).map (fun n : Int => [L.int .i64 n]) ++ List.replicate (n + 1) [L.int .i64 0]).length = xs.length := by simp; omega
    have hy := get_next xs (fun n : Int => [L.int .i64 n]) [L.int .i64 0] n hlt
    have ih := lp_laws_toIntS m xs hb a ha n (i + 1) (by omega)
    push_cast at ih
    rw [loopC_of _ _ _ _ ha]
    clear ha
    generalize (xs.take i).map (fun n : Int => [L.int .i64 n]) ++ List.replicate (n + 1) [L.int .i64 0] = ys at *
    have hl2 : i < ys.length := by omega
    simp [lp, loopsOf, Tryz.f26, hlt, hw, hl2, hs, hy]
    simpa using ih
theorem ev_laws_toIntS (m : M) (xs : List (Int)) (hb : xs.length ≤ 4000000) : ev E 26 [.v m false [.sl (xs.map (fun n : Int => [L.int .i64 n]))]] = some { rs := [.v .own false [.sl (xs.map (fun n : Int => [L.int .i64 n]))]], outs := [] } := by
  have hl := lp_laws_toIntS m xs hb _ rfl xs.length 0 (by omega)
  have q1 : (xs.length : Int) ≤ 17592186044416 := by omega
  have q2 : (xs.length : Int) * 8 ≤ 17592186044416 := by omega
  have q3 : (xs.length : Int) * 16 ≤ 17592186044416 := by omega
  push_cast at hl
  rw [ev_fn Tryz.f26 rfl Tryz.func26 rfl rfl rfl (Nat.le_of_ble_eq_true rfl)]
  simp [q1, q2, q3]
  rw [loopC_at ?_ (by simpa using hl)]
  · simp
  · rfl
theorem lp_laws_toBoolS (m : M) (xs : List (Bool)) (hb : xs.length ≤ 4000000) (a : Code) (ha : a = lp Tryz.f27 0) : ∀ (n i : Nat), i + n = xs.length →
    loopC E (ev E) 27 a { V := [(0, .v m false [.sl (xs.map (fun b : Bool => [L.bool b]))]), (3, at1 3), (4, vi i)], H := [ow (.c 3) [.sl ((xs.take i).map (fun b : Bool => [L.bool b]) ++ List.replicate n [L.bool false])]], ps := [] } =
      some (.exit 0, { V := [(0, .v m false [.sl (xs.map (fun b : Bool => [L.bool b]))]), (3, at1 3), (4, vi xs.length), (11, vb false)], H := [ow (.c 3) [.sl (xs.map (fun b : Bool => [L.bool b]))]], ps := [] })
  | 0, i, h0 => by
    rw [loopC_of _ _ _ _ ha]
    obtain rfl : i = xs.length := by omega
    simp [lp, loopsOf, Tryz.f27]
  | n + 1, i, h0 => by
    have hlt : i < xs.length := by omega
    have hw := wrapN i (by omega)
    have hs := set_next xs (fun b : Bool => [L.bool b]) [L.bool false] n hlt
    have hl : ((xs.take i).map (fun b : Bool => [L.bool b]) ++ List.replicate (n + 1) [L.bool false]).length = xs.length := by simp; omega
    have hy := get_next xs (fun b : Bool => [L.bool b]) [L.bool false] n hlt
    have ih := lp_laws_toBoolS m xs hb a ha n (i + 1) (by omega)
    push_cast at ih
    rw [loopC_of _ _ _ _ ha]
    clear ha
    generalize (xs.take i).map (fun b : Bool => [L.bool b]) ++ List.replicate (n + 1) [L.bool false] = ys at *
    have hl2 : i < ys.length := by omega
    simp [lp, loopsOf, Tryz.f27, hlt, hw, hl2, hs, hy]
    simpa using ih
theorem ev_laws_toBoolS (m : M) (xs : List (Bool)) (hb : xs.length ≤ 4000000) : ev E 27 [.v m false [.sl (xs.map (fun b : Bool => [L.bool b]))]] = some { rs := [.v .own false [.sl (xs.map (fun b : Bool => [L.bool b]))]], outs := [] } := by
  have hl := lp_laws_toBoolS m xs hb _ rfl xs.length 0 (by omega)
  have q1 : (xs.length : Int) ≤ 17592186044416 := by omega
  have q2 : (xs.length : Int) * 8 ≤ 17592186044416 := by omega
  have q3 : (xs.length : Int) * 16 ≤ 17592186044416 := by omega
  push_cast at hl
  rw [ev_fn Tryz.f27 rfl Tryz.func27 rfl rfl rfl (Nat.le_of_ble_eq_true rfl)]
  simp [q1, q2, q3]
  rw [loopC_at ?_ (by simpa using hl)]
  · simp
  · rfl
theorem lp_laws_toStringS (m : M) (xs : List (List UInt8)) (hb : xs.length ≤ 4000000) (a : Code) (ha : a = lp Tryz.f66 0) : ∀ (n i : Nat), i + n = xs.length →
    loopC E (ev E) 66 a { V := [(0, .v m false [.sl (xs.map (fun s : List UInt8 => [L.str s]))]), (3, at1 3), (4, vi i)], H := [ow (.c 3) [.sl ((xs.take i).map (fun s : List UInt8 => [L.str s]) ++ List.replicate n [L.str []])]], ps := [] } =
      some (.exit 0, { V := [(0, .v m false [.sl (xs.map (fun s : List UInt8 => [L.str s]))]), (3, at1 3), (4, vi xs.length), (11, vb false)], H := [ow (.c 3) [.sl (xs.map (fun s : List UInt8 => [L.str s]))]], ps := [] })
  | 0, i, h0 => by
    rw [loopC_of _ _ _ _ ha]
    obtain rfl : i = xs.length := by omega
    simp [lp, loopsOf, Tryz.f66]
  | n + 1, i, h0 => by
    have hlt : i < xs.length := by omega
    have hw := wrapN i (by omega)
    have hs := set_next xs (fun s : List UInt8 => [L.str s]) [L.str []] n hlt
    have hl : ((xs.take i).map (fun s : List UInt8 => [L.str s]) ++ List.replicate (n + 1) [L.str []]).length = xs.length := by simp; omega
    have hy := get_next xs (fun s : List UInt8 => [L.str s]) [L.str []] n hlt
    have ih := lp_laws_toStringS m xs hb a ha n (i + 1) (by omega)
    push_cast at ih
    rw [loopC_of _ _ _ _ ha]
    clear ha
    generalize (xs.take i).map (fun s : List UInt8 => [L.str s]) ++ List.replicate (n + 1) [L.str []] = ys at *
    have hl2 : i < ys.length := by omega
    simp [lp, loopsOf, Tryz.f66, hlt, hw, hl2, hs, hy]
    simpa using ih
theorem ev_laws_toStringS (m : M) (xs : List (List UInt8)) (hb : xs.length ≤ 4000000) : ev E 66 [.v m false [.sl (xs.map (fun s : List UInt8 => [L.str s]))]] = some { rs := [.v .own false [.sl (xs.map (fun s : List UInt8 => [L.str s]))]], outs := [] } := by
  have hl := lp_laws_toStringS m xs hb _ rfl xs.length 0 (by omega)
  have q1 : (xs.length : Int) ≤ 17592186044416 := by omega
  have q2 : (xs.length : Int) * 8 ≤ 17592186044416 := by omega
  have q3 : (xs.length : Int) * 16 ≤ 17592186044416 := by omega
  push_cast at hl
  rw [ev_fn Tryz.f66 rfl Tryz.func66 rfl rfl rfl (Nat.le_of_ble_eq_true rfl)]
  simp [q1, q2, q3]
  rw [loopC_at ?_ (by simpa using hl)]
  · simp
  · rfl
end Go.Ev

/- Answers: the laws' arguments taken over, measured and compared. -/
set_option linter.unusedSimpArgs false
set_option linter.unusedVariables false
set_option maxRecDepth 100000
set_option maxHeartbeats 4000000
namespace Go.Ev
open Go.Proofs
theorem ev_toSpan (m : M) (q : Sp) : ev E 116 [.v m true (spL q)] = some { rs := [.v .own true (spL q)], outs := [] } := by
  rw [ev_fn Tryz.f116 rfl Tryz.func116 rfl rfl rfl (Nat.le_of_ble_eq_true rfl)]
  simp
theorem ev_toLay (m : M) (a b : Int) : ev E 22 [.v m true [.int .i64 a, .int .i64 b]] = some { rs := [.v .own true [.int .i64 a, .int .i64 b]], outs := [] } := by
  rw [ev_fn Tryz.f22 rfl Tryz.func22 rfl rfl rfl (Nat.le_of_ble_eq_true rfl)]
  simp
theorem ev_toReq1 (m : M) (q : ReqT) : ev E 69 [.v m true (reqL q)] = some { rs := [.v .own true (reqL q)], outs := [] } := by
  rw [ev_fn Tryz.f69 rfl Tryz.func69 rfl rfl rfl (Nat.le_of_ble_eq_true rfl)]
  simp
def holdB (h : HoldT) : Prop := h.r.length ≤ 4000000 ∧ h.w.length ≤ 4000000
def ownB (o : OwnT) : Prop := o.h.length ≤ 4000000 ∧ o.d.length ≤ 4000000
/-- A list of things taken over, of what each of them is taken over as. -/
def TakenBy (E : Env) (f : FuncId) {α : Type} (enc : α → List L) (ok : α → Prop) : Prop := ∀ m x, m.isOwn = false → ok x → ev E f [.v m true (enc x)] = some { rs := [.v .own true (enc x)], outs := [] }
theorem lp_laws_toSpanS (ok : Sp → Prop) (hc : TakenBy E 116 spL ok) (m : M) (hm : m.isOwn = false) (xs : List (Sp)) (hb : xs.length ≤ 4000000) (hk : ∀ x ∈ xs, ok x) (a : Code) (ha : a = lp Tryz.f101 0) : ∀ (n i : Nat), i + n = xs.length →
    loopC E (ev E) 101 a { V := [(0, .v m false [.sl (xs.map spL)]), (3, at1 3), (4, vi i)], H := [ow (.c 3) [.sl ((xs.take i).map spL ++ List.replicate n [L.int .i64 0, L.int .i64 0])]], ps := [] } =
      some (.exit 0, { V := [(0, .v m false [.sl (xs.map spL)]), (3, at1 3), (4, vi xs.length), (11, vb false)], H := [ow (.c 3) [.sl (xs.map spL)]], ps := [] })
  | 0, i, h0 => by
    rw [loopC_of _ _ _ _ ha]
    obtain rfl : i = xs.length := by omega
    simp [lp, loopsOf, Tryz.f101]
  | n + 1, i, h0 => by
    have hlt : i < xs.length := by omega
    have hw := wrapN i (by omega)
    have hs := set_next xs spL [L.int .i64 0, L.int .i64 0] n hlt
    have hl : ((xs.take i).map spL ++ List.replicate (n + 1) [L.int .i64 0, L.int .i64 0]).length = xs.length := by simp; omega
    have hy := get_next xs spL [L.int .i64 0, L.int .i64 0] n hlt
    have c := fun m hm => hc m xs[i] hm (hk _ (List.getElem_mem hlt))
    have ih := lp_laws_toSpanS ok hc m hm xs hb hk a ha n (i + 1) (by omega)
    push_cast at ih
    rw [loopC_of _ _ _ _ ha]
    clear ha
    generalize (xs.take i).map spL ++ List.replicate (n + 1) [L.int .i64 0, L.int .i64 0] = ys at *
    have hl2 : i < ys.length := by omega
    simp [lp, loopsOf, Tryz.f101, hlt, hw, hl2, hs, hy, c, hm]
    simpa using ih
theorem ev_laws_toSpanS (ok : Sp → Prop) (hc : TakenBy E 116 spL ok) (m : M) (hm : m.isOwn = false) (xs : List (Sp)) (hb : xs.length ≤ 4000000) (hk : ∀ x ∈ xs, ok x) : ev E 101 [.v m false [.sl (xs.map spL)]] = some { rs := [.v .own false [.sl (xs.map spL)]], outs := [] } := by
  have hl := lp_laws_toSpanS ok hc m hm xs hb hk _ rfl xs.length 0 (by omega)
  have q1 : (xs.length : Int) ≤ 17592186044416 := by omega
  have q2 : (xs.length : Int) * 8 ≤ 17592186044416 := by omega
  have q3 : (xs.length : Int) * 16 ≤ 17592186044416 := by omega
  have q4 : (xs.length : Int) * 48 ≤ 17592186044416 := by omega
  have q5 : (xs.length : Int) * 56 ≤ 17592186044416 := by omega
  have q6 : (xs.length : Int) * 64 ≤ 17592186044416 := by omega
  push_cast at hl
  rw [ev_fn Tryz.f101 rfl Tryz.func101 rfl rfl rfl (Nat.le_of_ble_eq_true rfl)]
  simp [q1, q2, q3, q4, q5, q6]
  rw [loopC_at ?_ (by simpa using hl)]
  · simp
  · rfl
theorem lp_laws_toReqS (ok : ReqT → Prop) (hc : TakenBy E 69 reqL ok) (m : M) (hm : m.isOwn = false) (xs : List (ReqT)) (hb : xs.length ≤ 4000000) (hk : ∀ x ∈ xs, ok x) (a : Code) (ha : a = lp Tryz.f28 0) : ∀ (n i : Nat), i + n = xs.length →
    loopC E (ev E) 28 a { V := [(0, .v m false [.sl (xs.map reqL)]), (3, at1 3), (4, vi i)], H := [ow (.c 3) [.sl ((xs.take i).map reqL ++ List.replicate n [L.int .i64 0, L.int .i64 0, L.int .i64 0, L.int .i64 0, L.int .i64 0, L.str []])]], ps := [] } =
      some (.exit 0, { V := [(0, .v m false [.sl (xs.map reqL)]), (3, at1 3), (4, vi xs.length), (11, vb false)], H := [ow (.c 3) [.sl (xs.map reqL)]], ps := [] })
  | 0, i, h0 => by
    rw [loopC_of _ _ _ _ ha]
    obtain rfl : i = xs.length := by omega
    simp [lp, loopsOf, Tryz.f28]
  | n + 1, i, h0 => by
    have hlt : i < xs.length := by omega
    have hw := wrapN i (by omega)
    have hs := set_next xs reqL [L.int .i64 0, L.int .i64 0, L.int .i64 0, L.int .i64 0, L.int .i64 0, L.str []] n hlt
    have hl : ((xs.take i).map reqL ++ List.replicate (n + 1) [L.int .i64 0, L.int .i64 0, L.int .i64 0, L.int .i64 0, L.int .i64 0, L.str []]).length = xs.length := by simp; omega
    have hy := get_next xs reqL [L.int .i64 0, L.int .i64 0, L.int .i64 0, L.int .i64 0, L.int .i64 0, L.str []] n hlt
    have c := fun m hm => hc m xs[i] hm (hk _ (List.getElem_mem hlt))
    have ih := lp_laws_toReqS ok hc m hm xs hb hk a ha n (i + 1) (by omega)
    push_cast at ih
    rw [loopC_of _ _ _ _ ha]
    clear ha
    generalize (xs.take i).map reqL ++ List.replicate (n + 1) [L.int .i64 0, L.int .i64 0, L.int .i64 0, L.int .i64 0, L.int .i64 0, L.str []] = ys at *
    have hl2 : i < ys.length := by omega
    simp [lp, loopsOf, Tryz.f28, hlt, hw, hl2, hs, hy, c, hm]
    simpa using ih
theorem ev_laws_toReqS (ok : ReqT → Prop) (hc : TakenBy E 69 reqL ok) (m : M) (hm : m.isOwn = false) (xs : List (ReqT)) (hb : xs.length ≤ 4000000) (hk : ∀ x ∈ xs, ok x) : ev E 28 [.v m false [.sl (xs.map reqL)]] = some { rs := [.v .own false [.sl (xs.map reqL)]], outs := [] } := by
  have hl := lp_laws_toReqS ok hc m hm xs hb hk _ rfl xs.length 0 (by omega)
  have q1 : (xs.length : Int) ≤ 17592186044416 := by omega
  have q2 : (xs.length : Int) * 8 ≤ 17592186044416 := by omega
  have q3 : (xs.length : Int) * 16 ≤ 17592186044416 := by omega
  have q4 : (xs.length : Int) * 48 ≤ 17592186044416 := by omega
  have q5 : (xs.length : Int) * 56 ≤ 17592186044416 := by omega
  have q6 : (xs.length : Int) * 64 ≤ 17592186044416 := by omega
  push_cast at hl
  rw [ev_fn Tryz.f28 rfl Tryz.func28 rfl rfl rfl (Nat.le_of_ble_eq_true rfl)]
  simp [q1, q2, q3, q4, q5, q6]
  rw [loopC_at ?_ (by simpa using hl)]
  · simp
  · rfl
theorem lp_laws_toHoldS (ok : HoldT → Prop) (hc : TakenBy E 67 holdL ok) (m : M) (hm : m.isOwn = false) (xs : List (HoldT)) (hb : xs.length ≤ 4000000) (hk : ∀ x ∈ xs, ok x) (a : Code) (ha : a = lp Tryz.f24 0) : ∀ (n i : Nat), i + n = xs.length →
    loopC E (ev E) 24 a { V := [(0, .v m false [.sl (xs.map holdL)]), (3, at1 3), (4, vi i)], H := [ow (.c 3) [.sl ((xs.take i).map holdL ++ List.replicate n [L.sl [], L.sl []])]], ps := [] } =
      some (.exit 0, { V := [(0, .v m false [.sl (xs.map holdL)]), (3, at1 3), (4, vi xs.length), (11, vb false)], H := [ow (.c 3) [.sl (xs.map holdL)]], ps := [] })
  | 0, i, h0 => by
    rw [loopC_of _ _ _ _ ha]
    obtain rfl : i = xs.length := by omega
    simp [lp, loopsOf, Tryz.f24]
  | n + 1, i, h0 => by
    have hlt : i < xs.length := by omega
    have hw := wrapN i (by omega)
    have hs := set_next xs holdL [L.sl [], L.sl []] n hlt
    have hl : ((xs.take i).map holdL ++ List.replicate (n + 1) [L.sl [], L.sl []]).length = xs.length := by simp; omega
    have hy := get_next xs holdL [L.sl [], L.sl []] n hlt
    have c := fun m hm => hc m xs[i] hm (hk _ (List.getElem_mem hlt))
    have ih := lp_laws_toHoldS ok hc m hm xs hb hk a ha n (i + 1) (by omega)
    push_cast at ih
    rw [loopC_of _ _ _ _ ha]
    clear ha
    generalize (xs.take i).map holdL ++ List.replicate (n + 1) [L.sl [], L.sl []] = ys at *
    have hl2 : i < ys.length := by omega
    simp [lp, loopsOf, Tryz.f24, hlt, hw, hl2, hs, hy, c, hm]
    simpa using ih
theorem ev_laws_toHoldS (ok : HoldT → Prop) (hc : TakenBy E 67 holdL ok) (m : M) (hm : m.isOwn = false) (xs : List (HoldT)) (hb : xs.length ≤ 4000000) (hk : ∀ x ∈ xs, ok x) : ev E 24 [.v m false [.sl (xs.map holdL)]] = some { rs := [.v .own false [.sl (xs.map holdL)]], outs := [] } := by
  have hl := lp_laws_toHoldS ok hc m hm xs hb hk _ rfl xs.length 0 (by omega)
  have q1 : (xs.length : Int) ≤ 17592186044416 := by omega
  have q2 : (xs.length : Int) * 8 ≤ 17592186044416 := by omega
  have q3 : (xs.length : Int) * 16 ≤ 17592186044416 := by omega
  have q4 : (xs.length : Int) * 48 ≤ 17592186044416 := by omega
  have q5 : (xs.length : Int) * 56 ≤ 17592186044416 := by omega
  have q6 : (xs.length : Int) * 64 ≤ 17592186044416 := by omega
  push_cast at hl
  rw [ev_fn Tryz.f24 rfl Tryz.func24 rfl rfl rfl (Nat.le_of_ble_eq_true rfl)]
  simp [q1, q2, q3, q4, q5, q6]
  rw [loopC_at ?_ (by simpa using hl)]
  · simp
  · rfl
theorem lp_laws_toOwnS (ok : OwnT → Prop) (hc : TakenBy E 68 ownL ok) (m : M) (hm : m.isOwn = false) (xs : List (OwnT)) (hb : xs.length ≤ 4000000) (hk : ∀ x ∈ xs, ok x) (a : Code) (ha : a = lp Tryz.f25 0) : ∀ (n i : Nat), i + n = xs.length →
    loopC E (ev E) 25 a { V := [(0, .v m false [.sl (xs.map ownL)]), (3, at1 3), (4, vi i)], H := [ow (.c 3) [.sl ((xs.take i).map ownL ++ List.replicate n [L.str [], L.sl [], L.sl []])]], ps := [] } =
      some (.exit 0, { V := [(0, .v m false [.sl (xs.map ownL)]), (3, at1 3), (4, vi xs.length), (11, vb false)], H := [ow (.c 3) [.sl (xs.map ownL)]], ps := [] })
  | 0, i, h0 => by
    rw [loopC_of _ _ _ _ ha]
    obtain rfl : i = xs.length := by omega
    simp [lp, loopsOf, Tryz.f25]
  | n + 1, i, h0 => by
    have hlt : i < xs.length := by omega
    have hw := wrapN i (by omega)
    have hs := set_next xs ownL [L.str [], L.sl [], L.sl []] n hlt
    have hl : ((xs.take i).map ownL ++ List.replicate (n + 1) [L.str [], L.sl [], L.sl []]).length = xs.length := by simp; omega
    have hy := get_next xs ownL [L.str [], L.sl [], L.sl []] n hlt
    have c := fun m hm => hc m xs[i] hm (hk _ (List.getElem_mem hlt))
    have ih := lp_laws_toOwnS ok hc m hm xs hb hk a ha n (i + 1) (by omega)
    push_cast at ih
    rw [loopC_of _ _ _ _ ha]
    clear ha
    generalize (xs.take i).map ownL ++ List.replicate (n + 1) [L.str [], L.sl [], L.sl []] = ys at *
    have hl2 : i < ys.length := by omega
    simp [lp, loopsOf, Tryz.f25, hlt, hw, hl2, hs, hy, c, hm]
    simpa using ih
theorem ev_laws_toOwnS (ok : OwnT → Prop) (hc : TakenBy E 68 ownL ok) (m : M) (hm : m.isOwn = false) (xs : List (OwnT)) (hb : xs.length ≤ 4000000) (hk : ∀ x ∈ xs, ok x) : ev E 25 [.v m false [.sl (xs.map ownL)]] = some { rs := [.v .own false [.sl (xs.map ownL)]], outs := [] } := by
  have hl := lp_laws_toOwnS ok hc m hm xs hb hk _ rfl xs.length 0 (by omega)
  have q1 : (xs.length : Int) ≤ 17592186044416 := by omega
  have q2 : (xs.length : Int) * 8 ≤ 17592186044416 := by omega
  have q3 : (xs.length : Int) * 16 ≤ 17592186044416 := by omega
  have q4 : (xs.length : Int) * 48 ≤ 17592186044416 := by omega
  have q5 : (xs.length : Int) * 56 ≤ 17592186044416 := by omega
  have q6 : (xs.length : Int) * 64 ≤ 17592186044416 := by omega
  push_cast at hl
  rw [ev_fn Tryz.f25 rfl Tryz.func25 rfl rfl rfl (Nat.le_of_ble_eq_true rfl)]
  simp [q1, q2, q3, q4, q5, q6]
  rw [loopC_at ?_ (by simpa using hl)]
  · simp
  · rfl
theorem tk_Span : TakenBy E 116 spL (fun _ => True) := fun m x _ _ => ev_toSpan m x
theorem tk_Req : TakenBy E 69 reqL (fun _ => True) := fun m x _ _ => ev_toReq1 m x
theorem ev_toSpans (m : M) (hm : m.isOwn = false) (xs : List Sp) (hb : xs.length ≤ 4000000) : ev E 101 [.v m false [.sl (xs.map spL)]] = some { rs := [.v .own false [.sl (xs.map spL)]], outs := [] } := ev_laws_toSpanS _ tk_Span m hm xs hb fun _ _ => trivial
theorem ev_toReqs (m : M) (hm : m.isOwn = false) (xs : List ReqT) (hb : xs.length ≤ 4000000) : ev E 28 [.v m false [.sl (xs.map reqL)]] = some { rs := [.v .own false [.sl (xs.map reqL)]], outs := [] } := ev_laws_toReqS _ tk_Req m hm xs hb fun _ _ => trivial
theorem tk_Hold : TakenBy E 67 holdL holdB := fun m h hm hb => by
  have c1 := fun m hm => ev_toSpans m hm h.r hb.1
  have c2 := fun m hm => ev_toSpans m hm h.w hb.2
  rw [ev_fn Tryz.f67 rfl Tryz.func67 rfl rfl rfl (Nat.le_of_ble_eq_true rfl)]
  simp [c1, c2, hm]
theorem tk_Own : TakenBy E 68 ownL ownB := fun m o hm hb => by
  have c1 := fun m hm => ev_toSpans m hm o.h hb.1
  have c2 := fun m hm => ev_toSpans m hm o.d hb.2
  rw [ev_fn Tryz.f68 rfl Tryz.func68 rfl rfl rfl (Nat.le_of_ble_eq_true rfl)]
  simp [c1, c2, hm]
end Go.Ev

/- Answers: the laws' arguments measured, and compared with themselves. -/
set_option linter.unusedSimpArgs false
set_option linter.unusedVariables false
set_option maxRecDepth 100000
set_option maxHeartbeats 4000000
namespace Go.Ev
open Go.Proofs
/-! a thing is what it is -/
def SameBy (E : Env) (f : FuncId) {α : Type} (enc : α → List L) (ok : α → Prop) : Prop := ∀ m m' x, m.isOwn = false → m'.isOwn = false → ok x → ev E f [.v m true (enc x), .v m' true (enc x)] = some (rB true)
theorem lp_laws_eqIntS (m m' : M) (xs : List (Int)) (hb : xs.length ≤ 4000000) (a : Code) (ha : a = lp Tryz.f46 0) : ∀ (n i : Nat), i + n = xs.length →
    loopC E (ev E) 46 a { V := [(0, .v m false [.sl (xs.map (fun n : Int => [L.int .i64 n]))]), (1, .v m' false [.sl (xs.map (fun n : Int => [L.int .i64 n]))]), (5, vi i)], H := [], ps := [] } =
      some (.exit 0, { V := [(0, .v m false [.sl (xs.map (fun n : Int => [L.int .i64 n]))]), (1, .v m' false [.sl (xs.map (fun n : Int => [L.int .i64 n]))]), (5, vi xs.length), (14, vb false)], H := [], ps := [] })
  | 0, i, h0 => by
    rw [loopC_of _ _ _ _ ha]
    obtain rfl : i = xs.length := by omega
    simp [lp, loopsOf, Tryz.f46]
  | n + 1, i, h0 => by
    have hlt : i < xs.length := by omega
    have hw := wrapN i (by omega)
    have ih := lp_laws_eqIntS m m' xs hb a ha n (i + 1) (by omega)
    push_cast at ih
    rw [loopC_of _ _ _ _ ha]
    clear ha
    simp [lp, loopsOf, Tryz.f46, hlt, hw]
    simpa using ih
theorem ev_laws_eqIntS (m m' : M) (xs : List (Int)) (hb : xs.length ≤ 4000000) : ev E 46 [.v m false [.sl (xs.map (fun n : Int => [L.int .i64 n]))], .v m' false [.sl (xs.map (fun n : Int => [L.int .i64 n]))]] = some (rB true) := by
  have hl := lp_laws_eqIntS m m' xs hb _ rfl xs.length 0 (by omega)
  push_cast at hl
  rw [ev_fn Tryz.f46 rfl Tryz.func46 rfl rfl rfl (Nat.le_of_ble_eq_true rfl)]
  simp
  rw [loopC_at ?_ (by simpa using hl)]
  · simp
  · rfl
theorem lp_laws_eqBoolS (m m' : M) (xs : List (Bool)) (hb : xs.length ≤ 4000000) (a : Code) (ha : a = lp Tryz.f47 0) : ∀ (n i : Nat), i + n = xs.length →
    loopC E (ev E) 47 a { V := [(0, .v m false [.sl (xs.map (fun b : Bool => [L.bool b]))]), (1, .v m' false [.sl (xs.map (fun b : Bool => [L.bool b]))]), (5, vi i)], H := [], ps := [] } =
      some (.exit 0, { V := [(0, .v m false [.sl (xs.map (fun b : Bool => [L.bool b]))]), (1, .v m' false [.sl (xs.map (fun b : Bool => [L.bool b]))]), (5, vi xs.length), (14, vb false)], H := [], ps := [] })
  | 0, i, h0 => by
    rw [loopC_of _ _ _ _ ha]
    obtain rfl : i = xs.length := by omega
    simp [lp, loopsOf, Tryz.f47]
  | n + 1, i, h0 => by
    have hlt : i < xs.length := by omega
    have hw := wrapN i (by omega)
    have ih := lp_laws_eqBoolS m m' xs hb a ha n (i + 1) (by omega)
    push_cast at ih
    rw [loopC_of _ _ _ _ ha]
    clear ha
    simp [lp, loopsOf, Tryz.f47, hlt, hw]
    simpa using ih
theorem ev_laws_eqBoolS (m m' : M) (xs : List (Bool)) (hb : xs.length ≤ 4000000) : ev E 47 [.v m false [.sl (xs.map (fun b : Bool => [L.bool b]))], .v m' false [.sl (xs.map (fun b : Bool => [L.bool b]))]] = some (rB true) := by
  have hl := lp_laws_eqBoolS m m' xs hb _ rfl xs.length 0 (by omega)
  push_cast at hl
  rw [ev_fn Tryz.f47 rfl Tryz.func47 rfl rfl rfl (Nat.le_of_ble_eq_true rfl)]
  simp
  rw [loopC_at ?_ (by simpa using hl)]
  · simp
  · rfl
theorem lp_laws_eqStringS (m m' : M) (xs : List (List UInt8)) (hb : xs.length ≤ 4000000) (a : Code) (ha : a = lp Tryz.f84 0) : ∀ (n i : Nat), i + n = xs.length →
    loopC E (ev E) 84 a { V := [(0, .v m false [.sl (xs.map (fun s : List UInt8 => [L.str s]))]), (1, .v m' false [.sl (xs.map (fun s : List UInt8 => [L.str s]))]), (5, vi i)], H := [], ps := [] } =
      some (.exit 0, { V := [(0, .v m false [.sl (xs.map (fun s : List UInt8 => [L.str s]))]), (1, .v m' false [.sl (xs.map (fun s : List UInt8 => [L.str s]))]), (5, vi xs.length), (14, vb false)], H := [], ps := [] })
  | 0, i, h0 => by
    rw [loopC_of _ _ _ _ ha]
    obtain rfl : i = xs.length := by omega
    simp [lp, loopsOf, Tryz.f84]
  | n + 1, i, h0 => by
    have hlt : i < xs.length := by omega
    have hw := wrapN i (by omega)
    have ih := lp_laws_eqStringS m m' xs hb a ha n (i + 1) (by omega)
    push_cast at ih
    rw [loopC_of _ _ _ _ ha]
    clear ha
    simp [lp, loopsOf, Tryz.f84, hlt, hw]
    simpa using ih
theorem ev_laws_eqStringS (m m' : M) (xs : List (List UInt8)) (hb : xs.length ≤ 4000000) : ev E 84 [.v m false [.sl (xs.map (fun s : List UInt8 => [L.str s]))], .v m' false [.sl (xs.map (fun s : List UInt8 => [L.str s]))]] = some (rB true) := by
  have hl := lp_laws_eqStringS m m' xs hb _ rfl xs.length 0 (by omega)
  push_cast at hl
  rw [ev_fn Tryz.f84 rfl Tryz.func84 rfl rfl rfl (Nat.le_of_ble_eq_true rfl)]
  simp
  rw [loopC_at ?_ (by simpa using hl)]
  · simp
  · rfl
theorem lp_laws_eqSpanS (ok : Sp → Prop) (hc : SameBy E 122 spL ok) (m m' : M) (hm : m.isOwn = false) (hm' : m'.isOwn = false) (xs : List (Sp)) (hb : xs.length ≤ 4000000) (hk : ∀ x ∈ xs, ok x) (a : Code) (ha : a = lp Tryz.f110 0) : ∀ (n i : Nat), i + n = xs.length →
    loopC E (ev E) 110 a { V := [(0, .v m false [.sl (xs.map spL)]), (1, .v m' false [.sl (xs.map spL)]), (5, vi i)], H := [], ps := [] } =
      some (.exit 0, { V := [(0, .v m false [.sl (xs.map spL)]), (1, .v m' false [.sl (xs.map spL)]), (5, vi xs.length), (14, vb false)], H := [], ps := [] })
  | 0, i, h0 => by
    rw [loopC_of _ _ _ _ ha]
    obtain rfl : i = xs.length := by omega
    simp [lp, loopsOf, Tryz.f110]
  | n + 1, i, h0 => by
    have hlt : i < xs.length := by omega
    have hw := wrapN i (by omega)
    have c := fun m m' hm hm' => hc m m' xs[i] hm hm' (hk _ (List.getElem_mem hlt))
    have ih := lp_laws_eqSpanS ok hc m m' hm hm' xs hb hk a ha n (i + 1) (by omega)
    push_cast at ih
    rw [loopC_of _ _ _ _ ha]
    clear ha
    simp [lp, loopsOf, Tryz.f110, hlt, hw, c, hm, hm']
    simpa using ih
theorem ev_laws_eqSpanS (ok : Sp → Prop) (hc : SameBy E 122 spL ok) (m m' : M) (hm : m.isOwn = false) (hm' : m'.isOwn = false) (xs : List (Sp)) (hb : xs.length ≤ 4000000) (hk : ∀ x ∈ xs, ok x) : ev E 110 [.v m false [.sl (xs.map spL)], .v m' false [.sl (xs.map spL)]] = some (rB true) := by
  have hl := lp_laws_eqSpanS ok hc m m' hm hm' xs hb hk _ rfl xs.length 0 (by omega)
  push_cast at hl
  rw [ev_fn Tryz.f110 rfl Tryz.func110 rfl rfl rfl (Nat.le_of_ble_eq_true rfl)]
  simp
  rw [loopC_at ?_ (by simpa using hl)]
  · simp
  · rfl
theorem lp_laws_eqReqS (ok : ReqT → Prop) (hc : SameBy E 87 reqL ok) (m m' : M) (hm : m.isOwn = false) (hm' : m'.isOwn = false) (xs : List (ReqT)) (hb : xs.length ≤ 4000000) (hk : ∀ x ∈ xs, ok x) (a : Code) (ha : a = lp Tryz.f48 0) : ∀ (n i : Nat), i + n = xs.length →
    loopC E (ev E) 48 a { V := [(0, .v m false [.sl (xs.map reqL)]), (1, .v m' false [.sl (xs.map reqL)]), (5, vi i)], H := [], ps := [] } =
      some (.exit 0, { V := [(0, .v m false [.sl (xs.map reqL)]), (1, .v m' false [.sl (xs.map reqL)]), (5, vi xs.length), (14, vb false)], H := [], ps := [] })
  | 0, i, h0 => by
    rw [loopC_of _ _ _ _ ha]
    obtain rfl : i = xs.length := by omega
    simp [lp, loopsOf, Tryz.f48]
  | n + 1, i, h0 => by
    have hlt : i < xs.length := by omega
    have hw := wrapN i (by omega)
    have c := fun m m' hm hm' => hc m m' xs[i] hm hm' (hk _ (List.getElem_mem hlt))
    have ih := lp_laws_eqReqS ok hc m m' hm hm' xs hb hk a ha n (i + 1) (by omega)
    push_cast at ih
    rw [loopC_of _ _ _ _ ha]
    clear ha
    simp [lp, loopsOf, Tryz.f48, hlt, hw, c, hm, hm']
    simpa using ih
theorem ev_laws_eqReqS (ok : ReqT → Prop) (hc : SameBy E 87 reqL ok) (m m' : M) (hm : m.isOwn = false) (hm' : m'.isOwn = false) (xs : List (ReqT)) (hb : xs.length ≤ 4000000) (hk : ∀ x ∈ xs, ok x) : ev E 48 [.v m false [.sl (xs.map reqL)], .v m' false [.sl (xs.map reqL)]] = some (rB true) := by
  have hl := lp_laws_eqReqS ok hc m m' hm hm' xs hb hk _ rfl xs.length 0 (by omega)
  push_cast at hl
  rw [ev_fn Tryz.f48 rfl Tryz.func48 rfl rfl rfl (Nat.le_of_ble_eq_true rfl)]
  simp
  rw [loopC_at ?_ (by simpa using hl)]
  · simp
  · rfl
theorem lp_laws_eqHoldS (ok : HoldT → Prop) (hc : SameBy E 85 holdL ok) (m m' : M) (hm : m.isOwn = false) (hm' : m'.isOwn = false) (xs : List (HoldT)) (hb : xs.length ≤ 4000000) (hk : ∀ x ∈ xs, ok x) (a : Code) (ha : a = lp Tryz.f44 0) : ∀ (n i : Nat), i + n = xs.length →
    loopC E (ev E) 44 a { V := [(0, .v m false [.sl (xs.map holdL)]), (1, .v m' false [.sl (xs.map holdL)]), (5, vi i)], H := [], ps := [] } =
      some (.exit 0, { V := [(0, .v m false [.sl (xs.map holdL)]), (1, .v m' false [.sl (xs.map holdL)]), (5, vi xs.length), (14, vb false)], H := [], ps := [] })
  | 0, i, h0 => by
    rw [loopC_of _ _ _ _ ha]
    obtain rfl : i = xs.length := by omega
    simp [lp, loopsOf, Tryz.f44]
  | n + 1, i, h0 => by
    have hlt : i < xs.length := by omega
    have hw := wrapN i (by omega)
    have c := fun m m' hm hm' => hc m m' xs[i] hm hm' (hk _ (List.getElem_mem hlt))
    have ih := lp_laws_eqHoldS ok hc m m' hm hm' xs hb hk a ha n (i + 1) (by omega)
    push_cast at ih
    rw [loopC_of _ _ _ _ ha]
    clear ha
    simp [lp, loopsOf, Tryz.f44, hlt, hw, c, hm, hm']
    simpa using ih
theorem ev_laws_eqHoldS (ok : HoldT → Prop) (hc : SameBy E 85 holdL ok) (m m' : M) (hm : m.isOwn = false) (hm' : m'.isOwn = false) (xs : List (HoldT)) (hb : xs.length ≤ 4000000) (hk : ∀ x ∈ xs, ok x) : ev E 44 [.v m false [.sl (xs.map holdL)], .v m' false [.sl (xs.map holdL)]] = some (rB true) := by
  have hl := lp_laws_eqHoldS ok hc m m' hm hm' xs hb hk _ rfl xs.length 0 (by omega)
  push_cast at hl
  rw [ev_fn Tryz.f44 rfl Tryz.func44 rfl rfl rfl (Nat.le_of_ble_eq_true rfl)]
  simp
  rw [loopC_at ?_ (by simpa using hl)]
  · simp
  · rfl
theorem lp_laws_eqOwnS (ok : OwnT → Prop) (hc : SameBy E 86 ownL ok) (m m' : M) (hm : m.isOwn = false) (hm' : m'.isOwn = false) (xs : List (OwnT)) (hb : xs.length ≤ 4000000) (hk : ∀ x ∈ xs, ok x) (a : Code) (ha : a = lp Tryz.f45 0) : ∀ (n i : Nat), i + n = xs.length →
    loopC E (ev E) 45 a { V := [(0, .v m false [.sl (xs.map ownL)]), (1, .v m' false [.sl (xs.map ownL)]), (5, vi i)], H := [], ps := [] } =
      some (.exit 0, { V := [(0, .v m false [.sl (xs.map ownL)]), (1, .v m' false [.sl (xs.map ownL)]), (5, vi xs.length), (14, vb false)], H := [], ps := [] })
  | 0, i, h0 => by
    rw [loopC_of _ _ _ _ ha]
    obtain rfl : i = xs.length := by omega
    simp [lp, loopsOf, Tryz.f45]
  | n + 1, i, h0 => by
    have hlt : i < xs.length := by omega
    have hw := wrapN i (by omega)
    have c := fun m m' hm hm' => hc m m' xs[i] hm hm' (hk _ (List.getElem_mem hlt))
    have ih := lp_laws_eqOwnS ok hc m m' hm hm' xs hb hk a ha n (i + 1) (by omega)
    push_cast at ih
    rw [loopC_of _ _ _ _ ha]
    clear ha
    simp [lp, loopsOf, Tryz.f45, hlt, hw, c, hm, hm']
    simpa using ih
theorem ev_laws_eqOwnS (ok : OwnT → Prop) (hc : SameBy E 86 ownL ok) (m m' : M) (hm : m.isOwn = false) (hm' : m'.isOwn = false) (xs : List (OwnT)) (hb : xs.length ≤ 4000000) (hk : ∀ x ∈ xs, ok x) : ev E 45 [.v m false [.sl (xs.map ownL)], .v m' false [.sl (xs.map ownL)]] = some (rB true) := by
  have hl := lp_laws_eqOwnS ok hc m m' hm hm' xs hb hk _ rfl xs.length 0 (by omega)
  push_cast at hl
  rw [ev_fn Tryz.f45 rfl Tryz.func45 rfl rfl rfl (Nat.le_of_ble_eq_true rfl)]
  simp
  rw [loopC_at ?_ (by simpa using hl)]
  · simp
  · rfl
theorem sm_Span : SameBy E 122 spL (fun _ => True) := fun m m' q hm hm' _ => by
  rw [ev_fn Tryz.f122 rfl Tryz.func122 rfl rfl rfl (Nat.le_of_ble_eq_true rfl)]
  simp
theorem sm_Req : SameBy E 87 reqL (fun _ => True) := fun m m' q hm hm' _ => by
  rw [ev_fn Tryz.f87 rfl Tryz.func87 rfl rfl rfl (Nat.le_of_ble_eq_true rfl)]
  simp
theorem ev_eqSpans (m m' : M) (hm : m.isOwn = false) (hm' : m'.isOwn = false) (xs : List Sp) (hb : xs.length ≤ 4000000) : ev E 110 [.v m false [.sl (xs.map spL)], .v m' false [.sl (xs.map spL)]] = some (rB true) := ev_laws_eqSpanS _ sm_Span m m' hm hm' xs hb fun _ _ => trivial
theorem ev_eqReqs (m m' : M) (hm : m.isOwn = false) (hm' : m'.isOwn = false) (xs : List ReqT) (hb : xs.length ≤ 4000000) : ev E 48 [.v m false [.sl (xs.map reqL)], .v m' false [.sl (xs.map reqL)]] = some (rB true) := ev_laws_eqReqS _ sm_Req m m' hm hm' xs hb fun _ _ => trivial
theorem sm_Hold : SameBy E 85 holdL holdB := fun m m' h hm hm' hb => by
  have c1 := fun m m' hm hm' => ev_eqSpans m m' hm hm' h.r hb.1
  have c2 := fun m m' hm hm' => ev_eqSpans m m' hm hm' h.w hb.2
  rw [ev_fn Tryz.f85 rfl Tryz.func85 rfl rfl rfl (Nat.le_of_ble_eq_true rfl)]
  simp [c1, c2, hm, hm']
theorem sm_Own : SameBy E 86 ownL ownB := fun m m' o hm hm' hb => by
  have c1 := fun m m' hm hm' => ev_eqSpans m m' hm hm' o.h hb.1
  have c2 := fun m m' hm hm' => ev_eqSpans m m' hm hm' o.d hb.2
  rw [ev_fn Tryz.f86 rfl Tryz.func86 rfl rfl rfl (Nat.le_of_ble_eq_true rfl)]
  simp [c1, c2, hm, hm']
/-! how much there is -/
/-- What is left of n, of k taken; -1, if there is too little. -/
def less (n : Int) (k : Nat) : Int := if ltI (n - k) 0 = true then -1 else n - k
theorem less_pos {n : Int} {k : Nat} (h : ltI (n - k) 0 = false) : less n k = n - k := by simp [less, h]
theorem less_neg {n : Int} {k : Nat} (h : ltI (n - k) 0 = true) : less n k = -1 := by simp [less, h]
theorem less_add {n : Int} (k j : Nat) : less n (k + j) = if ltI (n - k) 0 = true then -1 else less (n - k) j := by
  unfold less
  simp only [ltI_iff]
  split <;> split <;> (try split) <;> omega
theorem ev_laws_szIntS (m m' : M) (xs : List (Int)) (n : Int) (h1 : 0 ≤ n ∧ n ≤ 1048576) (hx : xs.length ≤ 9223372036854775807) : ev E 15 [.v m false [.sl (xs.map (fun n : Int => [L.int .i64 n]))], .v m' false [.int .i64 n]] = some (rI (less n xs.length)) := by
  have hw : IntKind.i64.wrap (n - xs.length) = n - xs.length := wrap64 (by omega)
  rw [ev_fn Tryz.f15 rfl Tryz.func15 rfl rfl rfl (Nat.le_of_ble_eq_true rfl)]
  cases e : ltI (n - xs.length) 0 <;> simp [e, hw, less]
theorem ev_laws_szBoolS (m m' : M) (xs : List (Bool)) (n : Int) (h1 : 0 ≤ n ∧ n ≤ 1048576) (hx : xs.length ≤ 9223372036854775807) : ev E 16 [.v m false [.sl (xs.map (fun b : Bool => [L.bool b]))], .v m' false [.int .i64 n]] = some (rI (less n xs.length)) := by
  have hw : IntKind.i64.wrap (n - xs.length) = n - xs.length := wrap64 (by omega)
  rw [ev_fn Tryz.f16 rfl Tryz.func16 rfl rfl rfl (Nat.le_of_ble_eq_true rfl)]
  cases e : ltI (n - xs.length) 0 <;> simp [e, hw, less]
theorem ev_laws_szSpanS (m m' : M) (xs : List (Sp)) (n : Int) (h1 : 0 ≤ n ∧ n ≤ 1048576) (hx : xs.length ≤ 9223372036854775807) : ev E 88 [.v m false [.sl (xs.map spL)], .v m' false [.int .i64 n]] = some (rI (less n xs.length)) := by
  have hw : IntKind.i64.wrap (n - xs.length) = n - xs.length := wrap64 (by omega)
  rw [ev_fn Tryz.f88 rfl Tryz.func88 rfl rfl rfl (Nat.le_of_ble_eq_true rfl)]
  cases e : ltI (n - xs.length) 0 <;> simp [e, hw, less]
end Go.Ev

/- Answers: how much the laws' arguments are. -/
set_option linter.unusedSimpArgs false
set_option linter.unusedVariables false
set_option maxRecDepth 100000
set_option maxHeartbeats 4000000
namespace Go.Ev
open Go.Proofs
def SizedBy (E : Env) (f : FuncId) {α : Type} (enc : α → List L) (size : α → Nat) (ok : α → Prop) : Prop := ∀ m m' x n, m.isOwn = false → 0 ≤ n ∧ n ≤ 1048576 → ok x → ev E f [.v m true (enc x), .v m' false [.int .i64 n]] = some (rI (less n (size x)))
def sumOf {α : Type} (size : α → Nat) (xs : List α) : Nat := (xs.map size).sum
theorem sumOf_cons {α : Type} (size : α → Nat) (x : α) (xs : List α) : sumOf size (x :: xs) = size x + sumOf size xs := rfl
theorem sumOf_nil {α : Type} (size : α → Nat) : sumOf size [] = 0 := rfl
theorem lp_laws_szReqS (size : ReqT → Nat) (ok : ReqT → Prop) (hc : SizedBy E 52 reqL size ok) (m : M) (hm : m.isOwn = false) (xs : List (ReqT)) (hb : xs.length ≤ 4000000) (hk : ∀ x ∈ xs, ok x) (a : Code) (ha : a = lp Tryz.f17 0) : ∀ (n i : Nat) (m1 : M) (k : Int), i + n = xs.length → 0 ≤ k → k ≤ 1048576 →
    ∃ me, loopC E (ev E) 17 a { V := [(0, .v m false [.sl (xs.map reqL)]), (1, vim m1 k), (5, vi i)], H := [], ps := [] } =
      if ltI (k - sumOf size (xs.drop i)) 0 = true then some (.ret, { V := [(4, vi (-1))], H := [], ps := [] })
      else some (.exit 0, { V := [(0, .v m false [.sl (xs.map reqL)]), (1, vim me (k - sumOf size (xs.drop i))), (5, vi xs.length), (15, vb false)], H := [], ps := [] })
  | 0, i, m1, k, h0, hk0, hk1 => by
    refine ⟨m1, ?_⟩
    rw [loopC_of _ _ _ _ ha]
    obtain rfl : i = xs.length := by omega
    have e : ltI k 0 = false := ltI_not.2 hk0
    simp [lp, loopsOf, Tryz.f17, sumOf, e]
  | n + 1, i, m1, k, h0, hk0, hk1 => by
    have hlt : i < xs.length := by omega
    have hw := wrapN i (by omega)
    have c := fun m m' hm => hc m m' xs[i] k hm ⟨hk0, hk1⟩ (hk _ (List.getElem_mem hlt))
    rw [List.drop_eq_getElem_cons hlt, sumOf_cons]
    cases e : ltI (k - size xs[i]) 0
    · have e' := ltI_not.1 e
      rw [less_pos e] at c
      obtain ⟨me, ih⟩ := lp_laws_szReqS size ok hc m hm xs hb hk a ha n (i + 1) .own (k - size xs[i]) (by omega) (by omega) (by omega)
      refine ⟨me, ?_⟩
      have heq : k - ((size xs[i] + sumOf size (xs.drop (i + 1)) : Nat) : Int) = k - size xs[i] - sumOf size (xs.drop (i + 1)) := by omega
      rw [heq]
      push_cast at ih
      rw [loopC_of _ _ _ _ ha]
      clear ha
      simp [lp, loopsOf, Tryz.f17, hlt, hw, c, hm, e]
      simpa using ih
    · have e' := ltI_iff.1 e
      rw [less_neg e] at c
      refine ⟨m1, ?_⟩
      rw [if_pos (ltI_iff.2 (by omega))]
      rw [loopC_of _ _ _ _ ha]
      clear ha
      simp [lp, loopsOf, Tryz.f17, hlt, hw, c, hm, e]
theorem ev_laws_szReqS (size : ReqT → Nat) (ok : ReqT → Prop) (hc : SizedBy E 52 reqL size ok) (m m' : M) (hm : m.isOwn = false) (xs : List (ReqT)) (n : Int) (h1 : 0 ≤ n ∧ n ≤ 1048576) (hb : xs.length ≤ 9223372036854775807) (hk : ∀ x ∈ xs, ok x) : ev E 17 [.v m false [.sl (xs.map reqL)], .v m' false [.int .i64 n]] = some (rI (less n (xs.length + sumOf size xs))) := by
  have hw : IntKind.i64.wrap (n - xs.length) = n - xs.length := wrap64 (by omega)
  rw [less_add]
  cases e : ltI (n - xs.length) 0
  · have e' := ltI_not.1 e
    obtain ⟨me, hl⟩ := lp_laws_szReqS size ok hc m hm xs (by omega) hk _ rfl xs.length 0 .ro (n - xs.length) (by omega) e' (by omega)
    push_cast at hl
    rw [List.drop_zero] at hl
    rw [ev_fn Tryz.f17 rfl Tryz.func17 rfl rfl rfl (Nat.le_of_ble_eq_true rfl)]
    simp [e, hw]
    rw [loopC_at ?_ (by simpa using hl)]
    · cases e2 : ltI (n - xs.length - sumOf size xs) 0 <;> simp [less, e2]
    · rfl
  · rw [ev_fn Tryz.f17 rfl Tryz.func17 rfl rfl rfl (Nat.le_of_ble_eq_true rfl)]
    simp [e, hw]
theorem lp_laws_szHoldS (size : HoldT → Nat) (ok : HoldT → Prop) (hc : SizedBy E 50 holdL size ok) (m : M) (hm : m.isOwn = false) (xs : List (HoldT)) (hb : xs.length ≤ 4000000) (hk : ∀ x ∈ xs, ok x) (a : Code) (ha : a = lp Tryz.f13 0) : ∀ (n i : Nat) (m1 : M) (k : Int), i + n = xs.length → 0 ≤ k → k ≤ 1048576 →
    ∃ me, loopC E (ev E) 13 a { V := [(0, .v m false [.sl (xs.map holdL)]), (1, vim m1 k), (5, vi i)], H := [], ps := [] } =
      if ltI (k - sumOf size (xs.drop i)) 0 = true then some (.ret, { V := [(4, vi (-1))], H := [], ps := [] })
      else some (.exit 0, { V := [(0, .v m false [.sl (xs.map holdL)]), (1, vim me (k - sumOf size (xs.drop i))), (5, vi xs.length), (15, vb false)], H := [], ps := [] })
  | 0, i, m1, k, h0, hk0, hk1 => by
    refine ⟨m1, ?_⟩
    rw [loopC_of _ _ _ _ ha]
    obtain rfl : i = xs.length := by omega
    have e : ltI k 0 = false := ltI_not.2 hk0
    simp [lp, loopsOf, Tryz.f13, sumOf, e]
  | n + 1, i, m1, k, h0, hk0, hk1 => by
    have hlt : i < xs.length := by omega
    have hw := wrapN i (by omega)
    have c := fun m m' hm => hc m m' xs[i] k hm ⟨hk0, hk1⟩ (hk _ (List.getElem_mem hlt))
    rw [List.drop_eq_getElem_cons hlt, sumOf_cons]
    cases e : ltI (k - size xs[i]) 0
    · have e' := ltI_not.1 e
      rw [less_pos e] at c
      obtain ⟨me, ih⟩ := lp_laws_szHoldS size ok hc m hm xs hb hk a ha n (i + 1) .own (k - size xs[i]) (by omega) (by omega) (by omega)
      refine ⟨me, ?_⟩
      have heq : k - ((size xs[i] + sumOf size (xs.drop (i + 1)) : Nat) : Int) = k - size xs[i] - sumOf size (xs.drop (i + 1)) := by omega
      rw [heq]
      push_cast at ih
      rw [loopC_of _ _ _ _ ha]
      clear ha
      simp [lp, loopsOf, Tryz.f13, hlt, hw, c, hm, e]
      simpa using ih
    · have e' := ltI_iff.1 e
      rw [less_neg e] at c
      refine ⟨m1, ?_⟩
      rw [if_pos (ltI_iff.2 (by omega))]
      rw [loopC_of _ _ _ _ ha]
      clear ha
      simp [lp, loopsOf, Tryz.f13, hlt, hw, c, hm, e]
theorem ev_laws_szHoldS (size : HoldT → Nat) (ok : HoldT → Prop) (hc : SizedBy E 50 holdL size ok) (m m' : M) (hm : m.isOwn = false) (xs : List (HoldT)) (n : Int) (h1 : 0 ≤ n ∧ n ≤ 1048576) (hb : xs.length ≤ 9223372036854775807) (hk : ∀ x ∈ xs, ok x) : ev E 13 [.v m false [.sl (xs.map holdL)], .v m' false [.int .i64 n]] = some (rI (less n (xs.length + sumOf size xs))) := by
  have hw : IntKind.i64.wrap (n - xs.length) = n - xs.length := wrap64 (by omega)
  rw [less_add]
  cases e : ltI (n - xs.length) 0
  · have e' := ltI_not.1 e
    obtain ⟨me, hl⟩ := lp_laws_szHoldS size ok hc m hm xs (by omega) hk _ rfl xs.length 0 .ro (n - xs.length) (by omega) e' (by omega)
    push_cast at hl
    rw [List.drop_zero] at hl
    rw [ev_fn Tryz.f13 rfl Tryz.func13 rfl rfl rfl (Nat.le_of_ble_eq_true rfl)]
    simp [e, hw]
    rw [loopC_at ?_ (by simpa using hl)]
    · cases e2 : ltI (n - xs.length - sumOf size xs) 0 <;> simp [less, e2]
    · rfl
  · rw [ev_fn Tryz.f13 rfl Tryz.func13 rfl rfl rfl (Nat.le_of_ble_eq_true rfl)]
    simp [e, hw]
theorem lp_laws_szOwnS (size : OwnT → Nat) (ok : OwnT → Prop) (hc : SizedBy E 51 ownL size ok) (m : M) (hm : m.isOwn = false) (xs : List (OwnT)) (hb : xs.length ≤ 4000000) (hk : ∀ x ∈ xs, ok x) (a : Code) (ha : a = lp Tryz.f14 0) : ∀ (n i : Nat) (m1 : M) (k : Int), i + n = xs.length → 0 ≤ k → k ≤ 1048576 →
    ∃ me, loopC E (ev E) 14 a { V := [(0, .v m false [.sl (xs.map ownL)]), (1, vim m1 k), (5, vi i)], H := [], ps := [] } =
      if ltI (k - sumOf size (xs.drop i)) 0 = true then some (.ret, { V := [(4, vi (-1))], H := [], ps := [] })
      else some (.exit 0, { V := [(0, .v m false [.sl (xs.map ownL)]), (1, vim me (k - sumOf size (xs.drop i))), (5, vi xs.length), (15, vb false)], H := [], ps := [] })
  | 0, i, m1, k, h0, hk0, hk1 => by
    refine ⟨m1, ?_⟩
    rw [loopC_of _ _ _ _ ha]
    obtain rfl : i = xs.length := by omega
    have e : ltI k 0 = false := ltI_not.2 hk0
    simp [lp, loopsOf, Tryz.f14, sumOf, e]
  | n + 1, i, m1, k, h0, hk0, hk1 => by
    have hlt : i < xs.length := by omega
    have hw := wrapN i (by omega)
    have c := fun m m' hm => hc m m' xs[i] k hm ⟨hk0, hk1⟩ (hk _ (List.getElem_mem hlt))
    rw [List.drop_eq_getElem_cons hlt, sumOf_cons]
    cases e : ltI (k - size xs[i]) 0
    · have e' := ltI_not.1 e
      rw [less_pos e] at c
      obtain ⟨me, ih⟩ := lp_laws_szOwnS size ok hc m hm xs hb hk a ha n (i + 1) .own (k - size xs[i]) (by omega) (by omega) (by omega)
      refine ⟨me, ?_⟩
      have heq : k - ((size xs[i] + sumOf size (xs.drop (i + 1)) : Nat) : Int) = k - size xs[i] - sumOf size (xs.drop (i + 1)) := by omega
      rw [heq]
      push_cast at ih
      rw [loopC_of _ _ _ _ ha]
      clear ha
      simp [lp, loopsOf, Tryz.f14, hlt, hw, c, hm, e]
      simpa using ih
    · have e' := ltI_iff.1 e
      rw [less_neg e] at c
      refine ⟨m1, ?_⟩
      rw [if_pos (ltI_iff.2 (by omega))]
      rw [loopC_of _ _ _ _ ha]
      clear ha
      simp [lp, loopsOf, Tryz.f14, hlt, hw, c, hm, e]
theorem ev_laws_szOwnS (size : OwnT → Nat) (ok : OwnT → Prop) (hc : SizedBy E 51 ownL size ok) (m m' : M) (hm : m.isOwn = false) (xs : List (OwnT)) (n : Int) (h1 : 0 ≤ n ∧ n ≤ 1048576) (hb : xs.length ≤ 9223372036854775807) (hk : ∀ x ∈ xs, ok x) : ev E 14 [.v m false [.sl (xs.map ownL)], .v m' false [.int .i64 n]] = some (rI (less n (xs.length + sumOf size xs))) := by
  have hw : IntKind.i64.wrap (n - xs.length) = n - xs.length := wrap64 (by omega)
  rw [less_add]
  cases e : ltI (n - xs.length) 0
  · have e' := ltI_not.1 e
    obtain ⟨me, hl⟩ := lp_laws_szOwnS size ok hc m hm xs (by omega) hk _ rfl xs.length 0 .ro (n - xs.length) (by omega) e' (by omega)
    push_cast at hl
    rw [List.drop_zero] at hl
    rw [ev_fn Tryz.f14 rfl Tryz.func14 rfl rfl rfl (Nat.le_of_ble_eq_true rfl)]
    simp [e, hw]
    rw [loopC_at ?_ (by simpa using hl)]
    · cases e2 : ltI (n - xs.length - sumOf size xs) 0 <;> simp [less, e2]
    · rfl
  · rw [ev_fn Tryz.f14 rfl Tryz.func14 rfl rfl rfl (Nat.le_of_ble_eq_true rfl)]
    simp [e, hw]
end Go.Ev
