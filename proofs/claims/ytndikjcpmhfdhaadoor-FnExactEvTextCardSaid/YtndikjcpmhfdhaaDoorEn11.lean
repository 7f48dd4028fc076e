/- My texts joined: EvW9, EvQ1, EvT35, EvT36, EvT40. No condition. -/
import Derived.Test.YtndikjcpmhfdhaaDoorEn7
import Derived.Test.YtndikjcpmhfdhaaDoorEn9
import Derived.Test.YtndikjcpmhfdhaaDoorEn10
import Derived.Lib.ItoaLen
/- Plain words: histories. No program in sight. -/
set_option linter.unusedSimpArgs false
set_option linter.unusedVariables false
namespace Go.Ev
def newSt : StoreT := ⟨[[], [], []], [[], [], []], [0, 0, 0], [0, 0, 0], [0, 0, 0]⟩
def newW (size many : Int) : WorldT := ⟨size, many, newSt, [noH, noH, noH], [noO, noO, noO], [0, 0, 0], [true, true, true], [], []⟩
def layOk (size many : Int) : Bool := !ltI size 1 && !ltI 8 size && !ltI many 1 && !ltI 3 many
theorem layOk_iff {size many : Int} : layOk size many = true ↔ 1 ≤ size ∧ size ≤ 8 ∧ 1 ≤ many ∧ many ≤ 3 := by
  simp only [layOk, Bool.and_eq_true, Bool.not_eq_true', ltI_not]
  omega
theorem three {P : Nat → Prop} (h0 : P 0) (h1 : P 1) (h2 : P 2) : ∀ i, i < 3 → P i := fun i hi => by
  match i, hi with
  | 0, _ => exact h0
  | 1, _ => exact h1
  | 2, _ => exact h2
theorem newW_ok {size many : Int} (h : layOk size many = true) : WorldP (newW size many) := by
  have hown : ∀ i, i < 3 → (newW size many).own i = noO := three rfl rfl rfl
  refine ⟨layOk_iff.1 h, storeOk_iff.1 (show storeOk newSt = true by decide), lockOk_iff.1 (show lockOk [noH, noH, noH] = true by decide), rfl, rfl, rfl, by simp [newW], fun i hi => by rw [hown i hi]; exact noO_ok, three ⟨Int.le_refl 0, show (0 : Int) ≤ 100 by decide⟩ ⟨Int.le_refl 0, show (0 : Int) ≤ 100 by decide⟩ ⟨Int.le_refl 0, show (0 : Int) ≤ 100 by decide⟩, fun i hi _ => hown i hi, rfl, by simp [newW], by simp [newW], fun i hi j hj hh => ?_⟩
  rw [hown i hi] at hh
  exact absurd hh (by simp [noO, inF])
def playW (w : WorldT) : List EvT → WorldT × List Int
  | [] => (w, [])
  | e :: es => ((playW (doW w e).1 es).1, (doW w e).2.2 :: (playW (doW w e).1 es).2)
theorem playW_ok : ∀ (es : List EvT) {w : WorldT}, WorldP w → WorldP (playW w es).1
  | [], w, h => h
  | e :: es, w, h => playW_ok es (doW_ok h e)
theorem playW_len : ∀ (es : List EvT) (w : WorldT), (playW w es).2.length = es.length
  | [], w => rfl
  | e :: es, w => by simp [playW, playW_len es]
theorem playW_app : ∀ (es fs : List EvT) (w : WorldT), playW w (es ++ fs) = ((playW (playW w es).1 fs).1, (playW w es).2 ++ (playW (playW w es).1 fs).2)
  | [], fs, w => rfl
  | e :: es, fs, w => by simp [playW, playW_app es fs]
/-! ### bytes that may be in a file -/
theorem getD_ok {xs : Bs} (h : xs.all okB = true) (j : Nat) {d : UInt8} (hd : okB d = true) : okB (xs.getD j d) = true := by
  rw [List.getD_eq_getElem?_getD]
  by_cases hj : j < xs.length
  · rw [List.getElem?_eq_getElem hj]
    exact List.all_eq_true.1 h _ (List.getElem_mem hj)
  · rw [List.getElem?_eq_none (by omega)]; exact hd
theorem txtOk_all {s : Bs} (h : txtOk s = true) : s.all okB = true := by
  simp only [txtOk, Bool.and_eq_true] at h
  exact h.1
theorem WorldP.byte_ok {w : WorldT} (h : WorldP w) (j : Nat) : okB (w.byte j) = true := by
  unfold WorldT.byte fileAt
  refine getD_ok ?_ _ (by decide)
  rw [List.getD_eq_getElem?_getD]
  by_cases hj : objOf w.size.toNat w.many.toNat j < w.st.now.length
  · rw [List.getElem?_eq_getElem hj]
    exact txtOk_all (h.st.nowT _ (List.getElem_mem hj))
  · rw [List.getElem?_eq_none (by omega)]; rfl
theorem WorldP.see_ok {w : WorldT} (h : WorldP w) {j : Nat} (hj : j < 48) : okB (w.see j) = true := by
  have g : ∀ i, i < 3 → okB ((w.own i).t.getD j 0) = true := fun i hi => by
    obtain ⟨h1, _, _, h4⟩ := ownOk_bd (h.own i hi)
    rw [List.getD_eq_getElem?_getD, List.getElem?_eq_getElem (by omega)]
    exact List.all_eq_true.1 h4 _ (List.getElem_mem _)
  unfold WorldT.see
  split
  · exact g 2 (by omega)
  · split
    · exact g 1 (by omega)
    · split
      · exact g 0 (by omega)
      · exact h.byte_ok j
theorem all_of_get {xs : Bs} {P : UInt8 → Bool} (h : ∀ j, j < xs.length → P (xs.getD j 0) = true) : xs.all P = true := by
  rw [List.all_eq_true]
  intro c hc
  obtain ⟨j, hj, rfl⟩ := List.getElem_of_mem hc
  have := h j hj
  rwa [List.getD_eq_getElem?_getD, List.getElem?_eq_getElem hj] at this
theorem WorldP.text_ok {w : WorldT} (h : WorldP w) : txtOk w.text = true := by
  obtain ⟨a1, a2⟩ := h.textGet
  simp only [txtOk, Bool.and_eq_true, Bool.not_eq_true', ltI_not]
  refine ⟨all_of_get fun j hj => ?_, by omega⟩
  rw [a2 j (by omega)]
  exact h.see_ok (by omega)
theorem WorldP.file_ok {w : WorldT} (h : WorldP w) : txtOk w.file = true := by
  simp only [txtOk, Bool.and_eq_true, Bool.not_eq_true', ltI_not, file_len]
  refine ⟨all_of_get fun j hj => ?_, by omega⟩
  rw [file_len] at hj
  rw [file_getD w hj]
  exact h.byte_ok j
/-- The program's write into what all see. -/
theorem twS_of {s : Bs} {k : Int} {x : Bs} (h1 : txtOk s = true) (h2 : wrOk k x = true) : twS s k x = (wrS s k.toNat x, true) := by
  simp only [twS, h1, h2, if_true]
theorem doW_write {w : WorldT} {e : EvT} (hw : WorldP w) (hk : e.kind = 3) (h : (doW w e).2.2 = 0) : e.who.toNat < 3 ∧ w.live e.who.toNat = true ∧ 0 ≤ e.pos ∧ WriteR w e.who.toNat e.pos.toNat e.data (doW w e).1 := by
  unfold doW at h ⊢
  rw [if_neg (by omega), if_neg (by omega), if_neg (by omega)] at h ⊢
  split at h
  · exact absurd h (by simp)
  · rename_i hf
    obtain ⟨hi, _⟩ := form_who hf
    rw [if_neg hf]
    rw [if_neg (by omega)] at h ⊢
    split at h
    · exact absurd h (by simp)
    · rename_i hl
      rw [if_neg hl]
      rw [Bool.not_eq_false] at hl
      unfold whoW at h ⊢
      rw [if_neg (by omega), if_neg (by omega), if_pos hk] at h ⊢
      obtain ⟨g1, g2⟩ := writeW_fine hw hi hl h
      exact ⟨hi, hl, g1, g2⟩
theorem doW_codes {w : WorldT} (hw : WorldP w) (e : EvT) : (doW w e).2.2 = 0 ∨ 20 ≤ (doW w e).2.2 ∨ (e.kind = 9 ∧ (doW w e).2.2 = 2) := by
  unfold doW
  split
  · exact .inl rfl
  · split
    · exact .inl rfl
    · split
      · rename_i h9
        unfold giveW
        split
        · exact .inr (.inl (by simp))
        · rename_i hc
          simp only [Bool.or_eq_true, Bool.not_eq_true', not_or, Bool.not_eq_true, Bool.not_eq_false, ltI_not, ltI_iff] at hc
          have hlt : e.pos.toNat < w.late.length := by omega
          have hq := hw.late (w.late.getD e.pos.toNat ⟨0, 0, 0, 0, 0, []⟩) (by
            rw [List.getD_eq_getElem?_getD, List.getElem?_eq_getElem hlt]
            exact List.getElem_mem hlt)
          rw [storeDo_late hq]
          exact .inr (.inr ⟨h9, rfl⟩)
      · split
        · exact .inr (.inl (by simp))
        · split
          · unfold evictW
            split
            · exact .inl rfl
            · exact .inr (.inl (by simp))
          · split
            · exact .inr (.inl (by simp))
            · unfold whoW
              split
              · unfold lockW
                repeat' split
                all_goals first | exact .inl rfl | exact .inr (.inl (by simp))
              · split
                · unfold readW
                  repeat' split
                  all_goals first | exact .inl rfl | exact .inr (.inl (by simp))
                · split
                  · unfold writeW
                    repeat' split
                    all_goals first | exact .inl rfl | exact .inr (.inl (by simp))
                  · split
                    · split
                      · exact .inl rfl
                      · exact .inr (.inl (by simp))
                    · exact .inl rfl
/-! ### without deaths -/
def isDeath (e : EvT) (c : Int) : Bool := (eqI e.kind 7 || eqI e.kind 8) && eqI c 0
def flatT : List EvT → List Int → Bs → Bs
  | e :: es, c :: cs, s => flatT es cs (if (eqI e.kind 3 && eqI c 0) = true then (twS s e.pos e.data).1 else s)
  | _, _, s => s
theorem do_text {w : WorldT} (hw : WorldP w) {e : EvT} (h : isDeath e (doW w e).2.2 = false) : (doW w e).1.text = if (eqI e.kind 3 && eqI (doW w e).2.2 0) = true then (twS w.text e.pos e.data).1 else w.text := by
  by_cases hc : (eqI e.kind 3 && eqI (doW w e).2.2 0) = true
  · rw [if_pos hc]
    simp only [Bool.and_eq_true, eqI_iff] at hc
    obtain ⟨hi, _, hp, R⟩ := doW_write hw hc.1 hc.2
    rw [R.text_eq hw hi, twS_of hw.text_ok (by have := R.wr; rwa [Int.toNat_of_nonneg hp] at this)]
  · rw [if_neg hc]
    simp only [Bool.and_eq_true, eqI_iff, not_and] at hc
    by_cases h378 : e.kind = 3 ∨ e.kind = 7 ∨ e.kind = 8
    · have h20 : 20 ≤ (doW w e).2.2 := by
        rcases doW_codes hw e with q | q | q
        · rcases h378 with k | k | k
          · exact absurd q (hc k)
          · simp [isDeath, k, q] at h
          · simp [isDeath, k, q] at h
        · exact q
        · omega
      rw [(doW_full h20).1]
    · exact text_eq hw (doW_ok hw e) fun j hj => still_see hw (by omega) (by omega) (by omega) hj
def noDeath : List EvT → List Int → Bool
  | e :: es, c :: cs => !isDeath e c && noDeath es cs
  | _, _ => true
theorem flat_text : ∀ (es : List EvT) {w : WorldT}, WorldP w → noDeath es (playW w es).2 = true → (playW w es).1.text = flatT es (playW w es).2 w.text
  | [], w, hw, _ => rfl
  | e :: es, w, hw, h => by
    simp only [playW, noDeath, Bool.and_eq_true, Bool.not_eq_true'] at h
    simp only [playW, flatT]
    rw [flat_text es (doW_ok hw e) h.2, do_text hw h.1]
/-! ### the late -/
theorem give_first {w : WorldT} (hw : WorldP w) (h : 0 < w.late.length) : giveW w 0 = ({ w with late := w.late.drop 1 }, 2) := by
  have hq := hw.late (w.late.getD 0 ⟨0, 0, 0, 0, 0, []⟩) (by
    rw [List.getD_eq_getElem?_getD, List.getElem?_eq_getElem h]
    exact List.getElem_mem h)
  unfold giveW
  have e1 : (ltI 0 0 || !ltI 0 w.late.length) = false := by simp [ltI, h]
  rw [if_neg (by rw [e1]; simp)]
  have e2 : storeDo w.st (w.late.getD (Int.toNat 0) ⟨0, 0, 0, 0, 0, []⟩) = (w.st, 2) := storeDo_late hq
  rw [e2]
  simp
/-! ### the dead who bar -/
theorem evict_fine {w : WorldT} {k : Nat} (h : (evictW w k).2 = 0) : (evictW w k).1.locks = w.locks.set k noH ∧ (evictW w k).1.alive = w.alive.set k true ∧ (evictW w k).1.owns = w.owns.set k noO ∧ (evictW w k).1.epochs = w.epochs.set k (w.ep k + 1) ∧ (evictW w k).1.size = w.size ∧ (evictW w k).1.many = w.many ∧ (evictW w k).1.st.now = w.st.now ∧ (evictW w k).1.kept = [] := by
  unfold evictW at h ⊢
  split at h
  · rename_i q
    rw [if_pos q]
    exact ⟨rfl, rfl, rfl, rfl, rfl, rfl, rfl, rfl⟩
  · exact absurd h (by simp)
end Go.Ev

/- Plain words: how values lie flat. No program in sight. -/
set_option linter.unusedVariables false
namespace Go.Ev
abbrev reqL (q : ReqT) : List L := [.int .i64 q.who, .int .i64 q.epoch, .int .i64 q.num, .int .i64 q.obj, .int .i64 q.pos, .str q.data]
abbrev strsL (xs : List Bs) : List (List L) := xs.map fun s => [.str s]
abbrev intsL (xs : List Int) : List (List L) := xs.map fun n => [.int .i64 n]
abbrev storeL (s : StoreT) : List L := [.sl (strsL s.now), .sl (strsL s.sure), .sl (intsL s.last), .sl (intsL s.slast), .sl (intsL s.floors)]
abbrev holdL (h : HoldT) : List L := [.sl (h.r.map spL), .sl (h.w.map spL)]
abbrev ownL (o : OwnT) : List L := owL o.t o.h o.d
abbrev boolsL (xs : List Bool) : List (List L) := xs.map fun b => [.bool b]
abbrev worldL (w : WorldT) : List L := [.int .i64 w.size, .int .i64 w.many, .sl (strsL w.st.now), .sl (strsL w.st.sure), .sl (intsL w.st.last), .sl (intsL w.st.slast), .sl (intsL w.st.floors), .sl (w.locks.map holdL), .sl (w.owns.map ownL), .sl (intsL w.epochs), .sl (boolsL w.alive), .sl (w.kept.map reqL), .sl (w.late.map reqL)]
abbrev evL (e : EvT) : List L := [.int .i64 e.kind, .int .i64 e.who, .bool e.write, .int .i64 e.span.1, .int .i64 e.span.2, .int .i64 e.pos, .str e.data]
end Go.Ev

/- Answers: numbers as text; requests told. -/
set_option linter.unusedSimpArgs false
set_option linter.unusedVariables false
set_option maxRecDepth 100000
set_option maxHeartbeats 4000000
namespace Go.Ev
open Go.Proofs
theorem ev_Itoa (m : M) (n : Int) (h : -9223372036854775808 ≤ n ∧ n ≤ 9223372036854775807) : ev E 62 [.v m false [.int .i64 n]] = some { rs := [.v .own false [.str (Lib.itoa n)]], outs := [] } := by
  rw [ev_eq]
  simp [itoaK, h, leafOut]
theorem ev_spec_l4Who (m : M) (k : Int) : ev E 64 [.v m false [.int .i64 k]] = some (rB (whoOk k)) := by
  rw [ev_fn Tryd.f64 rfl Tryd.func64 rfl rfl rfl (Nat.le_of_ble_eq_true rfl)]
  cases e1 : ltI k 0 <;> simp [e1, whoOk]
theorem ev_impl_client (m : M) (k : Int) : ev E 43 [.v m false [.int .i64 k]] = some (rB (whoOk k)) := by
  rw [ev_fn Tryd.f43 rfl Tryd.func43 rfl rfl rfl (Nat.le_of_ble_eq_true rfl)]
  cases e1 : ltI k 0 <;> simp [e1, whoOk]
theorem ev_l5Req (m : M) (q : ReqT) (hx : q.data.length ≤ 4000000) : ev E 32 [.v m true (reqL q)] = some (rB (reqOk q)) := by
  have c1 : ∀ m, ev E 64 [.v m false [.int .i64 q.who]] = some (rB (whoOk q.who)) := fun m => ev_spec_l4Who m q.who
  have c2 : ∀ m, ev E 65 [.v m false [.str q.data]] = some (rB (txtOk q.data)) := fun m => ev_spec_TextOk m q.data (by omega)
  have hwr : wrOk q.pos q.data = (!ltI q.pos 0 && !ltI 48 q.pos && txtOk q.data && !eqS q.data [] && !ltI 48 (q.pos + q.data.length)) := rfl
  rw [ev_fn Tryd.f32 rfl Tryd.func32 rfl rfl rfl (Nat.le_of_ble_eq_true rfl)]
  cases e1 : whoOk q.who
  · simp [c1, e1, reqOk]
  cases e2 : ltI q.epoch 0
  case true => simp [c1, e1, e2, reqOk]
  cases e3 : ltI 100 q.epoch
  case true => simp [c1, e1, e2, e3, reqOk]
  cases e4 : ltI q.num 1
  case true => simp [c1, e1, e2, e3, e4, reqOk]
  cases e5 : ltI 1000 q.num
  case true => simp [c1, e1, e2, e3, e4, e5, reqOk]
  cases e6 : ltI q.obj 0
  case true => simp [c1, e1, e2, e3, e4, e5, e6, reqOk]
  cases e7 : ltI q.obj 3
  case false => simp [c1, e1, e2, e3, e4, e5, e6, e7, reqOk]
  cases e8 : ltI q.pos 0
  case true => simp [c1, e1, e2, e3, e4, e5, e6, e7, e8, reqOk, hwr]
  cases e9 : ltI 48 q.pos
  case true => simp [c1, e1, e2, e3, e4, e5, e6, e7, e8, e9, reqOk, hwr]
  have h1 := ltI_not.1 e8
  have h2 := ltI_not.1 e9
  have hw : IntKind.i64.wrap (q.pos + q.data.length) = q.pos + q.data.length := wrap64 (by omega)
  cases e10 : txtOk q.data
  · simp [c1, c2, e1, e2, e3, e4, e5, e6, e7, e8, e9, e10, reqOk, hwr]
  · cases e11 : eqS q.data [] <;> simp [c1, c2, e1, e2, e3, e4, e5, e6, e7, e8, e9, e10, e11, hw, reqOk, hwr]
theorem ev_formed (m : M) (q : ReqT) (hx : q.data.length ≤ 4000000) : ev E 30 [.v m true (reqL q)] = some (rB (reqOk q)) := by
  have c1 : ∀ m, ev E 43 [.v m false [.int .i64 q.who]] = some (rB (whoOk q.who)) := fun m => ev_impl_client m q.who
  have c2 : ∀ m m' m'', ev E 37 [.v m false [.str []], .v m' false [.int .i64 q.pos], .v m'' false [.str q.data]] = some { rs := [.v .own false [.str (twS [] q.pos q.data).1], .v .own false [.bool (wrOk q.pos q.data)]], outs := [] } := fun m m' m'' => by
    rw [ev_impl_TextWrite m m' m'' [] q.data q.pos (by simp) hx]
    have e0 : txtOk [] = true := by decide
    simp only [twS, e0, if_true]
    cases wrOk q.pos q.data <;> rfl
  rw [ev_fn Tryd.f30 rfl Tryd.func30 rfl rfl rfl (Nat.le_of_ble_eq_true rfl)]
  cases e1 : whoOk q.who
  · simp [c1, c2, e1, reqOk]
  cases e2 : ltI q.epoch 0
  case true => simp [c1, c2, e1, e2, reqOk]
  cases e3 : ltI 100 q.epoch
  case true => simp [c1, c2, e1, e2, e3, reqOk]
  cases e4 : ltI q.num 1
  case true => simp [c1, c2, e1, e2, e3, e4, reqOk]
  cases e5 : ltI 1000 q.num
  case true => simp [c1, c2, e1, e2, e3, e4, e5, reqOk]
  cases e6 : ltI q.obj 0
  case true => simp [c1, c2, e1, e2, e3, e4, e5, e6, reqOk]
  cases e7 : ltI q.obj 3 <;> simp [c1, c2, e1, e2, e3, e4, e5, e6, e7, reqOk]
/-! numbers in decimals -/
theorem wrap8 {n : Nat} (h : n < 256) : IntKind.u8.wrap (n : Int) = (n : Int) := by
  simp only [IntKind.wrap, IntKind.signed, IntKind.bits]
  simp
  omega
theorem lp_l10Dec (a : Code) (ha : a = lp Tryd.f33 0) : ∀ (k n : Nat) (m1 m3 : M) (out : List UInt8), n < 10 ^ k → n < 9223372036854775808 → out.length + k ≤ 40 →
    ∃ (n' : Nat) (out' : List UInt8) (m1' m3' : M), n' ≤ 9 ∧ Lib.decDigits n ++ out = UInt8.ofNat (48 + n') :: out' ∧ out'.length ≤ 40 ∧
    loopC E (ev E) 33 a { V := [(0, .v m1 false [.int .i64 n]), (3, .v m3 false [.str out])], H := [], ps := [] } =
      some (.exit 0, { V := [(0, .v m1' false [.int .i64 n']), (3, .v m3' false [.str out']), (13, vb false)], H := [], ps := [] })
  | k, n, m1, m3, out, h, hn, ho => by
    by_cases h9 : n ≤ 9
    · refine ⟨n, out, m1, m3, h9, ?_, by omega, ?_⟩
      · rw [Lib.decDigits, dif_pos (by omega)]; rfl
      · have e : ltI 9 n = false := ltI_not.2 (by omega)
        rw [loopC_of _ _ _ _ ha]
        clear ha
        simp [lp, loopsOf, Tryd.f33, e]
    · match k, h, ho with
      | 0, h, _ => simp at h; omega
      | k + 1, h, ho =>
        have hd : n / 10 < 10 ^ k := by rw [Nat.pow_succ] at h; omega
        obtain ⟨n', out', m1', m3', g1, g2, g3, ih⟩ := lp_l10Dec a ha k (n / 10) .ro .ro (UInt8.ofNat (48 + n % 10) :: out) hd (by omega) (by simp; omega)
        refine ⟨n', out', m1', m3', g1, ?_, g3, ?_⟩
        · rw [← g2, Lib.decDigits, dif_neg (by omega)]; simp
        · have e : ltI 9 n = true := ltI_iff.2 (by omega)
          have hq : Int.tdiv (n : Int) 10 = ((n / 10 : Nat) : Int) := rfl
          have hr : Int.tmod (n : Int) 10 = ((n % 10 : Nat) : Int) := rfl
          have w1 : IntKind.i64.wrap (48 + ((n % 10 : Nat) : Int)) = ((48 + n % 10 : Nat) : Int) := by rw [wrap64] <;> omega
          have w2 : IntKind.u8.wrap ((48 + n % 10 : Nat) : Int) = ((48 + n % 10 : Nat) : Int) := wrap8 (by omega)
          have w3 : IntKind.i64.wrap ((n / 10 : Nat) : Int) = ((n / 10 : Nat) : Int) := wrap64 (by omega)
          have hl : 1 + out.length ≤ 4611686018427387904 := by omega
          have hl2 : out.length + 1 ≤ 4611686018427387904 := by omega
          generalize hv : 48 + n % 10 = v at *
          generalize n / 10 = d at *
          generalize n % 10 = r at *
          rw [loopC_of _ _ _ _ ha]
          clear ha
          simp [lp, loopsOf, Tryd.f33, e, hq, hr, w1, w2, w3, hl, hl2, bytesOfRows]
          simpa using ih
theorem ev_l10Dec_nat (m : M) (n : Nat) (hn : n < 9223372036854775808) : ev E 33 [.v m false [.int .i64 n]] = some { rs := [.v .own false [.str (Lib.decDigits n)]], outs := [] } := by
  obtain ⟨n', out', m1', m3', g1, g2, g3, hl⟩ := lp_l10Dec _ rfl 19 n m .ro [] (by omega) hn (by simp)
  have e1 : ltI n (-9223372036854775807) = false := ltI_not.2 (by omega)
  have e2 : ltI n 0 = false := ltI_not.2 (by omega)
  have w1 : IntKind.i64.wrap (48 + (n' : Int)) = ((48 + n' : Nat) : Int) := by rw [wrap64] <;> omega
  have w2 : IntKind.u8.wrap ((48 + n' : Nat) : Int) = ((48 + n' : Nat) : Int) := wrap8 (by omega)
  have hl1 : 1 + out'.length ≤ 4611686018427387904 := by omega
  have hl2 : out'.length + 1 ≤ 4611686018427387904 := by omega
  generalize hv : 48 + n' = v at *
  rw [List.append_nil] at g2
  rw [ev_fn Tryd.f33 rfl Tryd.func33 rfl rfl rfl (Nat.le_of_ble_eq_true rfl)]
  simp [e1, e2]
  rw [loopC_at ?_ hl]
  · simp [w1, w2, hl1, hl2, bytesOfRows, g2]
  · rfl
theorem ev_l10Dec (m : M) (n : Int) (hn : -9223372036854775808 ≤ n ∧ n ≤ 9223372036854775807) : ev E 33 [.v m false [.int .i64 n]] = some { rs := [.v .own false [.str (Lib.itoa n)]], outs := [] } := by
  by_cases h0 : 0 ≤ n
  · obtain ⟨k, rfl⟩ : ∃ k : Nat, n = k := ⟨n.toNat, by omega⟩
    rw [ev_l10Dec_nat m k (by omega)]
    simp only [Lib.itoa, if_neg (show ¬ (k : Int) < 0 by omega), Int.toNat_natCast]
  · by_cases h1 : n < -9223372036854775807
    · have e1 : ltI n (-9223372036854775807) = true := ltI_iff.2 h1
      have hn' : n = -9223372036854775808 := by omega
      have hi : Lib.itoa (-9223372036854775808) = [45, 57, 50, 50, 51, 51, 55, 50, 48, 51, 54, 56, 53, 52, 55, 55, 53, 56, 48, 56] := by decide +kernel
      rw [ev_fn Tryd.f33 rfl Tryd.func33 rfl rfl rfl (Nat.le_of_ble_eq_true rfl)]
      simp [e1, hn', hi]
    · have e1 : ltI n (-9223372036854775807) = false := ltI_not.2 (by omega)
      have e2 : ltI n 0 = true := ltI_iff.2 (by omega)
      obtain ⟨k, hk⟩ : ∃ k : Nat, n = -(k : Int) := ⟨n.natAbs, by omega⟩
      have hw : IntKind.i64.wrap (0 - n) = (k : Int) := by rw [wrap64] <;> omega
      have c := fun m => ev_l10Dec_nat m k (by omega)
      have hlen : (Lib.decDigits k).length ≤ 40 := by
        have := Lib.itoa_length_le k (by omega) (by omega)
        simp only [Lib.itoa, if_neg (show ¬ (k : Int) < 0 by omega), Int.toNat_natCast] at this
        omega
      have hw2 : IntKind.i64.wrap (-n) = (k : Int) := by rw [wrap64] <;> omega
      have hl1 : 1 + (Lib.decDigits k).length ≤ 4611686018427387904 := by omega
      have hl2 : (Lib.decDigits k).length + 1 ≤ 4611686018427387904 := by omega
      have hi : Lib.itoa n = 45 :: Lib.decDigits k := by
        simp only [Lib.itoa, if_pos (show n < 0 by omega)]
        rw [show n.natAbs = k by omega]
      rw [ev_fn Tryd.f33 rfl Tryd.func33 rfl rfl rfl (Nat.le_of_ble_eq_true rfl)]
      simp [e1, e2, hw, hw2, c, hl1, hl2, hi]
/-! numbers with spaces between -/
def i64 (n : Int) : Prop := -9223372036854775808 ≤ n ∧ n ≤ 9223372036854775807
theorem lp_spaced (m : M) (xs : List Int) (hx : ∀ n ∈ xs, i64 n) (hb : xs.length ≤ 1000) (a : Code) (ha : a = lp Tryd.f31 0) : ∀ (n i : Nat) (out : List (List UInt8)), i + n = xs.length → out.length = i →
    loopC E (ev E) 31 a { V := [(3, at1 3), (7, .v m false [.sl (intsL xs)]), (8, vi xs.length), (9, vi i)], H := [ow (.c 3) [.sl (strsL out)]], ps := [] } =
      some (.exit 0, { V := [(3, at1 3), (7, .v m false [.sl (intsL xs)]), (8, vi xs.length), (9, vi xs.length), (10, vb false)], H := [ow (.c 3) [.sl (strsL (out ++ (xs.drop i).map Lib.itoa))]], ps := [] })
  | 0, i, out, h0, ho => by
    rw [loopC_of _ _ _ _ ha]
    obtain rfl : i = xs.length := by omega
    simp [lp, loopsOf, Tryd.f31]
  | n + 1, i, out, h0, ho => by
    have hlt : i < xs.length := by omega
    have hw := wrapN i (by omega)
    have c := fun m => ev_Itoa m xs[i] (hx _ (List.getElem_mem hlt))
    have ih := lp_spaced m xs hx hb a ha n (i + 1) (out ++ [Lib.itoa xs[i]]) (by omega) (by simp; omega)
    have hsz : (out.length + 1) * 16 ≤ 17592186044416 := by omega
    have hsz2 : out.length + 1 ≤ 17592186044416 := by omega
    push_cast at ih
    rw [List.drop_eq_getElem_cons hlt, List.map_cons]
    rw [loopC_of _ _ _ _ ha]
    clear ha
    simp [lp, loopsOf, Tryd.f31, hlt, hw, c, hsz, hsz2]
    simpa using ih
theorem join_len (sep : List UInt8) (B : Nat) : ∀ (xs : List (List UInt8)), (∀ x ∈ xs, x.length + sep.length ≤ B) → (Lib.join xs sep).length ≤ xs.length * B
  | [], _ => by simp [Lib.join, List.intercalate]
  | [x], h => by
    have := h x (by simp)
    simp only [Lib.join, List.intercalate, List.intersperse, List.flatten_cons, List.flatten_nil, List.append_nil, List.length_cons, List.length_nil]
    omega
  | x :: y :: r, h => by
    have h1 := h x (by simp)
    have ih := join_len sep B (y :: r) fun z hz => h z (by simp [hz])
    have e : Lib.join (x :: y :: r) sep = x ++ sep ++ Lib.join (y :: r) sep := by simp [Lib.join, List.intercalate, List.intersperse]
    rw [e]
    simp only [List.length_append, List.length_cons] at ih ⊢
    have : (r.length + 1 + 1) * B = (r.length + 1) * B + B := by rw [Nat.succ_mul]
    omega
theorem strRows_of (xs : List (List UInt8)) : strRows (strsL xs) = some xs := by
  induction xs with
  | nil => rfl
  | cons x xs ih => simp only [List.map_cons, strRows, ih, Option.map_some]
theorem ev_Join (m m' : M) (xs : List (List UInt8)) (sep : List UInt8) (h1 : xs.length ≤ 140737488355328) (h2 : (Lib.join xs sep).length ≤ 140737488355328) : ev E 63 [.v m false [.sl (strsL xs)], .v m' false [.str sep]] = some { rs := [.v .own false [.str (Lib.join xs sep)]], outs := [] } := by
  have hx : E.ext 63 = some joinK := rfl
  rw [ev_eq]
  simp only [hx, joinK, strRows_of, h1, h2, and_self, if_true]
  rfl
theorem ev_spaced (m : M) (xs : List Int) (hx : ∀ n ∈ xs, i64 n) (hb : xs.length ≤ 1000) : ev E 31 [.v m false [.sl (intsL xs)]] = some { rs := [.v .own false [.str (Lib.join (xs.map Lib.itoa) [32])]], outs := [] } := by
  have hl := lp_spaced m xs hx hb _ rfl xs.length 0 [] (by omega) rfl
  have hj : (Lib.join (xs.map Lib.itoa) [32]).length ≤ 140737488355328 := by
    have := join_len [32] 22 (xs.map Lib.itoa) fun z hz => by
      obtain ⟨n, hn, rfl⟩ := List.mem_map.1 hz
      have := Lib.itoa_length_le n (hx n hn).1 (hx n hn).2
      simp only [List.length_singleton]
      omega
    rw [List.length_map] at this
    omega
  have c := fun m m' => ev_Join m m' (xs.map Lib.itoa) [32] (by rw [List.length_map]; omega) hj
  push_cast at hl
  rw [ev_fn Tryd.f31 rfl Tryd.func31 rfl rfl rfl (Nat.le_of_ble_eq_true rfl)]
  simp
  rw [loopC_at ?_ (by simpa using hl)]
  · simp [strsL] at c ⊢
    simp [c]
  · rfl
end Go.Ev

/- Answers: requests told; the law of ReqText. -/
set_option linter.unusedSimpArgs false
set_option linter.unusedVariables false
set_option maxRecDepth 100000
set_option maxHeartbeats 4000000
namespace Go.Ev
open Go.Proofs
theorem sb_add_of {a b : List UInt8} (h : a.length + b.length ≤ 4611686018427387904) : strBin .add a b = some (.str (a ++ b)) := by rw [sb_add, if_pos h]
def reqTxt (q : ReqT) : List UInt8 := if reqOk q = true then Lib.itoa q.who ++ 32 :: (Lib.itoa q.epoch ++ 32 :: (Lib.itoa q.num ++ 32 :: (Lib.itoa q.obj ++ 32 :: (Lib.itoa q.pos ++ 32 :: q.data)))) else []
theorem ReqP.i64 {q : ReqT} (h : ReqP q) : i64 q.who ∧ i64 q.epoch ∧ i64 q.num ∧ i64 q.obj ∧ i64 q.pos := by
  obtain ⟨h1, h2, h3, h4, h5⟩ := h
  have := wrOk_len h5
  simp only [Go.Ev.i64]
  omega
theorem ev_spec_ReqText (m : M) (q : ReqT) (hx : q.data.length ≤ 4000000) : ev E 11 [.v m true (reqL q)] = some { rs := [.v .own false [.str (reqTxt q)]], outs := [] } := by
  have c1 : ∀ m, ev E 32 [.v m true (reqL q)] = some (rB (reqOk q)) := fun m => ev_l5Req m q hx
  rw [ev_fn Tryd.f11 rfl Tryd.func11 rfl rfl rfl (Nat.le_of_ble_eq_true rfl)]
  cases e : reqOk q
  · simp [c1, e, reqTxt]
  · obtain ⟨h1, h2, h3, h4, h5⟩ := (reqOk_iff.1 e).i64
    have d1 := fun m => ev_l10Dec m q.who h1
    have d2 := fun m => ev_l10Dec m q.epoch h2
    have d3 := fun m => ev_l10Dec m q.num h3
    have d4 := fun m => ev_l10Dec m q.obj h4
    have d5 := fun m => ev_l10Dec m q.pos h5
    have g1 := Lib.itoa_length_le _ h1.1 h1.2
    have g2 := Lib.itoa_length_le _ h2.1 h2.2
    have g3 := Lib.itoa_length_le _ h3.1 h3.2
    have g4 := Lib.itoa_length_le _ h4.1 h4.2
    have g5 := Lib.itoa_length_le _ h5.1 h5.2
    simp only [reqTxt, e, if_true]
    generalize Lib.itoa q.who = a1 at *
    generalize Lib.itoa q.epoch = a2 at *
    generalize Lib.itoa q.num = a3 at *
    generalize Lib.itoa q.obj = a4 at *
    generalize Lib.itoa q.pos = a5 at *
    have k0 : a1.length + 1 ≤ 4611686018427387904 := by omega
    have k1 : a1.length + 1 + a2.length ≤ 4611686018427387904 := by omega
    have k2 : a1.length + (a2.length + 1) + 1 ≤ 4611686018427387904 := by omega
    have k3 : a1.length + (a2.length + 1 + 1) + a3.length ≤ 4611686018427387904 := by omega
    have k4 : a1.length + (a2.length + (a3.length + 1) + 1) + 1 ≤ 4611686018427387904 := by omega
    have k5 : a1.length + (a2.length + (a3.length + 1 + 1) + 1) + a4.length ≤ 4611686018427387904 := by omega
    have k6 : a1.length + (a2.length + (a3.length + (a4.length + 1) + 1) + 1) + 1 ≤ 4611686018427387904 := by omega
    have k7 : a1.length + (a2.length + (a3.length + (a4.length + 1 + 1) + 1) + 1) + a5.length ≤ 4611686018427387904 := by omega
    have k8 : a1.length + (a2.length + (a3.length + (a4.length + (a5.length + 1) + 1) + 1) + 1) + 1 ≤ 4611686018427387904 := by omega
    have k9 : a1.length + (a2.length + (a3.length + (a4.length + (a5.length + 1 + 1) + 1) + 1) + 1) + q.data.length ≤ 4611686018427387904 := by omega
    simp [c1, e, d1, d2, d3, d4, d5, k0, k1, k2, k3, k4, k5, k6, k7, k8, k9]
    trace_state
theorem ev_impl_ReqText (m : M) (q : ReqT) (hx : q.data.length ≤ 4000000) : ev E 10 [.v m true (reqL q)] = some { rs := [.v .own false [.str (reqTxt q)]], outs := [] } := by
  have c1 : ∀ m, ev E 30 [.v m true (reqL q)] = some (rB (reqOk q)) := fun m => ev_formed m q hx
  rw [ev_fn Tryd.f10 rfl Tryd.func10 rfl rfl rfl (Nat.le_of_ble_eq_true rfl)]
  cases e : reqOk q
  · simp [c1, e, reqTxt]
  · obtain ⟨h1, h2, h3, h4, h5⟩ := (reqOk_iff.1 e).i64
    have c2 : ∀ m, ev E 31 [.v m false [.sl [[.int .i64 q.who], [.int .i64 q.epoch], [.int .i64 q.num], [.int .i64 q.obj], [.int .i64 q.pos]]]] = some { rs := [.v .own false [.str (Lib.itoa q.who ++ 32 :: (Lib.itoa q.epoch ++ 32 :: (Lib.itoa q.num ++ 32 :: (Lib.itoa q.obj ++ 32 :: Lib.itoa q.pos))))]], outs := [] } := fun m => by
      have := ev_spaced m [q.who, q.epoch, q.num, q.obj, q.pos] (fun n hn => by simp only [List.mem_cons, List.not_mem_nil, or_false] at hn; rcases hn with rfl | rfl | rfl | rfl | rfl <;> assumption) (by simp)
      simpa [Lib.join, List.intercalate, List.intersperse] using this
    have g1 := Lib.itoa_length_le _ h1.1 h1.2
    have g2 := Lib.itoa_length_le _ h2.1 h2.2
    have g3 := Lib.itoa_length_le _ h3.1 h3.2
    have g4 := Lib.itoa_length_le _ h4.1 h4.2
    have g5 := Lib.itoa_length_le _ h5.1 h5.2
    simp only [reqTxt, e, if_true]
    generalize Lib.itoa q.who = a1 at *
    generalize Lib.itoa q.epoch = a2 at *
    generalize Lib.itoa q.num = a3 at *
    generalize Lib.itoa q.obj = a4 at *
    generalize Lib.itoa q.pos = a5 at *
    have k0 : a1.length + 1 ≤ 4611686018427387904 := by omega
    have k1 : a1.length + 1 + a2.length ≤ 4611686018427387904 := by omega
    have k2 : a1.length + (a2.length + 1) + 1 ≤ 4611686018427387904 := by omega
    have k3 : a1.length + (a2.length + 1 + 1) + a3.length ≤ 4611686018427387904 := by omega
    have k4 : a1.length + (a2.length + (a3.length + 1) + 1) + 1 ≤ 4611686018427387904 := by omega
    have k5 : a1.length + (a2.length + (a3.length + 1 + 1) + 1) + a4.length ≤ 4611686018427387904 := by omega
    have k6 : a1.length + (a2.length + (a3.length + (a4.length + 1) + 1) + 1) + 1 ≤ 4611686018427387904 := by omega
    have k7 : a1.length + (a2.length + (a3.length + (a4.length + 1 + 1) + 1) + 1) + a5.length ≤ 4611686018427387904 := by omega
    have k8 : a1.length + (a2.length + (a3.length + (a4.length + (a5.length + 1) + 1) + 1) + 1) + 1 ≤ 4611686018427387904 := by omega
    have k9 : a1.length + (a2.length + (a3.length + (a4.length + (a5.length + 1 + 1) + 1) + 1) + 1) + q.data.length ≤ 4611686018427387904 := by omega
    simp [c1, c2, e, k0, k1, k2, k3, k4, k5, k6, k7, k8, k9]
    trace_state
/-! the law -/
end Go.Ev

/- Answers: what happens, told. -/
set_option linter.unusedSimpArgs false
set_option linter.unusedVariables false
set_option maxRecDepth 100000
set_option maxHeartbeats 4000000
namespace Go.Ev
open Go.Proofs
def wordE (k : Int) : List UInt8 :=
  if eqI k 1 = true then [108, 111, 99, 107] else if eqI k 2 = true then [114, 101, 97, 100] else if eqI k 3 = true then [119, 114, 105, 116, 101]
  else if eqI k 4 = true then [102, 108, 117, 115, 104] else if eqI k 5 = true then [115, 121, 110, 99] else if eqI k 6 = true then [102, 97, 108, 108]
  else if eqI k 7 = true then [100, 105, 101] else if eqI k 8 = true then [101, 118, 105, 99, 116] else if eqI k 9 = true then [103, 105, 118, 101] else []
theorem ev_l8Word (m : M) (k : Int) : ev E 45 [.v m false [.int .i64 k]] = some { rs := [.v .own false [.str (wordE k)]], outs := [] } := by
  by_cases h : 1 ≤ k ∧ k < 10
  · have h9 : k = 1 ∨ k = 2 ∨ k = 3 ∨ k = 4 ∨ k = 5 ∨ k = 6 ∨ k = 7 ∨ k = 8 ∨ k = 9 := by omega
    rcases h9 with rfl | rfl | rfl | rfl | rfl | rfl | rfl | rfl | rfl <;> (rw [ev_fn Tryd.f45 rfl Tryd.func45 rfl rfl rfl (Nat.le_of_ble_eq_true rfl)]; simp; rfl)
  · have hw : wordE k = [] := by
      have f : ∀ c : Int, 1 ≤ c → c < 10 → eqI k c = false := fun c h1 h2 => eqI_not.2 (by omega)
      simp [wordE, f]
    rw [hw]
    rw [ev_fn Tryd.f45 rfl Tryd.func45 rfl rfl rfl (Nat.le_of_ble_eq_true rfl)]
    cases e1 : ltI k 1
    · have e2 : ltI k 10 = false := ltI_not.2 (by have := ltI_not.1 e1; omega)
      simp [e1, e2]
    · simp [e1]
def onlyE (e : EvT) : EvT :=
  if eqI e.kind 5 = true then ⟨e.kind, 0, false, (0, 0), 0, []⟩ else if eqI e.kind 6 = true then ⟨e.kind, 0, false, (0, 0), 0, []⟩
  else if eqI e.kind 9 = true then ⟨e.kind, 0, false, (0, 0), e.pos, []⟩
  else if eqI e.kind 1 = true then ⟨e.kind, e.who, e.write, e.span, 0, []⟩
  else if eqI e.kind 2 = true then ⟨e.kind, e.who, false, e.span, 0, []⟩
  else if eqI e.kind 3 = true then ⟨e.kind, e.who, false, (0, 0), e.pos, e.data⟩
  else ⟨e.kind, e.who, false, (0, 0), 0, []⟩
theorem ev_l8Only (m : M) (e : EvT) : ev E 72 [.v m true (evL e)] = some { rs := [.v .own true (evL (onlyE e))], outs := [] } := by
  rw [ev_fn Tryd.f72 rfl Tryd.func72 rfl rfl rfl (Nat.le_of_ble_eq_true rfl)]
  cases e5 : eqI e.kind 5
  case true => simp [e5, onlyE]
  cases e6 : eqI e.kind 6
  case true => simp [e5, e6, onlyE]
  cases e9 : eqI e.kind 9
  case true => simp [e5, e6, e9, onlyE]
  cases e1 : eqI e.kind 1
  case true => simp [e5, e6, e9, e1, onlyE]
  cases e2 : eqI e.kind 2
  case true => simp [e5, e6, e9, e1, e2, onlyE]
  cases e3 : eqI e.kind 3 <;> simp [e5, e6, e9, e1, e2, e3, onlyE]
@[simp] theorem eqAgg_ev : eqAgg Tryd.prog 40 = true := by kernel_rfl
def sameE (a b : EvT) : Bool := eqI a.kind b.kind && (eqI a.who b.who && ((a.write == b.write) && (eqI a.span.1 b.span.1 && (eqI a.span.2 b.span.2 && (eqI a.pos b.pos && eqS a.data b.data)))))
theorem eq_ev (a b : EvT) : cellsEq (evL a) (evL b) = some (sameE a b) := by
  simp [sameE]
def rightE (e : EvT) : Bool := !eqS (wordE e.kind) [] && (sameE (onlyE e) e && (whoOk e.who && (if eqI e.kind 1 = true then spOk e.span else if eqI e.kind 2 = true then spOk e.span else if eqI e.kind 3 = true then wrOk e.pos e.data else if eqI e.kind 9 = true then !ltI e.pos 0 && ltI e.pos 8 else true)))
theorem ev_l8Right (m : M) (e : EvT) (hx : e.data.length ≤ 4000000) : ev E 44 [.v m true (evL e)] = some (rB (rightE e)) := by
  have cW := fun m => ev_l8Word m e.kind
  have cO : ∀ m, ev E 72 [.v m true (evL e)] = some { rs := [.v .own true (evL (onlyE e))], outs := [] } := fun m => ev_l8Only m e
  have cH : ∀ m, ev E 64 [.v m false [.int .i64 e.who]] = some (rB (whoOk e.who)) := fun m => ev_spec_l4Who m e.who
  have cS := fun m => ev_spec_SpanOk m e.span
  have cT : ∀ m, ev E 65 [.v m false [.str e.data]] = some (rB (txtOk e.data)) := fun m => ev_spec_TextOk m e.data (by omega)
  have hwr : wrOk e.pos e.data = (!ltI e.pos 0 && !ltI 48 e.pos && txtOk e.data && !eqS e.data [] && !ltI 48 (e.pos + e.data.length)) := rfl
  unfold rightE
  generalize onlyE e = o at *
  generalize wordE e.kind = w at *
  rw [ev_fn Tryd.f44 rfl Tryd.func44 rfl rfl rfl (Nat.le_of_ble_eq_true rfl)]
  cases eW : eqS w []
  case true => simp [cW, eW]
  cases eO : sameE o e <;> simp only [sameE] at eO
  case false => simp [cW, eW, cO, eO]
  cases eH : whoOk e.who
  case false => simp [cW, eW, cO, eO, cH, eH]
  cases e1 : eqI e.kind 1
  case true => simp [cW, eW, cO, eO, cH, eH, e1, cS]
  cases e2 : eqI e.kind 2
  case true => simp [cW, eW, cO, eO, cH, eH, e1, e2, cS]
  cases e3 : eqI e.kind 3
  case false =>
    cases e9 : eqI e.kind 9
    · simp [cW, eW, cO, eO, cH, eH, e1, e2, e3, e9]
    · cases e8 : ltI e.pos 0 <;> simp [cW, eW, cO, eO, cH, eH, e1, e2, e3, e9, e8]
  cases e8 : ltI e.pos 0
  case true => simp [cW, eW, cO, eO, cH, eH, e1, e2, e3, e8, hwr]
  cases e9 : ltI 48 e.pos
  case true => simp [cW, eW, cO, eO, cH, eH, e1, e2, e3, e8, e9, hwr]
  have h1 := ltI_not.1 e8
  have h2 := ltI_not.1 e9
  have hw : IntKind.i64.wrap (e.pos + e.data.length) = e.pos + e.data.length := wrap64 (by omega)
  cases e10 : txtOk e.data
  · simp [cW, eW, cO, eO, cH, eH, e1, e2, e3, e8, e9, e10, cT, hwr]
  · cases e11 : eqS e.data [] <;> simp [cW, eW, cO, eO, cH, eH, e1, e2, e3, e8, e9, e10, e11, cT, hw, hwr]
structure EvI (e : EvT) : Prop where
  who : i64 e.who
  lo : i64 e.span.1
  hi : i64 e.span.2
  pos : i64 e.pos
  data : e.data.length ≤ 4000000
def textE (e : EvT) : List UInt8 :=
  if eqI e.kind 5 = true then wordE e.kind else if eqI e.kind 6 = true then wordE e.kind
  else if eqI e.kind 9 = true then wordE e.kind ++ 32 :: Lib.itoa e.pos
  else if eqI e.kind 2 = true then wordE e.kind ++ 32 :: (Lib.itoa e.who ++ 32 :: (Lib.itoa e.span.1 ++ 32 :: Lib.itoa e.span.2))
  else if eqI e.kind 3 = true then wordE e.kind ++ 32 :: (Lib.itoa e.who ++ 32 :: (Lib.itoa e.pos ++ 32 :: e.data))
  else if eqI e.kind 1 = true then (if e.write = true then wordE e.kind ++ 32 :: (Lib.itoa e.who ++ 32 :: 119 :: 32 :: (Lib.itoa e.span.1 ++ 32 :: Lib.itoa e.span.2)) else wordE e.kind ++ 32 :: (Lib.itoa e.who ++ 32 :: 114 :: 32 :: (Lib.itoa e.span.1 ++ 32 :: Lib.itoa e.span.2)))
  else wordE e.kind ++ 32 :: Lib.itoa e.who
def evTxt (e : EvT) : List UInt8 := if rightE e = true then textE e else []
theorem wordE_len (k : Int) : (wordE k).length ≤ 5 := by
  unfold wordE
  repeat' split
  all_goals simp
theorem ev_spec_EvText (m : M) (e : EvT) (b : EvI e) : ev E 18 [.v m true (evL e)] = some { rs := [.v .own false [.str (evTxt e)]], outs := [] } := by
  have cR : ∀ m, ev E 44 [.v m true (evL e)] = some (rB (rightE e)) := fun m => ev_l8Right m e b.data
  have cW := fun m => ev_l8Word m e.kind
  have d1 := fun m => ev_l10Dec m e.who b.who
  have d2 := fun m => ev_l10Dec m e.span.1 b.lo
  have d3 := fun m => ev_l10Dec m e.span.2 b.hi
  have d4 := fun m => ev_l10Dec m e.pos b.pos
  have g0 := wordE_len e.kind
  have g1 := Lib.itoa_length_le _ b.who.1 b.who.2
  have g2 := Lib.itoa_length_le _ b.lo.1 b.lo.2
  have g3 := Lib.itoa_length_le _ b.hi.1 b.hi.2
  have g4 := Lib.itoa_length_le _ b.pos.1 b.pos.2
  have g5 := b.data
  simp only [evTxt, textE]
  generalize wordE e.kind = w at *
  generalize Lib.itoa e.who = a1 at *
  generalize Lib.itoa e.span.1 = a2 at *
  generalize Lib.itoa e.span.2 = a3 at *
  generalize Lib.itoa e.pos = a4 at *
  cases eR : rightE e
  · rw [ev_fn Tryd.f18 rfl Tryd.func18 rfl rfl rfl (Nat.le_of_ble_eq_true rfl)]
    simp [cR, eR]
  cases e5 : eqI e.kind 5
  case true =>
    rw [ev_fn Tryd.f18 rfl Tryd.func18 rfl rfl rfl (Nat.le_of_ble_eq_true rfl)]
    simp [cR, eR, cW, d1, d2, d3, d4, e5]
    repeat (rw [if_pos (by omega)]; simp [cR, eR, cW, d1, d2, d3, d4, e5])
  cases e6 : eqI e.kind 6
  case true =>
    rw [ev_fn Tryd.f18 rfl Tryd.func18 rfl rfl rfl (Nat.le_of_ble_eq_true rfl)]
    simp [cR, eR, cW, d1, d2, d3, d4, e5, e6]
    repeat (rw [if_pos (by omega)]; simp [cR, eR, cW, d1, d2, d3, d4, e5, e6])
  cases e9 : eqI e.kind 9
  case true =>
    rw [ev_fn Tryd.f18 rfl Tryd.func18 rfl rfl rfl (Nat.le_of_ble_eq_true rfl)]
    simp [cR, eR, cW, d1, d2, d3, d4, e5, e6, e9]
    repeat (rw [if_pos (by omega)]; simp [cR, eR, cW, d1, d2, d3, d4, e5, e6, e9])
  cases e2 : eqI e.kind 2
  case true =>
    rw [ev_fn Tryd.f18 rfl Tryd.func18 rfl rfl rfl (Nat.le_of_ble_eq_true rfl)]
    simp [cR, eR, cW, d1, d2, d3, d4, e5, e6, e9, e2]
    repeat (rw [if_pos (by omega)]; simp [cR, eR, cW, d1, d2, d3, d4, e5, e6, e9, e2])
  cases e3 : eqI e.kind 3
  case true =>
    rw [ev_fn Tryd.f18 rfl Tryd.func18 rfl rfl rfl (Nat.le_of_ble_eq_true rfl)]
    simp [cR, eR, cW, d1, d2, d3, d4, e5, e6, e9, e2, e3]
    repeat (rw [if_pos (by omega)]; simp [cR, eR, cW, d1, d2, d3, d4, e5, e6, e9, e2, e3])
  cases e1 : eqI e.kind 1
  case true =>
    rw [ev_fn Tryd.f18 rfl Tryd.func18 rfl rfl rfl (Nat.le_of_ble_eq_true rfl)]
    simp [cR, eR, cW, d1, d2, d3, d4, e5, e6, e9, e2, e3, e1]
    repeat (rw [if_pos (by omega)]; simp [cR, eR, cW, d1, d2, d3, d4, e5, e6, e9, e2, e3, e1])
    cases ew : e.write
    · simp [ew]
      repeat (rw [if_pos (by omega)]; simp [ew])
    · simp [ew]
      repeat (rw [if_pos (by omega)]; simp [ew])
  rw [ev_fn Tryd.f18 rfl Tryd.func18 rfl rfl rfl (Nat.le_of_ble_eq_true rfl)]
  simp [cR, eR, cW, d1, d2, d3, d4, e5, e6, e9, e2, e3, e1]
  repeat (rw [if_pos (by omega)]; simp [cR, eR, cW, d1, d2, d3, d4, e5, e6, e9, e2, e3, e1])
end Go.Ev
