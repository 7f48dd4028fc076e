/- My texts joined: EvT41, EvT42. No condition. -/
import Derived.Test.YtndikjcpmhfdhaaDoorEn11
/- Answers: what happens, told by the program. -/
set_option linter.unusedSimpArgs false
set_option linter.unusedVariables false
set_option maxRecDepth 100000
set_option maxHeartbeats 8000000
namespace Go.Ev
open Go.Proofs
theorem eqI_sym (a b : Int) : eqI a b = eqI b a := by
  rw [Bool.eq_iff_iff, eqI_iff, eqI_iff]
  exact eq_comm
theorem eqS_sym (a b : List UInt8) : eqS a b = eqS b a := by
  cases h : eqS b a
  · rw [eqS_not] at h ⊢
    exact fun q => h q.symm
  · rw [eqS_iff] at h ⊢
    exact h.symm
structure ImplT (e : EvT) : Prop where
  tw : ∀ m m' m'', ev E 37 [.v m false [.str []], .v m' false [.int .i64 e.pos], .v m'' false [.str e.data]] = some { rs := [.v .own false [.str (twS [] e.pos e.data).1], .v .own false [.bool (wrOk e.pos e.data)]], outs := [] }
  s1 : ∀ m, ev E 31 [.v m false [.sl [[.int .i64 e.who]]]] = some { rs := [.v .own false [.str (Lib.itoa e.who)]], outs := [] }
  s2 : ∀ m, ev E 31 [.v m false [.sl [[.int .i64 e.span.1], [.int .i64 e.span.2]]]] = some { rs := [.v .own false [.str (Lib.itoa e.span.1 ++ 32 :: Lib.itoa e.span.2)]], outs := [] }
  s3 : ∀ m, ev E 31 [.v m false [.sl [[.int .i64 e.who], [.int .i64 e.pos]]]] = some { rs := [.v .own false [.str (Lib.itoa e.who ++ 32 :: Lib.itoa e.pos)]], outs := [] }
  s4 : ∀ m, ev E 31 [.v m false [.sl [[.int .i64 e.pos]]]] = some { rs := [.v .own false [.str (Lib.itoa e.pos)]], outs := [] }
  cl : ∀ m, ev E 43 [.v m false [.int .i64 e.who]] = some (rB (whoOk e.who))
  sp : ∀ m, ev E 42 [.v m true (spL e.span)] = some (rB (spOk e.span))
theorem implT (e : EvT) (b : EvI e) : ImplT e := by
  refine ⟨fun m m' m'' => ?_, fun m => ?_, fun m => ?_, fun m => ?_, fun m => ?_, fun m => ev_impl_client m e.who, fun m => ev_impl_SpanOk m e.span⟩
  · rw [ev_impl_TextWrite m m' m'' [] e.data e.pos (by simp) b.data]
    have e0 : txtOk [] = true := by decide
    simp only [twS, e0, if_true]
    cases wrOk e.pos e.data <;> rfl
  · have := ev_spaced m [e.who] (fun n hn => by simp only [List.mem_singleton] at hn; subst hn; exact b.who) (by simp)
    simpa [Lib.join, List.intercalate, List.intersperse] using this
  · have := ev_spaced m [e.span.1, e.span.2] (fun n hn => by simp only [List.mem_cons, List.not_mem_nil, or_false] at hn; rcases hn with rfl | rfl; exact b.lo; exact b.hi) (by simp)
    simpa [Lib.join, List.intercalate, List.intersperse] using this
  · have := ev_spaced m [e.who, e.pos] (fun n hn => by simp only [List.mem_cons, List.not_mem_nil, or_false] at hn; rcases hn with rfl | rfl; exact b.who; exact b.pos) (by simp)
    simpa [Lib.join, List.intercalate, List.intersperse] using this
  · have := ev_spaced m [e.pos] (fun n hn => by simp only [List.mem_singleton] at hn; subst hn; exact b.pos) (by simp)
    simpa [Lib.join, List.intercalate, List.intersperse] using this
theorem ev_impl_EvText_1 (m : M) (e : EvT) (b : EvI e) (hk : e.kind = 1) : ev E 17 [.v m true (evL e)] = some { rs := [.v .own false [.str (evTxt e)]], outs := [] } := by
  obtain ⟨tw, s1, s2, s3, s4, cl, sp⟩ := implT e b
  have g1 := Lib.itoa_length_le _ b.who.1 b.who.2
  have g2 := Lib.itoa_length_le _ b.lo.1 b.lo.2
  have g3 := Lib.itoa_length_le _ b.hi.1 b.hi.2
  have g4 := Lib.itoa_length_le _ b.pos.1 b.pos.2
  have g5 := b.data
  have p1 := eqI_sym 0 e.pos
  have p2 := eqS_sym [] e.data
  have p3 := eqI_sym 0 e.who
  have q1 := eqI_sym 0 e.span.1
  have q2 := eqI_sym 0 e.span.2
  have f1 : eqI e.kind 1 = true := by rw [hk]; rfl
  have f2 : eqI e.kind 2 = false := by rw [hk]; rfl
  have f3 : eqI e.kind 3 = false := by rw [hk]; rfl
  have f4 : eqI e.kind 4 = false := by rw [hk]; rfl
  have f5 : eqI e.kind 5 = false := by rw [hk]; rfl
  have f6 : eqI e.kind 6 = false := by rw [hk]; rfl
  have f7 : eqI e.kind 7 = false := by rw [hk]; rfl
  have f8 : eqI e.kind 8 = false := by rw [hk]; rfl
  have f9 : eqI e.kind 9 = false := by rw [hk]; rfl
  have fw : wordE e.kind = wordE 1 := by rw [hk]
  have fw2 : wordE 1 = [108, 111, 99, 107] := rfl
  cases eS : spOk e.span
  all_goals
    rw [ev_fn Tryd.f17 rfl Tryd.func17 rfl rfl rfl (Nat.le_of_ble_eq_true rfl)]
    simp [tw, s1, s2, s3, s4, cl, sp, evTxt, rightE, onlyE, sameE, textE, p1, p2, p3, q1, q2, f1, f2, f3, f4, f5, f6, f7, f8, f9, fw, fw2, eS]
    repeat (rw [if_pos (by omega)]; simp [tw, s1, s2, s3, s4, cl, sp, evTxt, rightE, onlyE, sameE, textE, p1, p2, p3, q1, q2, f1, f2, f3, f4, f5, f6, f7, f8, f9, fw, fw2, eS])
    try (cases ew : e.write <;> simp [tw, s1, s2, s3, s4, cl, sp, evTxt, rightE, onlyE, sameE, textE, p1, p2, p3, q1, q2, f1, f2, f3, f4, f5, f6, f7, f8, f9, fw, fw2, eS, ew] <;> repeat (rw [if_pos (by omega)]; simp [tw, s1, s2, s3, s4, cl, sp, evTxt, rightE, onlyE, sameE, textE, p1, p2, p3, q1, q2, f1, f2, f3, f4, f5, f6, f7, f8, f9, fw, fw2, eS, ew]))
    all_goals (try (repeat' (split <;> rename_i hq <;> (try simp only [Bool.not_eq_true] at hq) <;> simp [hq, tw, s1, s2, s3, s4, cl, sp, evTxt, rightE, onlyE, sameE, textE, p1, p2, p3, q1, q2, f1, f2, f3, f4, f5, f6, f7, f8, f9, fw, fw2, eS])))
  all_goals (clear tw s1 s2 s3 s4 cl sp g1 g2 g3 g4 g5 p1 p2 p3 q1 q2 b; first | (simp_all; done) | grind)
theorem ev_impl_EvText_2 (m : M) (e : EvT) (b : EvI e) (hk : e.kind = 2) : ev E 17 [.v m true (evL e)] = some { rs := [.v .own false [.str (evTxt e)]], outs := [] } := by
  obtain ⟨tw, s1, s2, s3, s4, cl, sp⟩ := implT e b
  have g1 := Lib.itoa_length_le _ b.who.1 b.who.2
  have g2 := Lib.itoa_length_le _ b.lo.1 b.lo.2
  have g3 := Lib.itoa_length_le _ b.hi.1 b.hi.2
  have g4 := Lib.itoa_length_le _ b.pos.1 b.pos.2
  have g5 := b.data
  have p1 := eqI_sym 0 e.pos
  have p2 := eqS_sym [] e.data
  have p3 := eqI_sym 0 e.who
  have q1 := eqI_sym 0 e.span.1
  have q2 := eqI_sym 0 e.span.2
  have f1 : eqI e.kind 1 = false := by rw [hk]; rfl
  have f2 : eqI e.kind 2 = true := by rw [hk]; rfl
  have f3 : eqI e.kind 3 = false := by rw [hk]; rfl
  have f4 : eqI e.kind 4 = false := by rw [hk]; rfl
  have f5 : eqI e.kind 5 = false := by rw [hk]; rfl
  have f6 : eqI e.kind 6 = false := by rw [hk]; rfl
  have f7 : eqI e.kind 7 = false := by rw [hk]; rfl
  have f8 : eqI e.kind 8 = false := by rw [hk]; rfl
  have f9 : eqI e.kind 9 = false := by rw [hk]; rfl
  have fw : wordE e.kind = wordE 2 := by rw [hk]
  have fw2 : wordE 2 = [114, 101, 97, 100] := rfl
  cases eS : spOk e.span
  all_goals
    rw [ev_fn Tryd.f17 rfl Tryd.func17 rfl rfl rfl (Nat.le_of_ble_eq_true rfl)]
    simp [tw, s1, s2, s3, s4, cl, sp, evTxt, rightE, onlyE, sameE, textE, p1, p2, p3, q1, q2, f1, f2, f3, f4, f5, f6, f7, f8, f9, fw, fw2, eS]
    repeat (rw [if_pos (by omega)]; simp [tw, s1, s2, s3, s4, cl, sp, evTxt, rightE, onlyE, sameE, textE, p1, p2, p3, q1, q2, f1, f2, f3, f4, f5, f6, f7, f8, f9, fw, fw2, eS])
    all_goals (try (repeat' (split <;> rename_i hq <;> (try simp only [Bool.not_eq_true] at hq) <;> simp [hq, tw, s1, s2, s3, s4, cl, sp, evTxt, rightE, onlyE, sameE, textE, p1, p2, p3, q1, q2, f1, f2, f3, f4, f5, f6, f7, f8, f9, fw, fw2, eS])))
  all_goals (clear tw s1 s2 s3 s4 cl sp g1 g2 g3 g4 g5 p1 p2 p3 q1 q2 b; first | (simp_all; done) | grind)
theorem ev_impl_EvText_3 (m : M) (e : EvT) (b : EvI e) (hk : e.kind = 3) : ev E 17 [.v m true (evL e)] = some { rs := [.v .own false [.str (evTxt e)]], outs := [] } := by
  obtain ⟨tw, s1, s2, s3, s4, cl, sp⟩ := implT e b
  have g1 := Lib.itoa_length_le _ b.who.1 b.who.2
  have g2 := Lib.itoa_length_le _ b.lo.1 b.lo.2
  have g3 := Lib.itoa_length_le _ b.hi.1 b.hi.2
  have g4 := Lib.itoa_length_le _ b.pos.1 b.pos.2
  have g5 := b.data
  have p1 := eqI_sym 0 e.pos
  have p2 := eqS_sym [] e.data
  have p3 := eqI_sym 0 e.who
  have q1 := eqI_sym 0 e.span.1
  have q2 := eqI_sym 0 e.span.2
  have f1 : eqI e.kind 1 = false := by rw [hk]; rfl
  have f2 : eqI e.kind 2 = false := by rw [hk]; rfl
  have f3 : eqI e.kind 3 = true := by rw [hk]; rfl
  have f4 : eqI e.kind 4 = false := by rw [hk]; rfl
  have f5 : eqI e.kind 5 = false := by rw [hk]; rfl
  have f6 : eqI e.kind 6 = false := by rw [hk]; rfl
  have f7 : eqI e.kind 7 = false := by rw [hk]; rfl
  have f8 : eqI e.kind 8 = false := by rw [hk]; rfl
  have f9 : eqI e.kind 9 = false := by rw [hk]; rfl
  have fw : wordE e.kind = wordE 3 := by rw [hk]
  have fw2 : wordE 3 = [119, 114, 105, 116, 101] := rfl
  cases eS : wrOk e.pos e.data
  all_goals
    rw [ev_fn Tryd.f17 rfl Tryd.func17 rfl rfl rfl (Nat.le_of_ble_eq_true rfl)]
    simp [tw, s1, s2, s3, s4, cl, sp, evTxt, rightE, onlyE, sameE, textE, p1, p2, p3, q1, q2, f1, f2, f3, f4, f5, f6, f7, f8, f9, fw, fw2, eS]
    repeat (rw [if_pos (by omega)]; simp [tw, s1, s2, s3, s4, cl, sp, evTxt, rightE, onlyE, sameE, textE, p1, p2, p3, q1, q2, f1, f2, f3, f4, f5, f6, f7, f8, f9, fw, fw2, eS])
    all_goals (try (repeat' (split <;> rename_i hq <;> (try simp only [Bool.not_eq_true] at hq) <;> simp [hq, tw, s1, s2, s3, s4, cl, sp, evTxt, rightE, onlyE, sameE, textE, p1, p2, p3, q1, q2, f1, f2, f3, f4, f5, f6, f7, f8, f9, fw, fw2, eS])))
  all_goals (clear tw s1 s2 s3 s4 cl sp g1 g2 g3 g4 g5 p1 p2 p3 q1 q2 b; first | (simp_all; done) | grind)
theorem ev_impl_EvText_4 (m : M) (e : EvT) (b : EvI e) (hk : e.kind = 4) : ev E 17 [.v m true (evL e)] = some { rs := [.v .own false [.str (evTxt e)]], outs := [] } := by
  obtain ⟨tw, s1, s2, s3, s4, cl, sp⟩ := implT e b
  have g1 := Lib.itoa_length_le _ b.who.1 b.who.2
  have g2 := Lib.itoa_length_le _ b.lo.1 b.lo.2
  have g3 := Lib.itoa_length_le _ b.hi.1 b.hi.2
  have g4 := Lib.itoa_length_le _ b.pos.1 b.pos.2
  have g5 := b.data
  have p1 := eqI_sym 0 e.pos
  have p2 := eqS_sym [] e.data
  have p3 := eqI_sym 0 e.who
  have q1 := eqI_sym 0 e.span.1
  have q2 := eqI_sym 0 e.span.2
  have f1 : eqI e.kind 1 = false := by rw [hk]; rfl
  have f2 : eqI e.kind 2 = false := by rw [hk]; rfl
  have f3 : eqI e.kind 3 = false := by rw [hk]; rfl
  have f4 : eqI e.kind 4 = true := by rw [hk]; rfl
  have f5 : eqI e.kind 5 = false := by rw [hk]; rfl
  have f6 : eqI e.kind 6 = false := by rw [hk]; rfl
  have f7 : eqI e.kind 7 = false := by rw [hk]; rfl
  have f8 : eqI e.kind 8 = false := by rw [hk]; rfl
  have f9 : eqI e.kind 9 = false := by rw [hk]; rfl
  have fw : wordE e.kind = wordE 4 := by rw [hk]
  have fw2 : wordE 4 = [102, 108, 117, 115, 104] := rfl
  all_goals
    rw [ev_fn Tryd.f17 rfl Tryd.func17 rfl rfl rfl (Nat.le_of_ble_eq_true rfl)]
    simp [tw, s1, s2, s3, s4, cl, sp, evTxt, rightE, onlyE, sameE, textE, p1, p2, p3, q1, q2, f1, f2, f3, f4, f5, f6, f7, f8, f9, fw, fw2]
    repeat (rw [if_pos (by omega)]; simp [tw, s1, s2, s3, s4, cl, sp, evTxt, rightE, onlyE, sameE, textE, p1, p2, p3, q1, q2, f1, f2, f3, f4, f5, f6, f7, f8, f9, fw, fw2])
    all_goals (try (repeat' (split <;> rename_i hq <;> (try simp only [Bool.not_eq_true] at hq) <;> simp [hq, tw, s1, s2, s3, s4, cl, sp, evTxt, rightE, onlyE, sameE, textE, p1, p2, p3, q1, q2, f1, f2, f3, f4, f5, f6, f7, f8, f9, fw, fw2])))
  all_goals (clear tw s1 s2 s3 s4 cl sp g1 g2 g3 g4 g5 p1 p2 p3 q1 q2 b; first | (simp_all; done) | grind)
theorem ev_impl_EvText_5 (m : M) (e : EvT) (b : EvI e) (hk : e.kind = 5) : ev E 17 [.v m true (evL e)] = some { rs := [.v .own false [.str (evTxt e)]], outs := [] } := by
  obtain ⟨tw, s1, s2, s3, s4, cl, sp⟩ := implT e b
  have g1 := Lib.itoa_length_le _ b.who.1 b.who.2
  have g2 := Lib.itoa_length_le _ b.lo.1 b.lo.2
  have g3 := Lib.itoa_length_le _ b.hi.1 b.hi.2
  have g4 := Lib.itoa_length_le _ b.pos.1 b.pos.2
  have g5 := b.data
  have p1 := eqI_sym 0 e.pos
  have p2 := eqS_sym [] e.data
  have p3 := eqI_sym 0 e.who
  have q1 := eqI_sym 0 e.span.1
  have q2 := eqI_sym 0 e.span.2
  have f1 : eqI e.kind 1 = false := by rw [hk]; rfl
  have f2 : eqI e.kind 2 = false := by rw [hk]; rfl
  have f3 : eqI e.kind 3 = false := by rw [hk]; rfl
  have f4 : eqI e.kind 4 = false := by rw [hk]; rfl
  have f5 : eqI e.kind 5 = true := by rw [hk]; rfl
  have f6 : eqI e.kind 6 = false := by rw [hk]; rfl
  have f7 : eqI e.kind 7 = false := by rw [hk]; rfl
  have f8 : eqI e.kind 8 = false := by rw [hk]; rfl
  have f9 : eqI e.kind 9 = false := by rw [hk]; rfl
  have fw : wordE e.kind = wordE 5 := by rw [hk]
  have fw2 : wordE 5 = [115, 121, 110, 99] := rfl
  all_goals
    rw [ev_fn Tryd.f17 rfl Tryd.func17 rfl rfl rfl (Nat.le_of_ble_eq_true rfl)]
    simp [tw, s1, s2, s3, s4, cl, sp, evTxt, rightE, onlyE, sameE, textE, p1, p2, p3, q1, q2, f1, f2, f3, f4, f5, f6, f7, f8, f9, fw, fw2]
    repeat (rw [if_pos (by omega)]; simp [tw, s1, s2, s3, s4, cl, sp, evTxt, rightE, onlyE, sameE, textE, p1, p2, p3, q1, q2, f1, f2, f3, f4, f5, f6, f7, f8, f9, fw, fw2])
    all_goals (try (repeat' (split <;> rename_i hq <;> (try simp only [Bool.not_eq_true] at hq) <;> simp [hq, tw, s1, s2, s3, s4, cl, sp, evTxt, rightE, onlyE, sameE, textE, p1, p2, p3, q1, q2, f1, f2, f3, f4, f5, f6, f7, f8, f9, fw, fw2])))
  all_goals (clear tw s1 s2 s3 s4 cl sp g1 g2 g3 g4 g5 p1 p2 p3 q1 q2 b; first | (simp_all; done) | grind)
theorem ev_impl_EvText_6 (m : M) (e : EvT) (b : EvI e) (hk : e.kind = 6) : ev E 17 [.v m true (evL e)] = some { rs := [.v .own false [.str (evTxt e)]], outs := [] } := by
  obtain ⟨tw, s1, s2, s3, s4, cl, sp⟩ := implT e b
  have g1 := Lib.itoa_length_le _ b.who.1 b.who.2
  have g2 := Lib.itoa_length_le _ b.lo.1 b.lo.2
  have g3 := Lib.itoa_length_le _ b.hi.1 b.hi.2
  have g4 := Lib.itoa_length_le _ b.pos.1 b.pos.2
  have g5 := b.data
  have p1 := eqI_sym 0 e.pos
  have p2 := eqS_sym [] e.data
  have p3 := eqI_sym 0 e.who
  have q1 := eqI_sym 0 e.span.1
  have q2 := eqI_sym 0 e.span.2
  have f1 : eqI e.kind 1 = false := by rw [hk]; rfl
  have f2 : eqI e.kind 2 = false := by rw [hk]; rfl
  have f3 : eqI e.kind 3 = false := by rw [hk]; rfl
  have f4 : eqI e.kind 4 = false := by rw [hk]; rfl
  have f5 : eqI e.kind 5 = false := by rw [hk]; rfl
  have f6 : eqI e.kind 6 = true := by rw [hk]; rfl
  have f7 : eqI e.kind 7 = false := by rw [hk]; rfl
  have f8 : eqI e.kind 8 = false := by rw [hk]; rfl
  have f9 : eqI e.kind 9 = false := by rw [hk]; rfl
  have fw : wordE e.kind = wordE 6 := by rw [hk]
  have fw2 : wordE 6 = [102, 97, 108, 108] := rfl
  all_goals
    rw [ev_fn Tryd.f17 rfl Tryd.func17 rfl rfl rfl (Nat.le_of_ble_eq_true rfl)]
    simp [tw, s1, s2, s3, s4, cl, sp, evTxt, rightE, onlyE, sameE, textE, p1, p2, p3, q1, q2, f1, f2, f3, f4, f5, f6, f7, f8, f9, fw, fw2]
    repeat (rw [if_pos (by omega)]; simp [tw, s1, s2, s3, s4, cl, sp, evTxt, rightE, onlyE, sameE, textE, p1, p2, p3, q1, q2, f1, f2, f3, f4, f5, f6, f7, f8, f9, fw, fw2])
    all_goals (try (repeat' (split <;> rename_i hq <;> (try simp only [Bool.not_eq_true] at hq) <;> simp [hq, tw, s1, s2, s3, s4, cl, sp, evTxt, rightE, onlyE, sameE, textE, p1, p2, p3, q1, q2, f1, f2, f3, f4, f5, f6, f7, f8, f9, fw, fw2])))
  all_goals (clear tw s1 s2 s3 s4 cl sp g1 g2 g3 g4 g5 p1 p2 p3 q1 q2 b; first | (simp_all; done) | grind)
theorem ev_impl_EvText_7 (m : M) (e : EvT) (b : EvI e) (hk : e.kind = 7) : ev E 17 [.v m true (evL e)] = some { rs := [.v .own false [.str (evTxt e)]], outs := [] } := by
  obtain ⟨tw, s1, s2, s3, s4, cl, sp⟩ := implT e b
  have g1 := Lib.itoa_length_le _ b.who.1 b.who.2
  have g2 := Lib.itoa_length_le _ b.lo.1 b.lo.2
  have g3 := Lib.itoa_length_le _ b.hi.1 b.hi.2
  have g4 := Lib.itoa_length_le _ b.pos.1 b.pos.2
  have g5 := b.data
  have p1 := eqI_sym 0 e.pos
  have p2 := eqS_sym [] e.data
  have p3 := eqI_sym 0 e.who
  have q1 := eqI_sym 0 e.span.1
  have q2 := eqI_sym 0 e.span.2
  have f1 : eqI e.kind 1 = false := by rw [hk]; rfl
  have f2 : eqI e.kind 2 = false := by rw [hk]; rfl
  have f3 : eqI e.kind 3 = false := by rw [hk]; rfl
  have f4 : eqI e.kind 4 = false := by rw [hk]; rfl
  have f5 : eqI e.kind 5 = false := by rw [hk]; rfl
  have f6 : eqI e.kind 6 = false := by rw [hk]; rfl
  have f7 : eqI e.kind 7 = true := by rw [hk]; rfl
  have f8 : eqI e.kind 8 = false := by rw [hk]; rfl
  have f9 : eqI e.kind 9 = false := by rw [hk]; rfl
  have fw : wordE e.kind = wordE 7 := by rw [hk]
  have fw2 : wordE 7 = [100, 105, 101] := rfl
  all_goals
    rw [ev_fn Tryd.f17 rfl Tryd.func17 rfl rfl rfl (Nat.le_of_ble_eq_true rfl)]
    simp [tw, s1, s2, s3, s4, cl, sp, evTxt, rightE, onlyE, sameE, textE, p1, p2, p3, q1, q2, f1, f2, f3, f4, f5, f6, f7, f8, f9, fw, fw2]
    repeat (rw [if_pos (by omega)]; simp [tw, s1, s2, s3, s4, cl, sp, evTxt, rightE, onlyE, sameE, textE, p1, p2, p3, q1, q2, f1, f2, f3, f4, f5, f6, f7, f8, f9, fw, fw2])
    all_goals (try (repeat' (split <;> rename_i hq <;> (try simp only [Bool.not_eq_true] at hq) <;> simp [hq, tw, s1, s2, s3, s4, cl, sp, evTxt, rightE, onlyE, sameE, textE, p1, p2, p3, q1, q2, f1, f2, f3, f4, f5, f6, f7, f8, f9, fw, fw2])))
  all_goals (clear tw s1 s2 s3 s4 cl sp g1 g2 g3 g4 g5 p1 p2 p3 q1 q2 b; first | (simp_all; done) | grind)
theorem ev_impl_EvText_8 (m : M) (e : EvT) (b : EvI e) (hk : e.kind = 8) : ev E 17 [.v m true (evL e)] = some { rs := [.v .own false [.str (evTxt e)]], outs := [] } := by
  obtain ⟨tw, s1, s2, s3, s4, cl, sp⟩ := implT e b
  have g1 := Lib.itoa_length_le _ b.who.1 b.who.2
  have g2 := Lib.itoa_length_le _ b.lo.1 b.lo.2
  have g3 := Lib.itoa_length_le _ b.hi.1 b.hi.2
  have g4 := Lib.itoa_length_le _ b.pos.1 b.pos.2
  have g5 := b.data
  have p1 := eqI_sym 0 e.pos
  have p2 := eqS_sym [] e.data
  have p3 := eqI_sym 0 e.who
  have q1 := eqI_sym 0 e.span.1
  have q2 := eqI_sym 0 e.span.2
  have f1 : eqI e.kind 1 = false := by rw [hk]; rfl
  have f2 : eqI e.kind 2 = false := by rw [hk]; rfl
  have f3 : eqI e.kind 3 = false := by rw [hk]; rfl
  have f4 : eqI e.kind 4 = false := by rw [hk]; rfl
  have f5 : eqI e.kind 5 = false := by rw [hk]; rfl
  have f6 : eqI e.kind 6 = false := by rw [hk]; rfl
  have f7 : eqI e.kind 7 = false := by rw [hk]; rfl
  have f8 : eqI e.kind 8 = true := by rw [hk]; rfl
  have f9 : eqI e.kind 9 = false := by rw [hk]; rfl
  have fw : wordE e.kind = wordE 8 := by rw [hk]
  have fw2 : wordE 8 = [101, 118, 105, 99, 116] := rfl
  all_goals
    rw [ev_fn Tryd.f17 rfl Tryd.func17 rfl rfl rfl (Nat.le_of_ble_eq_true rfl)]
    simp [tw, s1, s2, s3, s4, cl, sp, evTxt, rightE, onlyE, sameE, textE, p1, p2, p3, q1, q2, f1, f2, f3, f4, f5, f6, f7, f8, f9, fw, fw2]
    repeat (rw [if_pos (by omega)]; simp [tw, s1, s2, s3, s4, cl, sp, evTxt, rightE, onlyE, sameE, textE, p1, p2, p3, q1, q2, f1, f2, f3, f4, f5, f6, f7, f8, f9, fw, fw2])
    all_goals (try (repeat' (split <;> rename_i hq <;> (try simp only [Bool.not_eq_true] at hq) <;> simp [hq, tw, s1, s2, s3, s4, cl, sp, evTxt, rightE, onlyE, sameE, textE, p1, p2, p3, q1, q2, f1, f2, f3, f4, f5, f6, f7, f8, f9, fw, fw2])))
  all_goals (clear tw s1 s2 s3 s4 cl sp g1 g2 g3 g4 g5 p1 p2 p3 q1 q2 b; first | (simp_all; done) | grind)
theorem ev_impl_EvText_9 (m : M) (e : EvT) (b : EvI e) (hk : e.kind = 9) : ev E 17 [.v m true (evL e)] = some { rs := [.v .own false [.str (evTxt e)]], outs := [] } := by
  obtain ⟨tw, s1, s2, s3, s4, cl, sp⟩ := implT e b
  have g1 := Lib.itoa_length_le _ b.who.1 b.who.2
  have g2 := Lib.itoa_length_le _ b.lo.1 b.lo.2
  have g3 := Lib.itoa_length_le _ b.hi.1 b.hi.2
  have g4 := Lib.itoa_length_le _ b.pos.1 b.pos.2
  have g5 := b.data
  have p1 := eqI_sym 0 e.pos
  have p2 := eqS_sym [] e.data
  have p3 := eqI_sym 0 e.who
  have q1 := eqI_sym 0 e.span.1
  have q2 := eqI_sym 0 e.span.2
  have f1 : eqI e.kind 1 = false := by rw [hk]; rfl
  have f2 : eqI e.kind 2 = false := by rw [hk]; rfl
  have f3 : eqI e.kind 3 = false := by rw [hk]; rfl
  have f4 : eqI e.kind 4 = false := by rw [hk]; rfl
  have f5 : eqI e.kind 5 = false := by rw [hk]; rfl
  have f6 : eqI e.kind 6 = false := by rw [hk]; rfl
  have f7 : eqI e.kind 7 = false := by rw [hk]; rfl
  have f8 : eqI e.kind 8 = false := by rw [hk]; rfl
  have f9 : eqI e.kind 9 = true := by rw [hk]; rfl
  have fw : wordE e.kind = wordE 9 := by rw [hk]
  have fw2 : wordE 9 = [103, 105, 118, 101] := rfl
  cases eS : ltI e.pos 0 <;> cases eT : ltI e.pos 8
  all_goals
    rw [ev_fn Tryd.f17 rfl Tryd.func17 rfl rfl rfl (Nat.le_of_ble_eq_true rfl)]
    simp [tw, s1, s2, s3, s4, cl, sp, evTxt, rightE, onlyE, sameE, textE, p1, p2, p3, q1, q2, f1, f2, f3, f4, f5, f6, f7, f8, f9, fw, fw2, eS, eT]
    repeat (rw [if_pos (by omega)]; simp [tw, s1, s2, s3, s4, cl, sp, evTxt, rightE, onlyE, sameE, textE, p1, p2, p3, q1, q2, f1, f2, f3, f4, f5, f6, f7, f8, f9, fw, fw2, eS, eT])
    all_goals (try (repeat' (split <;> rename_i hq <;> (try simp only [Bool.not_eq_true] at hq) <;> simp [hq, tw, s1, s2, s3, s4, cl, sp, evTxt, rightE, onlyE, sameE, textE, p1, p2, p3, q1, q2, f1, f2, f3, f4, f5, f6, f7, f8, f9, fw, fw2, eS, eT])))
  all_goals (clear tw s1 s2 s3 s4 cl sp g1 g2 g3 g4 g5 p1 p2 p3 q1 q2 b; first | (simp_all; done) | grind)
end Go.Ev

/- The law: what happens is told alike. -/
set_option linter.unusedSimpArgs false
set_option linter.unusedVariables false
set_option maxRecDepth 100000
set_option maxHeartbeats 8000000
namespace Go.Ev
open Go.Proofs
theorem ev_impl_EvText_no (m : M) (e : EvT) (b : EvI e) (hk : ∀ c : Int, 1 ≤ c → c ≤ 9 → e.kind ≠ c) : ev E 17 [.v m true (evL e)] = some { rs := [.v .own false [.str (evTxt e)]], outs := [] } := by
  obtain ⟨tw, s1, s2, s3, s4, cl, sp⟩ := implT e b
  have f1 : eqI e.kind 1 = false := eqI_not.2 (hk 1 (by omega) (by omega))
  have f2 : eqI e.kind 2 = false := eqI_not.2 (hk 2 (by omega) (by omega))
  have f3 : eqI e.kind 3 = false := eqI_not.2 (hk 3 (by omega) (by omega))
  have f4 : eqI e.kind 4 = false := eqI_not.2 (hk 4 (by omega) (by omega))
  have f5 : eqI e.kind 5 = false := eqI_not.2 (hk 5 (by omega) (by omega))
  have f6 : eqI e.kind 6 = false := eqI_not.2 (hk 6 (by omega) (by omega))
  have f7 : eqI e.kind 7 = false := eqI_not.2 (hk 7 (by omega) (by omega))
  have f8 : eqI e.kind 8 = false := eqI_not.2 (hk 8 (by omega) (by omega))
  have f9 : eqI e.kind 9 = false := eqI_not.2 (hk 9 (by omega) (by omega))
  have hT : evTxt e = [] := by simp [evTxt, rightE, wordE, f1, f2, f3, f4, f5, f6, f7, f8, f9]
  rw [hT]
  rw [ev_fn Tryd.f17 rfl Tryd.func17 rfl rfl rfl (Nat.le_of_ble_eq_true rfl)]
  simp [tw, s1, s2, s3, s4, cl, sp, f1, f2, f3, f4, f5, f6, f7, f8, f9]
  repeat' (split <;> rename_i hq <;> (try simp only [Bool.not_eq_true] at hq) <;> simp [hq, cl])
theorem ev_impl_EvText (m : M) (e : EvT) (b : EvI e) : ev E 17 [.v m true (evL e)] = some { rs := [.v .own false [.str (evTxt e)]], outs := [] } := by
  by_cases h : 1 ≤ e.kind ∧ e.kind ≤ 9
  · have h9 : e.kind = 1 ∨ e.kind = 2 ∨ e.kind = 3 ∨ e.kind = 4 ∨ e.kind = 5 ∨ e.kind = 6 ∨ e.kind = 7 ∨ e.kind = 8 ∨ e.kind = 9 := by omega
    rcases h9 with h | h | h | h | h | h | h | h | h
    · exact ev_impl_EvText_1 m e b h
    · exact ev_impl_EvText_2 m e b h
    · exact ev_impl_EvText_3 m e b h
    · exact ev_impl_EvText_4 m e b h
    · exact ev_impl_EvText_5 m e b h
    · exact ev_impl_EvText_6 m e b h
    · exact ev_impl_EvText_7 m e b h
    · exact ev_impl_EvText_8 m e b h
    · exact ev_impl_EvText_9 m e b h
  · exact ev_impl_EvText_no m e b fun c h1 h2 hc => h (by omega)
/-! the law -/
theorem ev_toSpan2 (m : M) (q : Sp) : ev E 46 [.v m true (spL q)] = some { rs := [.v .own true (spL q)], outs := [] } := by
  rw [ev_fn Tryd.f46 rfl Tryd.func46 rfl rfl rfl (Nat.le_of_ble_eq_true rfl)]
  simp
theorem ev_toEv (m : M) (e : EvT) : ev E 20 [.v m true (evL e)] = some { rs := [.v .own true (evL e)], outs := [] } := by
  have c : ∀ m, ev E 46 [.v m true [.int .i64 e.span.1, .int .i64 e.span.2]] = some { rs := [.v .own true [.int .i64 e.span.1, .int .i64 e.span.2]], outs := [] } := fun m => ev_toSpan2 m e.span
  rw [ev_fn Tryd.f20 rfl Tryd.func20 rfl rfl rfl (Nat.le_of_ble_eq_true rfl)]
  simp [c]
theorem ev_szEv (m m' : M) (q : EvT) (n : Int) (h1 : 0 ≤ n ∧ n ≤ 1048576) (hx : q.data.length ≤ 9223372036854775807) : ev E 19 [.v m true (evL q), .v m' false [.int .i64 n]] = some (rI (if ltI (n - q.data.length) 0 = true then -1 else n - q.data.length)) := by
  have hw : IntKind.i64.wrap (n - q.data.length) = n - q.data.length := wrap64 (by omega)
  rw [ev_fn Tryd.f19 rfl Tryd.func19 rfl rfl rfl (Nat.le_of_ble_eq_true rfl)]
  cases e : ltI (n - q.data.length) 0 <;> simp [e, hw]
def evM (e : EvT) : Prop := (i64 e.who ∧ i64 e.span.1 ∧ i64 e.span.2 ∧ i64 e.pos) ∧ e.data.length ≤ 9223372036854775807
theorem law_FnExactEvText (q : EvT) (hq : evM q) : ev E 6 [.v .ro true (evL q)] = some (rB true) := by
  have c1 := fun m m' => ev_szEv m m' q 1048576 (by omega) hq.2
  have c2 := fun m => ev_toEv m q
  cases e : ltI (1048576 - q.data.length) 0
  · have hl := ltI_not.1 e
    have b : EvI q := ⟨hq.1.1, hq.1.2.1, hq.1.2.2.1, hq.1.2.2.2, by omega⟩
    have c3 := fun m => ev_spec_EvText m q b
    have c4 := fun m => ev_impl_EvText m q b
    simp [e] at c1
    rw [ev_fn Tryd.f6 rfl Tryd.func6 rfl rfl rfl (Nat.le_of_ble_eq_true rfl)]
    simp [c1, c2, c3, c4, e]
  · simp [e] at c1
    rw [ev_fn Tryd.f6 rfl Tryd.func6 rfl rfl rfl (Nat.le_of_ble_eq_true rfl)]
    simp [c1, e]
end Go.Ev
