/- My texts joined: EvT36. No condition. -/
import Derived.Test.YtehlceiadmkbbaaDoorEn9
/- Answers: requests told; the law of ReqText. -/
set_option linter.unusedSimpArgs false
set_option linter.unusedVariables false
set_option maxRecDepth 100000
set_option maxHeartbeats 4000000
namespace Go.Ev
open Go.Proofs
theorem sb_add_of {a b : List UInt8} (h : a.length + b.length ≤ 4611686018427387904) : strBin .add a b = some (.str (a ++ b)) := by rw [sb_add, if_pos h]
def reqTxt (q : ReqT) : List UInt8 := if reqOk q = true then Lib.itoa q.who ++ 32 :: (Lib.itoa q.epoch ++ 32 :: (Lib.itoa q.num ++ 32 :: (Lib.itoa q.obj ++ 32 :: (Lib.itoa q.pos ++ 32 :: q.data)))) else []
theorem ReqP.i64 {q : ReqT} (h : ReqP q) : i64 q.who ∧ i64 q.epoch ∧ i64 q.num ∧ i64 q.obj ∧ i64 q.pos := by
  obtain ⟨h1, h2, h3, h4, h5⟩ := h
  have := wrOk_len h5
  simp only [Go.Ev.i64]
  omega
theorem ev_spec_ReqText (m : M) (q : ReqT) (hx : q.data.length ≤ 4000000) : ev E 5 [.v m true (reqL q)] = some { rs := [.v .own false [.str (reqTxt q)]], outs := [] } := by
  have c1 : ∀ m, ev E 8 [.v m true (reqL q)] = some (rB (reqOk q)) := fun m => ev_l5Req m q hx
  rw [ev_fn Tryd.f5 rfl Tryd.func5 rfl rfl rfl (Nat.le_of_ble_eq_true rfl)]
  cases e : reqOk q
  · simp [c1, e, reqTxt]
  · obtain ⟨h1, h2, h3, h4, h5⟩ := (reqOk_iff.1 e).i64
    have d1 := fun m => ev_l10Dec m q.who h1
    have d2 := fun m => ev_l10Dec m q.epoch h2
    have d3 := fun m => ev_l10Dec m q.num h3
    have d4 := fun m => ev_l10Dec m q.obj h4
    have d5 := fun m => ev_l10Dec m q.pos h5
    have g1 := Lib.itoa_length_le _ h1.1 h1.2
    have g2 := Lib.itoa_length_le _ h2.1 h2.2
    have g3 := Lib.itoa_length_le _ h3.1 h3.2
    have g4 := Lib.itoa_length_le _ h4.1 h4.2
    have g5 := Lib.itoa_length_le _ h5.1 h5.2
    simp only [reqTxt, e, if_true]
    generalize Lib.itoa q.who = a1 at *
    generalize Lib.itoa q.epoch = a2 at *
    generalize Lib.itoa q.num = a3 at *
    generalize Lib.itoa q.obj = a4 at *
    generalize Lib.itoa q.pos = a5 at *
    have k0 : a1.length + 1 ≤ 4611686018427387904 := by omega
    have k1 : a1.length + 1 + a2.length ≤ 4611686018427387904 := by omega
    have k2 : a1.length + (a2.length + 1) + 1 ≤ 4611686018427387904 := by omega
    have k3 : a1.length + (a2.length + 1 + 1) + a3.length ≤ 4611686018427387904 := by omega
    have k4 : a1.length + (a2.length + (a3.length + 1) + 1) + 1 ≤ 4611686018427387904 := by omega
    have k5 : a1.length + (a2.length + (a3.length + 1 + 1) + 1) + a4.length ≤ 4611686018427387904 := by omega
    have k6 : a1.length + (a2.length + (a3.length + (a4.length + 1) + 1) + 1) + 1 ≤ 4611686018427387904 := by omega
    have k7 : a1.length + (a2.length + (a3.length + (a4.length + 1 + 1) + 1) + 1) + a5.length ≤ 4611686018427387904 := by omega
    have k8 : a1.length + (a2.length + (a3.length + (a4.length + (a5.length + 1) + 1) + 1) + 1) + 1 ≤ 4611686018427387904 := by omega
    have k9 : a1.length + (a2.length + (a3.length + (a4.length + (a5.length + 1 + 1) + 1) + 1) + 1) + q.data.length ≤ 4611686018427387904 := by omega
    simp [c1, e, d1, d2, d3, d4, d5, k0, k1, k2, k3, k4, k5, k6, k7, k8, k9]
    trace_state
theorem ev_impl_ReqText (m : M) (q : ReqT) (hx : q.data.length ≤ 4000000) : ev E 7 [.v m true (reqL q)] = some { rs := [.v .own false [.str (reqTxt q)]], outs := [] } := by
  have c1 : ∀ m, ev E 10 [.v m true (reqL q)] = some (rB (reqOk q)) := fun m => ev_formed m q hx
  rw [ev_fn Tryd.f7 rfl Tryd.func7 rfl rfl rfl (Nat.le_of_ble_eq_true rfl)]
  cases e : reqOk q
  · simp [c1, e, reqTxt]
  · obtain ⟨h1, h2, h3, h4, h5⟩ := (reqOk_iff.1 e).i64
    have c2 : ∀ m, ev E 11 [.v m false [.sl [[.int .i64 q.who], [.int .i64 q.epoch], [.int .i64 q.num], [.int .i64 q.obj], [.int .i64 q.pos]]]] = some { rs := [.v .own false [.str (Lib.itoa q.who ++ 32 :: (Lib.itoa q.epoch ++ 32 :: (Lib.itoa q.num ++ 32 :: (Lib.itoa q.obj ++ 32 :: Lib.itoa q.pos))))]], outs := [] } := fun m => by
      have := ev_spaced m [q.who, q.epoch, q.num, q.obj, q.pos] (fun n hn => by simp only [List.mem_cons, List.not_mem_nil, or_false] at hn; rcases hn with rfl | rfl | rfl | rfl | rfl <;> assumption) (by simp)
      simpa [Lib.join, List.intercalate, List.intersperse] using this
    have g1 := Lib.itoa_length_le _ h1.1 h1.2
    have g2 := Lib.itoa_length_le _ h2.1 h2.2
    have g3 := Lib.itoa_length_le _ h3.1 h3.2
    have g4 := Lib.itoa_length_le _ h4.1 h4.2
    have g5 := Lib.itoa_length_le _ h5.1 h5.2
    simp only [reqTxt, e, if_true]
    generalize Lib.itoa q.who = a1 at *
    generalize Lib.itoa q.epoch = a2 at *
    generalize Lib.itoa q.num = a3 at *
    generalize Lib.itoa q.obj = a4 at *
    generalize Lib.itoa q.pos = a5 at *
    have k0 : a1.length + 1 ≤ 4611686018427387904 := by omega
    have k1 : a1.length + 1 + a2.length ≤ 4611686018427387904 := by omega
    have k2 : a1.length + (a2.length + 1) + 1 ≤ 4611686018427387904 := by omega
    have k3 : a1.length + (a2.length + 1 + 1) + a3.length ≤ 4611686018427387904 := by omega
    have k4 : a1.length + (a2.length + (a3.length + 1) + 1) + 1 ≤ 4611686018427387904 := by omega
    have k5 : a1.length + (a2.length + (a3.length + 1 + 1) + 1) + a4.length ≤ 4611686018427387904 := by omega
    have k6 : a1.length + (a2.length + (a3.length + (a4.length + 1) + 1) + 1) + 1 ≤ 4611686018427387904 := by omega
    have k7 : a1.length + (a2.length + (a3.length + (a4.length + 1 + 1) + 1) + 1) + a5.length ≤ 4611686018427387904 := by omega
    have k8 : a1.length + (a2.length + (a3.length + (a4.length + (a5.length + 1) + 1) + 1) + 1) + 1 ≤ 4611686018427387904 := by omega
    have k9 : a1.length + (a2.length + (a3.length + (a4.length + (a5.length + 1 + 1) + 1) + 1) + 1) + q.data.length ≤ 4611686018427387904 := by omega
    simp [c1, c2, e, k0, k1, k2, k3, k4, k5, k6, k7, k8, k9]
    trace_state
/-! the law -/
theorem ev_toReq (m : M) (q : ReqT) : ev E 6 [.v m true (reqL q)] = some { rs := [.v .own true (reqL q)], outs := [] } := by
  rw [ev_fn Tryd.f6 rfl Tryd.func6 rfl rfl rfl (Nat.le_of_ble_eq_true rfl)]
  simp
theorem ev_szReq (m m' : M) (q : ReqT) (n : Int) (h1 : 0 ≤ n ∧ n ≤ 1048576) (hx : q.data.length ≤ 9223372036854775807) : ev E 4 [.v m true (reqL q), .v m' false [.int .i64 n]] = some (rI (if ltI (n - q.data.length) 0 = true then -1 else n - q.data.length)) := by
  have hw : IntKind.i64.wrap (n - q.data.length) = n - q.data.length := wrap64 (by omega)
  rw [ev_fn Tryd.f4 rfl Tryd.func4 rfl rfl rfl (Nat.le_of_ble_eq_true rfl)]
  cases e : ltI (n - q.data.length) 0 <;> simp [e, hw]
theorem law_FnExactReqText (q : ReqT) (hx : q.data.length ≤ 9223372036854775807) : ev E 3 [.v .ro true (reqL q)] = some (rB true) := by
  have c1 := fun m m' => ev_szReq m m' q 1048576 (by omega) hx
  have c2 := fun m => ev_toReq m q
  rw [ev_fn Tryd.f3 rfl Tryd.func3 rfl rfl rfl (Nat.le_of_ble_eq_true rfl)]
  cases e : ltI (1048576 - q.data.length) 0
  · have hl := ltI_not.1 e
    have c3 := fun m => ev_spec_ReqText m q (by omega)
    have c4 := fun m => ev_impl_ReqText m q (by omega)
    simp [e] at c1
    simp [c1, c2, c3, c4, e]
  · simp [e] at c1
    simp [c1, e]
end Go.Ev
