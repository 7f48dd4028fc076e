/- My texts joined: EvT54, EvT55, EvT56, EvT57, EvW10. No condition. -/
import Derived.Test.YtcoodhphhhiepaaGreatEn11
/- Answers: how much a world is; a world taken over; a world is what it is. -/
set_option linter.unusedSimpArgs false
set_option linter.unusedVariables false
set_option maxRecDepth 100000
set_option maxHeartbeats 4000000
namespace Go.Ev
open Go.Proofs
theorem lp_szStrs (m : M) (xs : List (List UInt8)) (hb : xs.length ≤ 4000000) (hk : ∀ x ∈ xs, x.length ≤ 9223372036854775807) (a : Code) (ha : a = lp Tryz.f49 0) : ∀ (n i : Nat) (m1 : M) (k : Int), i + n = xs.length → 0 ≤ k → k ≤ 1048576 →
    ∃ me, loopC E (ev E) 49 a { V := [(0, .v m false [.sl (strsL xs)]), (1, vim m1 k), (5, vi i)], H := [], ps := [] } =
      if ltI (k - sumOf List.length (xs.drop i)) 0 = true then some (.ret, { V := [(4, vi (-1))], H := [], ps := [] })
      else some (.exit 0, { V := [(0, .v m false [.sl (strsL xs)]), (1, vim me (k - sumOf List.length (xs.drop i))), (5, vi xs.length), (15, vb false)], H := [], ps := [] })
  | 0, i, m1, k, h0, hk0, hk1 => by
    refine ⟨m1, ?_⟩
    rw [loopC_of _ _ _ _ ha]
    obtain rfl : i = xs.length := by omega
    have e : ltI k 0 = false := ltI_not.2 hk0
    simp [lp, loopsOf, Tryz.f49, sumOf, e]
  | n + 1, i, m1, k, h0, hk0, hk1 => by
    have hlt : i < xs.length := by omega
    have hw := wrapN i (by omega)
    have hx := hk _ (List.getElem_mem hlt)
    have hw2 : IntKind.i64.wrap (k - xs[i].length) = k - xs[i].length := wrap64 (by omega)
    rw [List.drop_eq_getElem_cons hlt, sumOf_cons]
    cases e : ltI (k - xs[i].length) 0
    · have e' := ltI_not.1 e
      obtain ⟨me, ih⟩ := lp_szStrs m xs hb hk a ha n (i + 1) .ro (k - xs[i].length) (by omega) (by omega) (by omega)
      refine ⟨me, ?_⟩
      have heq : k - ((xs[i].length + sumOf List.length (xs.drop (i + 1)) : Nat) : Int) = k - xs[i].length - sumOf List.length (xs.drop (i + 1)) := by omega
      rw [heq]
      push_cast at ih
      rw [loopC_of _ _ _ _ ha]
      clear ha
      simp [lp, loopsOf, Tryz.f49, hlt, hw, hw2, e]
      simpa using ih
    · have e' := ltI_iff.1 e
      refine ⟨m1, ?_⟩
      rw [if_pos (ltI_iff.2 (by omega))]
      rw [loopC_of _ _ _ _ ha]
      clear ha
      simp [lp, loopsOf, Tryz.f49, hlt, hw, hw2, e]
def strsSz (xs : List (List UInt8)) : Nat := xs.length + sumOf List.length xs
theorem ev_szStrs (m m' : M) (xs : List (List UInt8)) (n : Int) (h1 : 0 ≤ n ∧ n ≤ 1048576) (hb : xs.length ≤ 9223372036854775807) (hk : ∀ x ∈ xs, x.length ≤ 9223372036854775807) : ev E 49 [.v m false [.sl (strsL xs)], .v m' false [.int .i64 n]] = some (rI (less n (strsSz xs))) := by
  have hw : IntKind.i64.wrap (n - xs.length) = n - xs.length := wrap64 (by omega)
  unfold strsSz
  rw [less_add]
  cases e : ltI (n - xs.length) 0
  · have e' := ltI_not.1 e
    obtain ⟨me, hl⟩ := lp_szStrs m xs (by omega) hk _ rfl xs.length 0 .ro (n - xs.length) (by omega) e' (by omega)
    push_cast at hl
    rw [List.drop_zero] at hl
    rw [ev_fn Tryz.f49 rfl Tryz.func49 rfl rfl rfl (Nat.le_of_ble_eq_true rfl)]
    simp [e, hw]
    rw [loopC_at ?_ (by simpa using hl)]
    · cases e2 : ltI (n - xs.length - sumOf List.length xs) 0 <;> simp [less, e2]
    · rfl
  · rw [ev_fn Tryz.f49 rfl Tryz.func49 rfl rfl rfl (Nat.le_of_ble_eq_true rfl)]
    simp [e, hw]
def M63 (n : Nat) : Prop := n ≤ 9223372036854775807
theorem sz_Req : SizedBy E 52 reqL (fun q => q.data.length) (fun q => M63 q.data.length) := fun m m' q n hm h1 hx => by
  have hx : q.data.length ≤ 9223372036854775807 := hx
  have hw : IntKind.i64.wrap (n - q.data.length) = n - q.data.length := wrap64 (by omega)
  rw [ev_fn Tryz.f52 rfl Tryz.func52 rfl rfl rfl (Nat.le_of_ble_eq_true rfl)]
  cases e : ltI (n - q.data.length) 0 <;> simp [e, hw, less]
def holdM (h : HoldT) : Prop := M63 h.r.length ∧ M63 h.w.length
def ownM (o : OwnT) : Prop := M63 o.t.length ∧ M63 o.h.length ∧ M63 o.d.length
def holdSz (h : HoldT) : Nat := h.r.length + h.w.length
def ownSz (o : OwnT) : Nat := o.t.length + (o.h.length + o.d.length)
def reqsSz (xs : List ReqT) : Nat := xs.length + sumOf (fun q => q.data.length) xs
def holdsSz (xs : List HoldT) : Nat := xs.length + sumOf holdSz xs
def ownsSz (xs : List OwnT) : Nat := xs.length + sumOf ownSz xs
def storeSz (s : StoreT) : Nat := strsSz s.now + (strsSz s.sure + (s.last.length + (s.slast.length + s.floors.length)))
def worldSz (w : WorldT) : Nat := storeSz w.st + (holdsSz w.locks + (ownsSz w.owns + (w.epochs.length + (w.alive.length + (reqsSz w.kept + reqsSz w.late)))))
def strsM (xs : List (List UInt8)) : Prop := M63 xs.length ∧ ∀ x ∈ xs, x.length ≤ 9223372036854775807
def storeM (s : StoreT) : Prop := strsM s.now ∧ strsM s.sure ∧ M63 s.last.length ∧ M63 s.slast.length ∧ M63 s.floors.length
def worldM (w : WorldT) : Prop := storeM w.st ∧ (M63 w.locks.length ∧ ∀ h ∈ w.locks, holdM h) ∧ (M63 w.owns.length ∧ ∀ o ∈ w.owns, ownM o) ∧ M63 w.epochs.length ∧ M63 w.alive.length ∧ (M63 w.kept.length ∧ ∀ q ∈ w.kept, M63 q.data.length) ∧ (M63 w.late.length ∧ ∀ q ∈ w.late, M63 q.data.length)
theorem sz_Hold : SizedBy E 50 holdL holdSz holdM := fun m m' h n hm h1 hx => by
  unfold holdSz
  have d0 := fun m m' => ev_laws_szSpanS m m' h.r n (by omega) hx.1
  rw [less_add]
  cases e0 : ltI (n - (h.r.length : Nat)) 0
  case true =>
    rw [less_neg e0] at d0
    rw [ev_fn Tryz.f50 rfl Tryz.func50 rfl rfl rfl (Nat.le_of_ble_eq_true rfl)]
    simp [d0, e0, hm]
  rw [less_pos e0] at d0
  have g0 := ltI_not.1 e0
  have d1 := fun m m' => ev_laws_szSpanS m m' h.w (n - h.r.length) (by omega) hx.2
  cases e1 : ltI (n - (h.r.length : Nat) - (h.w.length : Nat)) 0
  · rw [less_pos e1] at d1 ⊢
    rw [ev_fn Tryz.f50 rfl Tryz.func50 rfl rfl rfl (Nat.le_of_ble_eq_true rfl)]
    simp [d0, d1, e0, e1, hm]
  · rw [less_neg e1] at d1 ⊢
    rw [ev_fn Tryz.f50 rfl Tryz.func50 rfl rfl rfl (Nat.le_of_ble_eq_true rfl)]
    simp [d0, d1, e0, e1, hm]
theorem sz_Own : SizedBy E 51 ownL ownSz ownM := fun m m' o n hm h1 hx => by
  unfold ownSz
  have hx1 : o.t.length ≤ 9223372036854775807 := hx.1
  have hw : IntKind.i64.wrap (n - o.t.length) = n - o.t.length := wrap64 (by omega)
  rw [less_add]
  cases e0 : ltI (n - (o.t.length : Nat)) 0
  case true =>
    rw [ev_fn Tryz.f51 rfl Tryz.func51 rfl rfl rfl (Nat.le_of_ble_eq_true rfl)]
    simp [e0, hw]
  have g0 := ltI_not.1 e0
  have d1 := fun m m' => ev_laws_szSpanS m m' o.h (n - o.t.length) (by omega) hx.2.1
  rw [less_add]
  cases e1 : ltI (n - o.t.length - (o.h.length : Nat)) 0
  case true =>
    rw [less_neg e1] at d1
    rw [ev_fn Tryz.f51 rfl Tryz.func51 rfl rfl rfl (Nat.le_of_ble_eq_true rfl)]
    simp [e0, e1, hw, d1, hm]
  rw [less_pos e1] at d1
  have g1 := ltI_not.1 e1
  have d2 := fun m m' => ev_laws_szSpanS m m' o.d (n - o.t.length - o.h.length) (by omega) hx.2.2
  cases e2 : ltI (n - o.t.length - o.h.length - (o.d.length : Nat)) 0
  · rw [less_pos e2] at d2 ⊢
    rw [ev_fn Tryz.f51 rfl Tryz.func51 rfl rfl rfl (Nat.le_of_ble_eq_true rfl)]
    simp [e0, e1, e2, hw, d1, d2, hm]
  · rw [less_neg e2] at d2 ⊢
    rw [ev_fn Tryz.f51 rfl Tryz.func51 rfl rfl rfl (Nat.le_of_ble_eq_true rfl)]
    simp [e0, e1, e2, hw, d1, d2, hm]
theorem ev_szReqs (m m' : M) (hm : m.isOwn = false) (xs : List ReqT) (n : Int) (h1 : 0 ≤ n ∧ n ≤ 1048576) (hb : M63 xs.length) (hk : ∀ x ∈ xs, M63 x.data.length) : ev E 17 [.v m false [.sl (xs.map reqL)], .v m' false [.int .i64 n]] = some (rI (less n (reqsSz xs))) := ev_laws_szReqS _ _ sz_Req m m' hm xs n h1 hb hk
theorem ev_szHolds (m m' : M) (hm : m.isOwn = false) (xs : List HoldT) (n : Int) (h1 : 0 ≤ n ∧ n ≤ 1048576) (hb : M63 xs.length) (hk : ∀ x ∈ xs, holdM x) : ev E 13 [.v m false [.sl (xs.map holdL)], .v m' false [.int .i64 n]] = some (rI (less n (holdsSz xs))) := ev_laws_szHoldS _ _ sz_Hold m m' hm xs n h1 hb hk
theorem ev_szOwns (m m' : M) (hm : m.isOwn = false) (xs : List OwnT) (n : Int) (h1 : 0 ≤ n ∧ n ≤ 1048576) (hb : M63 xs.length) (hk : ∀ x ∈ xs, ownM x) : ev E 14 [.v m false [.sl (xs.map ownL)], .v m' false [.int .i64 n]] = some (rI (less n (ownsSz xs))) := ev_laws_szOwnS _ _ sz_Own m m' hm xs n h1 hb hk
theorem ev_szStore (m m' : M) (hm : m.isOwn = false) (s : StoreT) (n : Int) (h1 : 0 ≤ n ∧ n ≤ 1048576) (hx : storeM s) : ev E 12 [.v m true (storeL s), .v m' false [.int .i64 n]] = some (rI (less n (storeSz s))) := by
  unfold storeSz
  have d0 := fun m m' => ev_szStrs m m' s.now n (by omega) hx.1.1 hx.1.2
  rw [less_add]
  cases e0 : ltI (n - (strsSz s.now : Nat)) 0
  case true =>
    rw [less_neg e0] at d0
    rw [ev_fn Tryz.f12 rfl Tryz.func12 rfl rfl rfl (Nat.le_of_ble_eq_true rfl)]
    simp [d0, e0, hm]
  rw [less_pos e0] at d0
  have g0 := ltI_not.1 e0
  have d1 := fun m m' => ev_szStrs m m' s.sure (n - strsSz s.now) (by omega) hx.2.1.1 hx.2.1.2
  rw [less_add]
  cases e1 : ltI (n - (strsSz s.now : Nat) - (strsSz s.sure : Nat)) 0
  case true =>
    rw [less_neg e1] at d1
    rw [ev_fn Tryz.f12 rfl Tryz.func12 rfl rfl rfl (Nat.le_of_ble_eq_true rfl)]
    simp [d0, d1, e0, e1, hm]
  rw [less_pos e1] at d1
  have g1 := ltI_not.1 e1
  have d2 := fun m m' => ev_laws_szIntS m m' s.last (n - strsSz s.now - strsSz s.sure) (by omega) hx.2.2.1
  rw [less_add]
  cases e2 : ltI (n - (strsSz s.now : Nat) - (strsSz s.sure : Nat) - (s.last.length : Nat)) 0
  case true =>
    rw [less_neg e2] at d2
    rw [ev_fn Tryz.f12 rfl Tryz.func12 rfl rfl rfl (Nat.le_of_ble_eq_true rfl)]
    simp [d0, d1, d2, e0, e1, e2, hm]
  rw [less_pos e2] at d2
  have g2 := ltI_not.1 e2
  have d3 := fun m m' => ev_laws_szIntS m m' s.slast (n - strsSz s.now - strsSz s.sure - s.last.length) (by omega) hx.2.2.2.1
  rw [less_add]
  cases e3 : ltI (n - (strsSz s.now : Nat) - (strsSz s.sure : Nat) - (s.last.length : Nat) - (s.slast.length : Nat)) 0
  case true =>
    rw [less_neg e3] at d3
    rw [ev_fn Tryz.f12 rfl Tryz.func12 rfl rfl rfl (Nat.le_of_ble_eq_true rfl)]
    simp [d0, d1, d2, d3, e0, e1, e2, e3, hm]
  rw [less_pos e3] at d3
  have g3 := ltI_not.1 e3
  have d4 := fun m m' => ev_laws_szIntS m m' s.floors (n - strsSz s.now - strsSz s.sure - s.last.length - s.slast.length) (by omega) hx.2.2.2.2
  cases e4 : ltI (n - (strsSz s.now : Nat) - (strsSz s.sure : Nat) - (s.last.length : Nat) - (s.slast.length : Nat) - (s.floors.length : Nat)) 0
  · rw [less_pos e4] at d4 ⊢
    rw [ev_fn Tryz.f12 rfl Tryz.func12 rfl rfl rfl (Nat.le_of_ble_eq_true rfl)]
    simp [d0, d1, d2, d3, d4, e0, e1, e2, e3, e4, hm]
  · rw [less_neg e4] at d4 ⊢
    rw [ev_fn Tryz.f12 rfl Tryz.func12 rfl rfl rfl (Nat.le_of_ble_eq_true rfl)]
    simp [d0, d1, d2, d3, d4, e0, e1, e2, e3, e4, hm]
theorem ev_szWorld (m m' : M) (hm : m.isOwn = false) (w : WorldT) (n : Int) (h1 : 0 ≤ n ∧ n ≤ 1048576) (hx : worldM w) : ev E 5 [.v m true (worldL w), .v m' false [.int .i64 n]] = some (rI (less n (worldSz w))) := by
  unfold worldSz
  have d0 := fun m m' hm => ev_szStore m m' hm w.st n (by omega) hx.1
  rw [less_add]
  cases e0 : ltI (n - (storeSz w.st : Nat)) 0
  case true =>
    rw [less_neg e0] at d0
    rw [ev_fn Tryz.f5 rfl Tryz.func5 rfl rfl rfl (Nat.le_of_ble_eq_true rfl)]
    simp [d0, e0, hm]
  rw [less_pos e0] at d0
  have g0 := ltI_not.1 e0
  have d1 := fun m m' hm => ev_szHolds m m' hm w.locks (n - storeSz w.st) (by omega) hx.2.1.1 hx.2.1.2
  rw [less_add]
  cases e1 : ltI (n - (storeSz w.st : Nat) - (holdsSz w.locks : Nat)) 0
  case true =>
    rw [less_neg e1] at d1
    rw [ev_fn Tryz.f5 rfl Tryz.func5 rfl rfl rfl (Nat.le_of_ble_eq_true rfl)]
    simp [d0, d1, e0, e1, hm]
  rw [less_pos e1] at d1
  have g1 := ltI_not.1 e1
  have d2 := fun m m' hm => ev_szOwns m m' hm w.owns (n - storeSz w.st - holdsSz w.locks) (by omega) hx.2.2.1.1 hx.2.2.1.2
  rw [less_add]
  cases e2 : ltI (n - (storeSz w.st : Nat) - (holdsSz w.locks : Nat) - (ownsSz w.owns : Nat)) 0
  case true =>
    rw [less_neg e2] at d2
    rw [ev_fn Tryz.f5 rfl Tryz.func5 rfl rfl rfl (Nat.le_of_ble_eq_true rfl)]
    simp [d0, d1, d2, e0, e1, e2, hm]
  rw [less_pos e2] at d2
  have g2 := ltI_not.1 e2
  have d3 := fun m m' => ev_laws_szIntS m m' w.epochs (n - storeSz w.st - holdsSz w.locks - ownsSz w.owns) (by omega) hx.2.2.2.1
  rw [less_add]
  cases e3 : ltI (n - (storeSz w.st : Nat) - (holdsSz w.locks : Nat) - (ownsSz w.owns : Nat) - (w.epochs.length : Nat)) 0
  case true =>
    rw [less_neg e3] at d3
    rw [ev_fn Tryz.f5 rfl Tryz.func5 rfl rfl rfl (Nat.le_of_ble_eq_true rfl)]
    simp [d0, d1, d2, d3, e0, e1, e2, e3, hm]
  rw [less_pos e3] at d3
  have g3 := ltI_not.1 e3
  have d4 := fun m m' => ev_laws_szBoolS m m' w.alive (n - storeSz w.st - holdsSz w.locks - ownsSz w.owns - w.epochs.length) (by omega) hx.2.2.2.2.1
  rw [less_add]
  cases e4 : ltI (n - (storeSz w.st : Nat) - (holdsSz w.locks : Nat) - (ownsSz w.owns : Nat) - (w.epochs.length : Nat) - (w.alive.length : Nat)) 0
  case true =>
    rw [less_neg e4] at d4
    rw [ev_fn Tryz.f5 rfl Tryz.func5 rfl rfl rfl (Nat.le_of_ble_eq_true rfl)]
    simp [d0, d1, d2, d3, d4, e0, e1, e2, e3, e4, hm]
  rw [less_pos e4] at d4
  have g4 := ltI_not.1 e4
  have d5 := fun m m' hm => ev_szReqs m m' hm w.kept (n - storeSz w.st - holdsSz w.locks - ownsSz w.owns - w.epochs.length - w.alive.length) (by omega) hx.2.2.2.2.2.1.1 hx.2.2.2.2.2.1.2
  rw [less_add]
  cases e5 : ltI (n - (storeSz w.st : Nat) - (holdsSz w.locks : Nat) - (ownsSz w.owns : Nat) - (w.epochs.length : Nat) - (w.alive.length : Nat) - (reqsSz w.kept : Nat)) 0
  case true =>
    rw [less_neg e5] at d5
    rw [ev_fn Tryz.f5 rfl Tryz.func5 rfl rfl rfl (Nat.le_of_ble_eq_true rfl)]
    simp [d0, d1, d2, d3, d4, d5, e0, e1, e2, e3, e4, e5, hm]
  rw [less_pos e5] at d5
  have g5 := ltI_not.1 e5
  have d6 := fun m m' hm => ev_szReqs m m' hm w.late (n - storeSz w.st - holdsSz w.locks - ownsSz w.owns - w.epochs.length - w.alive.length - reqsSz w.kept) (by omega) hx.2.2.2.2.2.2.1 hx.2.2.2.2.2.2.2
  cases e6 : ltI (n - (storeSz w.st : Nat) - (holdsSz w.locks : Nat) - (ownsSz w.owns : Nat) - (w.epochs.length : Nat) - (w.alive.length : Nat) - (reqsSz w.kept : Nat) - (reqsSz w.late : Nat)) 0
  · rw [less_pos e6] at d6 ⊢
    rw [ev_fn Tryz.f5 rfl Tryz.func5 rfl rfl rfl (Nat.le_of_ble_eq_true rfl)]
    simp [d0, d1, d2, d3, d4, d5, d6, e0, e1, e2, e3, e4, e5, e6, hm]
  · rw [less_neg e6] at d6 ⊢
    rw [ev_fn Tryz.f5 rfl Tryz.func5 rfl rfl rfl (Nat.le_of_ble_eq_true rfl)]
    simp [d0, d1, d2, d3, d4, d5, d6, e0, e1, e2, e3, e4, e5, e6, hm]
end Go.Ev

/- Answers: a world taken over; a world is what it is. -/
set_option linter.unusedSimpArgs false
set_option linter.unusedVariables false
set_option maxRecDepth 100000
set_option maxHeartbeats 4000000
namespace Go.Ev
open Go.Proofs
structure StoreB (s : StoreT) : Prop where
  now : s.now.length ≤ 4000000
  sure : s.sure.length ≤ 4000000
  last : s.last.length ≤ 4000000
  slast : s.slast.length ≤ 4000000
  floors : s.floors.length ≤ 4000000
structure WorldB (w : WorldT) : Prop where
  st : StoreB w.st
  locks : w.locks.length ≤ 4000000
  holds : ∀ h ∈ w.locks, holdB h
  owns : w.owns.length ≤ 4000000
  owned : ∀ o ∈ w.owns, ownB o
  epochs : w.epochs.length ≤ 4000000
  alive : w.alive.length ≤ 4000000
  kept : w.kept.length ≤ 4000000
  late : w.late.length ≤ 4000000
theorem ev_toStore (m : M) (hm : m.isOwn = false) (s : StoreT) (b : StoreB s) : ev E 23 [.v m true (storeL s)] = some { rs := [.v .own true (storeL s)], outs := [] } := by
  have c1 := fun m => ev_laws_toStringS m s.now b.now
  have c2 := fun m => ev_laws_toStringS m s.sure b.sure
  have c3 := fun m => ev_laws_toIntS m s.last b.last
  have c4 := fun m => ev_laws_toIntS m s.slast b.slast
  have c5 := fun m => ev_laws_toIntS m s.floors b.floors
  rw [ev_fn Tryz.f23 rfl Tryz.func23 rfl rfl rfl (Nat.le_of_ble_eq_true rfl)]
  simp [c1, c2, c3, c4, c5, hm]
theorem ev_toHolds (m : M) (hm : m.isOwn = false) (xs : List HoldT) (hb : xs.length ≤ 4000000) (hk : ∀ h ∈ xs, holdB h) : ev E 24 [.v m false [.sl (xs.map holdL)]] = some { rs := [.v .own false [.sl (xs.map holdL)]], outs := [] } := ev_laws_toHoldS _ tk_Hold m hm xs hb hk
theorem ev_toOwns (m : M) (hm : m.isOwn = false) (xs : List OwnT) (hb : xs.length ≤ 4000000) (hk : ∀ h ∈ xs, ownB h) : ev E 25 [.v m false [.sl (xs.map ownL)]] = some { rs := [.v .own false [.sl (xs.map ownL)]], outs := [] } := ev_laws_toOwnS _ tk_Own m hm xs hb hk
theorem ev_toWorld (m : M) (hm : m.isOwn = false) (w : WorldT) (b : WorldB w) : ev E 7 [.v m true (worldL w)] = some { rs := [.v .own true (worldL w)], outs := [] } := by
  have c0 := fun m => ev_toLay m w.size w.many
  have c1 := fun m hm => ev_toStore m hm w.st b.st
  have c2 := fun m hm => ev_toHolds m hm w.locks b.locks b.holds
  have c3 := fun m hm => ev_toOwns m hm w.owns b.owns b.owned
  have c4 := fun m => ev_laws_toIntS m w.epochs b.epochs
  have c5 := fun m => ev_laws_toBoolS m w.alive b.alive
  have c6 := fun m hm => ev_toReqs m hm w.kept b.kept
  have c7 := fun m hm => ev_toReqs m hm w.late b.late
  rw [ev_fn Tryz.f7 rfl Tryz.func7 rfl rfl rfl (Nat.le_of_ble_eq_true rfl)]
  simp [c0, c1, c2, c3, c4, c5, c6, c7, hm]
theorem ev_eqLay (m m' : M) (a b : Int) : ev E 42 [.v m true [.int .i64 a, .int .i64 b], .v m' true [.int .i64 a, .int .i64 b]] = some (rB true) := by
  rw [ev_fn Tryz.f42 rfl Tryz.func42 rfl rfl rfl (Nat.le_of_ble_eq_true rfl)]
  simp
theorem ev_eqStore (m m' : M) (hm : m.isOwn = false) (hm' : m'.isOwn = false) (s : StoreT) (b : StoreB s) : ev E 43 [.v m true (storeL s), .v m' true (storeL s)] = some (rB true) := by
  have c1 := fun m m' => ev_laws_eqStringS m m' s.now b.now
  have c2 := fun m m' => ev_laws_eqStringS m m' s.sure b.sure
  have c3 := fun m m' => ev_laws_eqIntS m m' s.last b.last
  have c4 := fun m m' => ev_laws_eqIntS m m' s.slast b.slast
  have c5 := fun m m' => ev_laws_eqIntS m m' s.floors b.floors
  rw [ev_fn Tryz.f43 rfl Tryz.func43 rfl rfl rfl (Nat.le_of_ble_eq_true rfl)]
  simp [c1, c2, c3, c4, c5, hm, hm']
theorem ev_eqHolds (m m' : M) (hm : m.isOwn = false) (hm' : m'.isOwn = false) (xs : List HoldT) (hb : xs.length ≤ 4000000) (hk : ∀ h ∈ xs, holdB h) : ev E 44 [.v m false [.sl (xs.map holdL)], .v m' false [.sl (xs.map holdL)]] = some (rB true) := ev_laws_eqHoldS _ sm_Hold m m' hm hm' xs hb hk
theorem ev_eqOwns (m m' : M) (hm : m.isOwn = false) (hm' : m'.isOwn = false) (xs : List OwnT) (hb : xs.length ≤ 4000000) (hk : ∀ h ∈ xs, ownB h) : ev E 45 [.v m false [.sl (xs.map ownL)], .v m' false [.sl (xs.map ownL)]] = some (rB true) := ev_laws_eqOwnS _ sm_Own m m' hm hm' xs hb hk
theorem ev_eqWorld (m m' : M) (hm : m.isOwn = false) (hm' : m'.isOwn = false) (w : WorldT) (b : WorldB w) : ev E 9 [.v m true (worldL w), .v m' true (worldL w)] = some (rB true) := by
  have c0 := fun m m' => ev_eqLay m m' w.size w.many
  have c1 := fun m m' hm hm' => ev_eqStore m m' hm hm' w.st b.st
  have c2 := fun m m' hm hm' => ev_eqHolds m m' hm hm' w.locks b.locks b.holds
  have c3 := fun m m' hm hm' => ev_eqOwns m m' hm hm' w.owns b.owns b.owned
  have c4 := fun m m' => ev_laws_eqIntS m m' w.epochs b.epochs
  have c5 := fun m m' => ev_laws_eqBoolS m m' w.alive b.alive
  have c6 := fun m m' hm hm' => ev_eqReqs m m' hm hm' w.kept b.kept
  have c7 := fun m m' hm hm' => ev_eqReqs m m' hm hm' w.late b.late
  rw [ev_fn Tryz.f9 rfl Tryz.func9 rfl rfl rfl (Nat.le_of_ble_eq_true rfl)]
  simp [c0, c1, c2, c3, c4, c5, c6, c7, hm, hm']
end Go.Ev

/- Answers: lists compared. -/
set_option linter.unusedSimpArgs false
set_option linter.unusedVariables false
set_option maxRecDepth 100000
set_option maxHeartbeats 4000000
namespace Go.Ev
open Go.Proofs
def eqL {α : Type} (c : α → α → Bool) : List α → List α → Bool
  | [], [] => true
  | x :: xs, y :: ys => c x y && eqL c xs ys
  | _, _ => false
theorem eqL_dec {α : Type} [DecidableEq α] {c : α → α → Bool} (hc : ∀ x y, c x y = true ↔ x = y) : ∀ (xs ys : List α), eqL c xs ys = decide (xs = ys)
  | [], [] => rfl
  | [], y :: ys => rfl
  | x :: xs, [] => rfl
  | x :: xs, y :: ys => by
    rw [eqL, eqL_dec hc xs ys, Bool.eq_iff_iff]
    simp only [Bool.and_eq_true, hc, decide_eq_true_eq, List.cons.injEq]
theorem eqL_drop {α : Type} {c : α → α → Bool} {xs ys : List α} {i : Nat} (hx : i < xs.length) (hy : i < ys.length) : eqL c (xs.drop i) (ys.drop i) = (c xs[i] ys[i] && eqL c (xs.drop (i + 1)) (ys.drop (i + 1))) := by
  rw [List.drop_eq_getElem_cons hx, List.drop_eq_getElem_cons hy, eqL]
theorem eqL_end {α : Type} {c : α → α → Bool} {xs ys : List α} {i : Nat} (hx : xs.length ≤ i) (hy : ys.length ≤ i) : eqL c (xs.drop i) (ys.drop i) = true := by
  rw [List.drop_of_length_le hx, List.drop_of_length_le hy, eqL]
theorem eqL_len {α : Type} {c : α → α → Bool} : ∀ (xs ys : List α), xs.length ≠ ys.length → eqL c xs ys = false
  | [], [], h => by simp at h
  | [], y :: ys, _ => rfl
  | x :: xs, [], _ => rfl
  | x :: xs, y :: ys, h => by
    rw [eqL, eqL_len xs ys (by simpa using h), Bool.and_false]
def sameReq (a b : ReqT) : Bool := eqI a.who b.who && (eqI a.epoch b.epoch && (eqI a.num b.num && (eqI a.obj b.obj && (eqI a.pos b.pos && eqS a.data b.data))))
def sameSp (a b : Sp) : Bool := eqI a.1 b.1 && eqI a.2 b.2
def sameB (a b : Bool) : Bool := a == b
@[simp] theorem eqAgg_Req : eqAgg Tryz.prog 74 = true := by kernel_rfl
theorem lp_Eints (m m' : M) (xs ys : List (Int)) (hl : xs.length = ys.length) (hb : ys.length ≤ 1099511627776) (a : Code) (ha : a = lp Tryz.f80 0) : ∀ (n i : Nat), i + n = ys.length →
    loopC E (ev E) 80 a { V := [(0, .v m false [.sl (xs.map (fun n : Int => [L.int .i64 n]))]), (1, .v m' false [.sl (ys.map (fun n : Int => [L.int .i64 n]))]), (12, vi ys.length), (13, vi i)], H := [], ps := [] } =
      if eqL eqI (xs.drop i) (ys.drop i) = true then some (.exit 0, { V := [(0, .v m false [.sl (xs.map (fun n : Int => [L.int .i64 n]))]), (1, .v m' false [.sl (ys.map (fun n : Int => [L.int .i64 n]))]), (12, vi ys.length), (13, vi ys.length), (14, vb false)], H := [], ps := [] })
      else some (.ret, { V := [(4, vb false)], H := [], ps := [] })
  | 0, i, h => by
    rw [loopC_of _ _ _ _ ha, eqL_end (by omega) (by omega)]
    obtain rfl : i = ys.length := by omega
    simp [lp, loopsOf, Tryz.f80]
  | n + 1, i, h => by
    have hlt : i < ys.length := by omega
    have hlx : i < xs.length := by omega
    have ih := lp_Eints m m' xs ys hl hb a ha n (i + 1) (by omega)
    push_cast at ih
    have hw := wrapN i (by omega)
    rw [loopC_of _ _ _ _ ha, eqL_drop hlx hlt]
    clear ha
    generalize eqL eqI (xs.drop (i + 1)) (ys.drop (i + 1)) = r at ih ⊢
    cases e : eqI xs[i] ys[i] <;> (try simp only [sameReq, sameB] at e) <;> simp [lp, loopsOf, Tryz.f80, hlt, hlx, hw, e, ih]
theorem ev_Eints (m m' : M) (xs ys : List (Int)) (hb : ys.length ≤ 1099511627776) : ev E 80 [.v m false [.sl (xs.map (fun n : Int => [L.int .i64 n]))], .v m' false [.sl (ys.map (fun n : Int => [L.int .i64 n]))]] = some (rB (eqL eqI xs ys)) := by
  rw [ev_fn Tryz.f80 rfl Tryz.func80 rfl rfl rfl (Nat.le_of_ble_eq_true rfl)]
  by_cases h : xs.length = ys.length
  · have hl := fun a ha => lp_Eints m m' xs ys h hb a ha ys.length 0 (by omega)
    push_cast at hl
    simp only [List.drop_zero] at hl
    simp [h]
    rw [hl _ ?_]
    · cases eqL eqI xs ys <;> simp
    · rfl
  · have e2 : eqI xs.length ys.length = false := by simp [eqI]; omega
    rw [eqL_len xs ys h]
    simp [e2]
theorem lp_Estrs (m m' : M) (xs ys : List (List UInt8)) (hl : xs.length = ys.length) (hb : ys.length ≤ 1099511627776) (a : Code) (ha : a = lp Tryz.f79 0) : ∀ (n i : Nat), i + n = ys.length →
    loopC E (ev E) 79 a { V := [(0, .v m false [.sl (xs.map (fun s : List UInt8 => [L.str s]))]), (1, .v m' false [.sl (ys.map (fun s : List UInt8 => [L.str s]))]), (12, vi ys.length), (13, vi i)], H := [], ps := [] } =
      if eqL eqS (xs.drop i) (ys.drop i) = true then some (.exit 0, { V := [(0, .v m false [.sl (xs.map (fun s : List UInt8 => [L.str s]))]), (1, .v m' false [.sl (ys.map (fun s : List UInt8 => [L.str s]))]), (12, vi ys.length), (13, vi ys.length), (14, vb false)], H := [], ps := [] })
      else some (.ret, { V := [(4, vb false)], H := [], ps := [] })
  | 0, i, h => by
    rw [loopC_of _ _ _ _ ha, eqL_end (by omega) (by omega)]
    obtain rfl : i = ys.length := by omega
    simp [lp, loopsOf, Tryz.f79]
  | n + 1, i, h => by
    have hlt : i < ys.length := by omega
    have hlx : i < xs.length := by omega
    have ih := lp_Estrs m m' xs ys hl hb a ha n (i + 1) (by omega)
    push_cast at ih
    have hw := wrapN i (by omega)
    rw [loopC_of _ _ _ _ ha, eqL_drop hlx hlt]
    clear ha
    generalize eqL eqS (xs.drop (i + 1)) (ys.drop (i + 1)) = r at ih ⊢
    cases e : eqS xs[i] ys[i] <;> (try simp only [sameReq, sameB] at e) <;> simp [lp, loopsOf, Tryz.f79, hlt, hlx, hw, e, ih]
theorem ev_Estrs (m m' : M) (xs ys : List (List UInt8)) (hb : ys.length ≤ 1099511627776) : ev E 79 [.v m false [.sl (xs.map (fun s : List UInt8 => [L.str s]))], .v m' false [.sl (ys.map (fun s : List UInt8 => [L.str s]))]] = some (rB (eqL eqS xs ys)) := by
  rw [ev_fn Tryz.f79 rfl Tryz.func79 rfl rfl rfl (Nat.le_of_ble_eq_true rfl)]
  by_cases h : xs.length = ys.length
  · have hl := fun a ha => lp_Estrs m m' xs ys h hb a ha ys.length 0 (by omega)
    push_cast at hl
    simp only [List.drop_zero] at hl
    simp [h]
    rw [hl _ ?_]
    · cases eqL eqS xs ys <;> simp
    · rfl
  · have e2 : eqI xs.length ys.length = false := by simp [eqI]; omega
    rw [eqL_len xs ys h]
    simp [e2]
theorem lp_Sints (m m' : M) (xs ys : List (Int)) (hl : xs.length = ys.length) (hb : ys.length ≤ 1099511627776) (a : Code) (ha : a = lp Tryz.f99 0) : ∀ (n i : Nat), i + n = ys.length →
    loopC E (ev E) 99 a { V := [(0, .v m false [.sl (xs.map (fun n : Int => [L.int .i64 n]))]), (1, .v m' false [.sl (ys.map (fun n : Int => [L.int .i64 n]))]), (5, vi i)], H := [], ps := [] } =
      if eqL eqI (xs.drop i) (ys.drop i) = true then some (.exit 0, { V := [(0, .v m false [.sl (xs.map (fun n : Int => [L.int .i64 n]))]), (1, .v m' false [.sl (ys.map (fun n : Int => [L.int .i64 n]))]), (5, vi ys.length), (14, vb false)], H := [], ps := [] })
      else some (.ret, { V := [(4, vb false)], H := [], ps := [] })
  | 0, i, h => by
    rw [loopC_of _ _ _ _ ha, eqL_end (by omega) (by omega)]
    obtain rfl : i = ys.length := by omega
    simp [lp, loopsOf, Tryz.f99, hl]
  | n + 1, i, h => by
    have hlt : i < ys.length := by omega
    have hlx : i < xs.length := by omega
    have ih := lp_Sints m m' xs ys hl hb a ha n (i + 1) (by omega)
    push_cast at ih
    have hw := wrapN i (by omega)
    rw [loopC_of _ _ _ _ ha, eqL_drop hlx hlt]
    clear ha
    generalize eqL eqI (xs.drop (i + 1)) (ys.drop (i + 1)) = r at ih ⊢
    cases e : eqI xs[i] ys[i] <;> (try simp only [sameReq, sameSp] at e) <;> simp [lp, loopsOf, Tryz.f99, hl, hlt, hlx, hw, e, ih]
theorem ev_Sints (m m' : M) (xs ys : List (Int)) (hb : ys.length ≤ 1099511627776) : ev E 99 [.v m false [.sl (xs.map (fun n : Int => [L.int .i64 n]))], .v m' false [.sl (ys.map (fun n : Int => [L.int .i64 n]))]] = some (rB (eqL eqI xs ys)) := by
  rw [ev_fn Tryz.f99 rfl Tryz.func99 rfl rfl rfl (Nat.le_of_ble_eq_true rfl)]
  by_cases h : xs.length = ys.length
  · have hl := fun a ha => lp_Sints m m' xs ys h hb a ha ys.length 0 (by omega)
    push_cast at hl
    simp only [List.drop_zero] at hl
    simp [h]
    rw [hl _ ?_]
    · cases eqL eqI xs ys <;> simp
    · rfl
  · have e2 : eqI xs.length ys.length = false := by simp [eqI]; omega
    rw [eqL_len xs ys h]
    simp [e2]
theorem lp_Sstrs (m m' : M) (xs ys : List (List UInt8)) (hl : xs.length = ys.length) (hb : ys.length ≤ 1099511627776) (a : Code) (ha : a = lp Tryz.f98 0) : ∀ (n i : Nat), i + n = ys.length →
    loopC E (ev E) 98 a { V := [(0, .v m false [.sl (xs.map (fun s : List UInt8 => [L.str s]))]), (1, .v m' false [.sl (ys.map (fun s : List UInt8 => [L.str s]))]), (5, vi i)], H := [], ps := [] } =
      if eqL eqS (xs.drop i) (ys.drop i) = true then some (.exit 0, { V := [(0, .v m false [.sl (xs.map (fun s : List UInt8 => [L.str s]))]), (1, .v m' false [.sl (ys.map (fun s : List UInt8 => [L.str s]))]), (5, vi ys.length), (14, vb false)], H := [], ps := [] })
      else some (.ret, { V := [(4, vb false)], H := [], ps := [] })
  | 0, i, h => by
    rw [loopC_of _ _ _ _ ha, eqL_end (by omega) (by omega)]
    obtain rfl : i = ys.length := by omega
    simp [lp, loopsOf, Tryz.f98, hl]
  | n + 1, i, h => by
    have hlt : i < ys.length := by omega
    have hlx : i < xs.length := by omega
    have ih := lp_Sstrs m m' xs ys hl hb a ha n (i + 1) (by omega)
    push_cast at ih
    have hw := wrapN i (by omega)
    rw [loopC_of _ _ _ _ ha, eqL_drop hlx hlt]
    clear ha
    generalize eqL eqS (xs.drop (i + 1)) (ys.drop (i + 1)) = r at ih ⊢
    cases e : eqS xs[i] ys[i] <;> (try simp only [sameReq, sameSp] at e) <;> simp [lp, loopsOf, Tryz.f98, hl, hlt, hlx, hw, e, ih]
theorem ev_Sstrs (m m' : M) (xs ys : List (List UInt8)) (hb : ys.length ≤ 1099511627776) : ev E 98 [.v m false [.sl (xs.map (fun s : List UInt8 => [L.str s]))], .v m' false [.sl (ys.map (fun s : List UInt8 => [L.str s]))]] = some (rB (eqL eqS xs ys)) := by
  rw [ev_fn Tryz.f98 rfl Tryz.func98 rfl rfl rfl (Nat.le_of_ble_eq_true rfl)]
  by_cases h : xs.length = ys.length
  · have hl := fun a ha => lp_Sstrs m m' xs ys h hb a ha ys.length 0 (by omega)
    push_cast at hl
    simp only [List.drop_zero] at hl
    simp [h]
    rw [hl _ ?_]
    · cases eqL eqS xs ys <;> simp
    · rfl
  · have e2 : eqI xs.length ys.length = false := by simp [eqI]; omega
    rw [eqL_len xs ys h]
    simp [e2]
theorem lp_Sspans (m m' : M) (xs ys : List (Sp)) (hl : xs.length = ys.length) (hb : ys.length ≤ 1099511627776) (a : Code) (ha : a = lp Tryz.f93 0) : ∀ (n i : Nat), i + n = ys.length →
    loopC E (ev E) 93 a { V := [(0, .v m false [.sl (xs.map spL)]), (1, .v m' false [.sl (ys.map spL)]), (5, vi i)], H := [], ps := [] } =
      if eqL sameSp (xs.drop i) (ys.drop i) = true then some (.exit 0, { V := [(0, .v m false [.sl (xs.map spL)]), (1, .v m' false [.sl (ys.map spL)]), (5, vi ys.length), (14, vb false)], H := [], ps := [] })
      else some (.ret, { V := [(4, vb false)], H := [], ps := [] })
  | 0, i, h => by
    rw [loopC_of _ _ _ _ ha, eqL_end (by omega) (by omega)]
    obtain rfl : i = ys.length := by omega
    simp [lp, loopsOf, Tryz.f93, hl]
  | n + 1, i, h => by
    have hlt : i < ys.length := by omega
    have hlx : i < xs.length := by omega
    have ih := lp_Sspans m m' xs ys hl hb a ha n (i + 1) (by omega)
    push_cast at ih
    have hw := wrapN i (by omega)
    rw [loopC_of _ _ _ _ ha, eqL_drop hlx hlt]
    clear ha
    generalize eqL sameSp (xs.drop (i + 1)) (ys.drop (i + 1)) = r at ih ⊢
    cases e : sameSp xs[i] ys[i] <;> (try simp only [sameReq, sameSp] at e) <;> simp [lp, loopsOf, Tryz.f93, hl, hlt, hlx, hw, e, ih]
theorem ev_Sspans (m m' : M) (xs ys : List (Sp)) (hb : ys.length ≤ 1099511627776) : ev E 93 [.v m false [.sl (xs.map spL)], .v m' false [.sl (ys.map spL)]] = some (rB (eqL sameSp xs ys)) := by
  rw [ev_fn Tryz.f93 rfl Tryz.func93 rfl rfl rfl (Nat.le_of_ble_eq_true rfl)]
  by_cases h : xs.length = ys.length
  · have hl := fun a ha => lp_Sspans m m' xs ys h hb a ha ys.length 0 (by omega)
    push_cast at hl
    simp only [List.drop_zero] at hl
    simp [h]
    rw [hl _ ?_]
    · cases eqL sameSp xs ys <;> simp
    · rfl
  · have e2 : eqI xs.length ys.length = false := by simp [eqI]; omega
    rw [eqL_len xs ys h]
    simp [e2]
end Go.Ev

/- Answers: stores, holds and caches compared. -/
set_option linter.unusedSimpArgs false
set_option linter.unusedVariables false
set_option maxRecDepth 100000
set_option maxHeartbeats 4000000
namespace Go.Ev
open Go.Proofs
def sameOwn (a b : OwnT) : Bool := eqS a.t b.t && decide (a.h = b.h) && decide (a.d = b.d)
def sameHold (a b : HoldT) : Bool := decide (a.r = b.r) && decide (a.w = b.w)
theorem sameSp_iff (x y : Sp) : sameSp x y = true ↔ x = y := by
  simp only [sameSp, Bool.and_eq_true, eqI_iff]
  exact ⟨fun h => Prod.ext h.1 h.2, fun h => by rw [h]; exact ⟨rfl, rfl⟩⟩
theorem ev_spec_OwnSame (m m' : M) (hm : m.isOwn = false) (hm' : m'.isOwn = false) (a b : OwnT) (hb : ownB b) : ev E 57 [.v m true (ownL a), .v m' true (ownL b)] = some (rB (sameOwn a b)) := by
  have h1 := fun m m' => ev_Sspans m m' a.h b.h (by have := hb.1; omega)
  have h2 := fun m m' => ev_Sspans m m' a.d b.d (by have := hb.2; omega)
  simp only [eqL_dec sameSp_iff] at h1 h2
  simp only [sameOwn]
  generalize decide (a.h = b.h) = e2 at *
  generalize decide (a.d = b.d) = e3 at *
  rw [ev_fn Tryz.f57 rfl Tryz.func57 rfl rfl rfl (Nat.le_of_ble_eq_true rfl)]
  cases e1 : eqS a.t b.t <;> cases e2 <;> cases e3 <;> simp [e1, hm, hm', h1, h2]
theorem ev_impl_OwnSame2 (m m' : M) (hm : m.isOwn = false) (hm' : m'.isOwn = false) (a b : OwnT) (hb : ownB b) : ev E 33 [.v m true (ownL a), .v m' true (ownL b)] = some (rB (sameOwn a b)) :=
  ev_OwnSame m m' hm hm' a.t b.t a.h a.d b.h b.d (by have := hb.1; omega) (by have := hb.2; omega)
def sameStore (a b : StoreT) : Bool := eqL eqS a.now b.now && (eqL eqS a.sure b.sure && (eqL eqI a.last b.last && (eqL eqI a.slast b.slast && eqL eqI a.floors b.floors)))
theorem ev_impl_StoreSame (m m' : M) (hm : m.isOwn = false) (hm' : m'.isOwn = false) (a b : StoreT) (hb : StoreB b) : ev E 37 [.v m true (storeL a), .v m' true (storeL b)] = some (rB (sameStore a b)) := by
  have c1 := fun m m' => ev_Estrs m m' a.now b.now (by have := hb.now; omega)
  have c2 := fun m m' => ev_Estrs m m' a.sure b.sure (by have := hb.sure; omega)
  have c3 := fun m m' => ev_Eints m m' a.last b.last (by have := hb.last; omega)
  have c4 := fun m m' => ev_Eints m m' a.slast b.slast (by have := hb.slast; omega)
  have c5 := fun m m' => ev_Eints m m' a.floors b.floors (by have := hb.floors; omega)
  simp only [sameStore]
  generalize eqL eqS a.now b.now = e1 at *
  generalize eqL eqS a.sure b.sure = e2 at *
  generalize eqL eqI a.last b.last = e3 at *
  generalize eqL eqI a.slast b.slast = e4 at *
  generalize eqL eqI a.floors b.floors = e5 at *
  rw [ev_fn Tryz.f37 rfl Tryz.func37 rfl rfl rfl (Nat.le_of_ble_eq_true rfl)]
  cases e1 <;> cases e2 <;> cases e3 <;> cases e4 <;> simp [c1, c2, c3, c4, c5, hm, hm']
theorem ev_spec_StoreSame (m m' : M) (hm : m.isOwn = false) (hm' : m'.isOwn = false) (a b : StoreT) (hb : StoreB b) : ev E 62 [.v m true (storeL a), .v m' true (storeL b)] = some (rB (sameStore a b)) := by
  have c1 := fun m m' => ev_Sstrs m m' a.now b.now (by have := hb.now; omega)
  have c2 := fun m m' => ev_Sstrs m m' a.sure b.sure (by have := hb.sure; omega)
  have c3 := fun m m' => ev_Sints m m' a.last b.last (by have := hb.last; omega)
  have c4 := fun m m' => ev_Sints m m' a.slast b.slast (by have := hb.slast; omega)
  have c5 := fun m m' => ev_Sints m m' a.floors b.floors (by have := hb.floors; omega)
  simp only [sameStore]
  generalize eqL eqS a.now b.now = e1 at *
  generalize eqL eqS a.sure b.sure = e2 at *
  generalize eqL eqI a.last b.last = e3 at *
  generalize eqL eqI a.slast b.slast = e4 at *
  generalize eqL eqI a.floors b.floors = e5 at *
  rw [ev_fn Tryz.f62 rfl Tryz.func62 rfl rfl rfl (Nat.le_of_ble_eq_true rfl)]
  cases e1 <;> cases e2 <;> cases e3 <;> cases e4 <;> simp [c1, c2, c3, c4, c5, hm, hm']
end Go.Ev

/- Plain words: one alone; the dead who bar; all flushed. No program in sight. -/
set_option linter.unusedSimpArgs false
set_option linter.unusedVariables false
namespace Go.Ev
theorem whole_ok : spOk whole = true := by decide
theorem inSp_whole {j : Nat} (h : j < 48) : inSp j whole = true := inSp_iff.2 (by simp only [whole]; omega)
/-! ### alone -/
structure AloneP (w : WorldT) : Prop where
  ok : WorldP w
  live : w.live 0 = true
  lock : ∀ j, j < 48 → inF (w.lock 0).w j = true
theorem alone_may {w : WorldT} (h : AloneP w) {write : Bool} {s : Sp} (hs : 0 ≤ s.1 ∧ s.1 < s.2 ∧ s.2 ≤ 48) : lockMay (w.lock 0) write s = true := by
  rw [lockMay_iff hs]
  intro j hj
  rw [inSp_iff] at hj
  simp only [mayAt, h.lock j (by omega), Bool.true_or]
theorem doW_live {w : WorldT} {e : EvT} (h5 : e.kind ≠ 5) (h6 : e.kind ≠ 6) (h9 : e.kind ≠ 9) (hf : formEv e = false) (h8 : e.kind ≠ 8) (hl : w.live e.who.toNat = true) : doW w e = whoW w e := by
  unfold doW
  rw [if_neg h5, if_neg h6, if_neg h9, hf, if_neg (by simp), if_neg h8, hl, if_neg (by simp)]
theorem whoW_1 {w : WorldT} {e : EvT} (h : e.kind = 1) (h0 : e.who = 0) : whoW w e = ((lockW w 0 e.write e.span).1, [], (lockW w 0 e.write e.span).2) := by
  unfold whoW
  rw [if_pos h, h0]
  rfl
theorem whoW_3 {w : WorldT} {e : EvT} (h : e.kind = 3) (h0 : e.who = 0) : whoW w e = ((writeW w 0 e.pos e.data).1, [], (writeW w 0 e.pos e.data).2) := by
  unfold whoW
  rw [if_neg (by omega), if_neg (by omega), if_pos h, h0]
  rfl
theorem whoW_4 {w : WorldT} {e : EvT} (h : e.kind = 4) (h0 : e.who = 0) : whoW w e = (match flushW w 0 whole with | some x => (x, [], 0) | none => (w, [], 24)) := by
  unfold whoW
  rw [if_neg (by omega), if_neg (by omega), if_neg (by omega), if_pos h, h0]
  rfl
theorem alone_first {size many : Int} (hl : layOk size many = true) {e : EvT} (k1 : e.kind = 1) (k2 : e.who = 0) (k3 : e.write = true) (k4 : e.span = whole) (hf : formEv e = false) (h : (doW (newW size many) e).2.2 = 0) : AloneP (doW (newW size many) e).1 ∧ (doW (newW size many) e).1.text = (newW size many).text := by
  have hw := newW_ok hl
  have hlv : (newW size many).live 0 = true := rfl
  generalize newW size many = w at *
  have hok := doW_ok hw e
  have ht := text_eq hw hok fun j hj => still_see hw (by omega) (by omega) (by omega) hj
  refine ⟨?_, ht⟩
  have e1 : doW w e = ((lockW w 0 true whole).1, [], (lockW w 0 true whole).2) := by
    rw [doW_live (by omega) (by omega) (by omega) hf (by omega) (by rw [k2]; exact hlv), whoW_1 k1 k2, k3, k4]
  rw [e1] at h ⊢
  have L := lockW_fine hw (by omega) hlv whole_ok h
  refine ⟨L.ok, ?_, fun j hj => ?_⟩
  · show WorldT.live _ 0 = true
    unfold WorldT.live at hlv ⊢
    rw [L.live]; exact hlv
  · have := L.may j (inSp_whole hj)
    simpa [mayAt] using this
theorem alone_step {w : WorldT} (h : AloneP w) {e : EvT} (h0 : e.who = 0) (hk : e.kind = 3 ∨ e.kind = 4 ∨ e.kind = 5 ∨ e.kind = 6) (hc : (doW w e).2.2 ≠ 24) :
    AloneP (doW w e).1 ∧ (doW w e).1.text = if (eqI e.kind 3 && (twS w.text e.pos e.data).2) = true then (twS w.text e.pos e.data).1 else w.text := by
  have hok := doW_ok h.ok e
  have hf : formEv e = false := by
    have : whoOk e.who = true := by rw [h0]; decide
    simp only [formEv, this, Bool.or_eq_false_iff, Bool.and_eq_false_imp, Bool.or_eq_true, eqI_iff, ltI_not, Bool.not_true]
    refine ⟨⟨⟨by omega, by omega⟩, trivial⟩, fun q => by omega⟩
  have hlive : w.live e.who.toNat = true := by rw [h0]; exact h.live
  rcases hk with k | k | k | k
  · have e1 : doW w e = ((writeW w 0 e.pos e.data).1, [], (writeW w 0 e.pos e.data).2) := by
      rw [doW_live (by omega) (by omega) (by omega) hf (by omega) hlive, whoW_3 k h0]
    have ek : eqI e.kind 3 = true := by rw [k]; rfl
    rw [ek, Bool.true_and]
    by_cases hw : wrOk e.pos e.data = true
    · rw [twS_of h.ok.text_ok hw]
      simp only [if_true]
      obtain ⟨g1, g2, g3, _⟩ := wrOk_len hw
      have hm := alone_may h (write := true) (s := (e.pos, e.pos + e.data.length)) (by dsimp only; omega)
      have hc0 : (writeW w 0 e.pos e.data).2 = 0 := by
        rw [e1] at hc
        unfold writeW at hc ⊢
        rw [if_pos hw, if_pos hm] at hc ⊢
        split at hc
        · rename_i q; rw [if_pos q]
        · exact absurd rfl hc
      obtain ⟨_, R⟩ := writeW_fine h.ok (by omega) h.live hc0
      rw [e1]
      refine ⟨⟨R.ok, ?_, fun j hj => ?_⟩, R.text_eq h.ok (by omega)⟩
      · show WorldT.live _ 0 = true
        rw [R.rest]; exact h.live
      · show inF (WorldT.lock _ 0).w j = true
        rw [R.rest]; exact h.lock j hj
    · have e2 : (twS w.text e.pos e.data).2 = false := by simp only [twS, h.ok.text_ok, hw, if_true, Bool.false_eq_true, if_false]
      have e3 : writeW w 0 e.pos e.data = (w, 20) := by unfold writeW; rw [if_neg hw]
      rw [e2, e1, e3]
      exact ⟨h, by simp⟩
  all_goals
    have ek : eqI e.kind 3 = false := eqI_not.2 (by omega)
    rw [ek, Bool.false_and]
    simp only [Bool.false_eq_true, if_false]
    have ht := text_eq h.ok hok fun j hj => still_see h.ok (by omega) (by omega) (by omega) hj
    refine ⟨?_, ht⟩
  · have e1 : (doW w e).1 = w ∨ ∃ x, flushW w 0 whole = some x ∧ (doW w e).1 = x := by
      rw [doW_live (by omega) (by omega) (by omega) hf (by omega) hlive, whoW_4 k h0]
      cases hx : flushW w 0 whole with
      | none => exact .inl rfl
      | some x => exact .inr ⟨x, rfl, rfl⟩
    rcases e1 with e1 | ⟨x, hx, e1⟩
    · rw [e1]; exact h
    · rw [e1]
      have F := flushW_ok h.ok (by omega) h.live hx
      refine ⟨F.ok, ?_, fun j hj => ?_⟩
      · have := h.live; unfold WorldT.live at this ⊢; rw [F.alive]; exact this
      · have := h.lock j hj; unfold WorldT.lock at this ⊢; rw [F.locks]; exact this
  · have e1 : (doW w e).1 = { w with st := storeSync w.st, kept := [] } := by unfold doW; rw [if_pos k]
    rw [e1] at hok ⊢
    exact ⟨hok, h.live, h.lock⟩
  · have e1 : (doW w e).1 = w := by unfold doW; rw [if_neg (by omega), if_pos k, h.ok.kept]
    rw [e1]; exact h
theorem add_whole (h : List Sp) : addS h whole = [whole] := by
  refine can_eq (of_can _).1 (spsOk_can (by decide)) fun j hj => ?_
  rw [addS_get h whole j hj, inSp_whole hj]
  have : inF [whole] j = true := inF_iff.2 ⟨whole, by simp, by simp only [whole]; omega⟩
  rw [this]; rfl
theorem fill_len (d : List Sp) (x : Bs) (lo : Nat) : ∀ (n i : Nat) (s : Bs), i + n ≤ s.length → lo ≤ i → i + n - lo ≤ x.length → (fillT d x lo n i s).length = s.length
  | 0, _, _, _, _, _ => rfl
  | n + 1, i, s, h1, h2, h3 => by
    rw [fillT]
    have hs : (if inF d i = true then s else overS s ((i : Int), (i : Int) + 1) ((x.take (i - lo + 1)).drop (i - lo))).length = s.length := by
      split
      · rfl
      · rw [overS_len _ _ _ (by dsimp only; omega) (by dsimp only; omega) (by dsimp only; omega), List.length_drop, List.length_take]
        dsimp only
        omega
    rw [fill_len d x lo n (i + 1) _ (by omega) (by omega) (by omega), hs]
theorem fill_wok {o : OwnT} (ho : o.ok = true) {x : Bs} (hx : x.all okB = true) {n : Nat} (hn : n = 48) (hxl : x.length = n) : ownOk (fillT o.d x 0 n 0 o.t) [whole] o.d = true := by
  obtain ⟨ht, hsh, hsd, hob⟩ := ownOk_bd ho
  have hg := fun j => fill_getD (o := o) (lo := 0) (hi := n) (x := x) (by omega) (by omega) ht (by omega) j
  have hl := fill_len o.d x 0 n 0 o.t (by omega) (by omega) (by omega)
  simp only [Nat.sub_zero] at hg
  generalize fillT o.d x 0 n 0 o.t = z at *
  simp only [ownOk, Bool.and_eq_true]
  refine ⟨⟨⟨⟨all_of_get fun j hj => ?_, by rw [hl, ht]; rfl⟩, by decide⟩, hsd⟩, (allTo_iff _ _ _).2 fun j _ hj => ?_⟩
  · rw [hg j]
    split
    · rename_i q
      rw [List.getD_eq_getElem?_getD, List.getElem?_eq_getElem (by omega)]
      exact List.all_eq_true.1 hx _ (List.getElem_mem _)
    · rw [List.getD_eq_getElem?_getD, List.getElem?_eq_getElem (by omega)]
      exact List.all_eq_true.1 hob _ (List.getElem_mem _)
  · have : inF [whole] j = true := inF_iff.2 ⟨whole, by simp, by simp only [whole]; omega⟩
    simp only [okAt, this, Bool.true_or]
theorem alone_read {w : WorldT} (h : AloneP w) : (readW w 0 whole).2.2 = 0 ∧ (readW w 0 whole).2.1 = w.text := by
  have hm := alone_may h (write := false) (s := whole) (by simp [whole])
  have hfile := h.ok.file_ok
  have hsub : subS w.file whole = w.file := by
    unfold subS
    rw [List.take_of_length_le (by rw [file_len]; simp [whole])]
    rfl
  have hfo : fillOk whole w.file = true := by
    simp only [fillOk, whole_ok, Bool.true_and]
    rw [show (w.file.all okB && !ltI 48 w.file.length) = txtOk w.file from rfl, hfile, file_len]
    rfl
  have hok : ownOk (fillT (w.own 0).d w.file 0 48 0 (w.own 0).t) (addS (w.own 0).h whole) (w.own 0).d = true := by
    rw [add_whole]
    exact fill_wok (h.ok.own 0 (by omega)) (txtOk_all hfile) rfl (file_len w)
  have hf : (fillT1 (w.own 0) whole (subS w.file whole)).2 = true := by
    rw [hsub]
    unfold fillT1
    rw [if_pos hfo]
    rw [show (whole.2 - whole.1).toNat = 48 from rfl, show whole.1.toNat = 0 from rfl, if_pos hok]
  have hc : (readW w 0 whole).2.2 = 0 := by
    unfold readW
    rw [if_pos hm, if_pos hf]
  have hd := (readW_fine h.ok (by omega) h.live hc).2.data_see h.ok (by omega) whole_ok
  refine ⟨hc, hd.trans ?_⟩
  unfold subS
  rw [List.take_of_length_le (by rw [h.ok.textGet.1]; simp [whole])]
  rfl
/-! ### the dead who bar -/
structure EvictR (w : WorldT) (k : Nat) (x : WorldT) : Prop where
  ok : WorldP x
  lock : ∀ q, q < 3 → x.lock q = if k = q then noH else w.lock q
  live : ∀ q, q < 3 → x.live q = if k = q then true else w.live q
theorem evict_R {w : WorldT} (hw : WorldP w) {k : Nat} (hk : k < 3) (h : (evictW w k).2 = 0) : EvictR w k (evictW w k).1 := by
  obtain ⟨h1, h2, _⟩ := evict_fine h
  refine ⟨evictW_ok hw hk, fun q hq => ?_, fun q hq => ?_⟩
  · show ((evictW w k).1.locks).getD q noH = _
    rw [h1, lock_set _ _ _ _ hw.lk.len hq]; rfl
  · show ((evictW w k).1.alive).getD q false = _
    rw [h2, getD_set, hw.alive]
    by_cases e : k = q
    · rw [if_pos ⟨e, hq⟩, if_pos e]
    · rw [if_neg (fun r => e r.1), if_neg e]; rfl
/-- Of some, the dead are evicted, one behind the other. -/
def evictsW (dead : Nat → Bool) : List Nat → WorldT → WorldT × Bool
  | [], w => (w, true)
  | k :: ks, w => if dead k = true then (if (evictW w k).2 = 0 then evictsW dead ks (evictW w k).1 else (w, false)) else evictsW dead ks w
theorem evicts_R {dead : Nat → Bool} : ∀ (ks : List Nat) {w : WorldT}, WorldP w → (∀ k ∈ ks, k < 3) → (evictsW dead ks w).2 = true →
    WorldP (evictsW dead ks w).1 ∧ ∀ q, q < 3 → (q ∈ ks → dead q = true → (evictsW dead ks w).1.lock q = noH ∧ (evictsW dead ks w).1.live q = true) ∧
      ((q ∉ ks ∨ dead q = false) → (evictsW dead ks w).1.lock q = w.lock q ∧ (evictsW dead ks w).1.live q = w.live q) ∧ (w.lock q = noH → w.live q = true → (evictsW dead ks w).1.lock q = noH ∧ (evictsW dead ks w).1.live q = true)
  | [], w, hw, _, _ => ⟨hw, fun q hq => ⟨fun h => by simp at h, fun _ => ⟨rfl, rfl⟩, fun h1 h2 => ⟨h1, h2⟩⟩⟩
  | k :: ks, w, hw, hk, h => by
    rw [evictsW] at h ⊢
    by_cases hd : dead k = true
    · rw [if_pos hd] at h ⊢
      by_cases hc : (evictW w k).2 = 0
      · rw [if_pos hc] at h ⊢
        have E := evict_R hw (hk k (by simp)) hc
        obtain ⟨g1, g2⟩ := evicts_R ks E.ok (fun q hq => hk q (by simp [hq])) h
        refine ⟨g1, fun q hq => ?_⟩
        obtain ⟨a1, a2, a3⟩ := g2 q hq
        have el := E.lock q hq
        have ev := E.live q hq
        refine ⟨fun hm hdq => ?_, fun hn => ?_, fun h1 h2 => ?_⟩
        · by_cases e : k = q
          · rw [if_pos e] at el ev
            exact a3 el ev
          · rcases List.mem_cons.1 hm with r | r
            · exact absurd r.symm e
            · exact a1 r hdq
        · have hne : k ≠ q := fun e => by
            subst e
            rcases hn with r | r
            · simp at r
            · rw [hd] at r; cases r
          rw [if_neg hne] at el ev
          have := a2 (hn.imp (fun r => by simp only [List.mem_cons, not_or] at r; exact r.2) id)
          rw [el, ev] at this
          exact this
        · refine a3 ?_ ?_
          · rw [el]; split
            · rfl
            · exact h1
          · rw [ev]; split
            · rfl
            · exact h2
      · rw [if_neg hc] at h; cases h
    · rw [if_neg hd] at h ⊢
      obtain ⟨g1, g2⟩ := evicts_R ks hw (fun q hq => hk q (by simp [hq])) h
      refine ⟨g1, fun q hq => ?_⟩
      obtain ⟨a1, a2, a3⟩ := g2 q hq
      refine ⟨fun hm hdq => ?_, fun hn => ?_, a3⟩
      · rcases List.mem_cons.1 hm with r | r
        · subst r; exact absurd hdq hd
        · exact a1 r hdq
      · by_cases e : k = q
        · subst e
          exact a2 (.inr (by simpa using hd))
        · exact a2 (hn.imp (fun r => by simp only [List.mem_cons, not_or] at r; exact r.2) id)
theorem bars_none {t : List HoldT} {i k : Nat} {write : Bool} {s : Sp} (h : t.getD k noH = noH) : barsAt t i write s k = false := by
  simp only [barsAt, h]
  cases (k == i) <;> cases write <;> rfl
theorem held_again {w : WorldT} {i : Nat} {write : Bool} {s : Sp} (hw : WorldP w) (h : (evictsW (fun k => !w.live k) (lockBars w.locks i write s) w).2 = true) :
    (lockW (evictsW (fun k => !w.live k) (lockBars w.locks i write s) w).1 i write s).2 ≠ 22 := by
  obtain ⟨g1, g2⟩ := evicts_R (dead := fun k => !w.live k) _ hw (fun k hk => (bars_mem.1 hk).1) h
  generalize (evictsW (fun k => !w.live k) (lockBars w.locks i write s) w).1 = y at *
  have hno : ((lockBars y.locks i write s).any fun k => !y.live k) = false := by
    rw [← Bool.not_eq_true, List.any_eq_true]
    rintro ⟨k, hk, hd⟩
    obtain ⟨hk3, hb⟩ := bars_mem.1 hk
    rw [Bool.not_eq_true'] at hd
    obtain ⟨a1, a2, _⟩ := g2 k hk3
    by_cases hm : k ∈ lockBars w.locks i write s
    · by_cases hl : w.live k = true
      · have := (a2 (.inr (by simp [hl]))).2
        rw [hd, hl] at this; cases this
      · have := (a1 hm (by simp only [Bool.not_eq_true', ← Bool.not_eq_true]; exact hl)).2
        rw [hd] at this; cases this
    · have e := (a2 (.inl hm)).1
      refine hm (bars_mem.2 ⟨hk3, ?_⟩)
      unfold barsAt at hb ⊢
      have e' : y.locks.getD k noH = w.locks.getD k noH := e
      rw [e'] at hb
      exact hb
  unfold lockW
  rw [hno, if_neg (by simp)]
  split
  · simp
  · split <;> simp
/-! ### all flushed -/
def flushes : List Nat → WorldT → Option WorldT
  | [], w => some w
  | k :: ks, w => if w.live k = true then (match flushW w k whole with | some x => flushes ks x | none => none) else flushes ks w
theorem cut_whole {d : List Sp} (hd : spsOk d = true) : cutS d whole = [] := by
  refine can_eq (of_can _).1 (spsOk_can (by decide)) fun j hj => ?_
  rw [cutS_get d whole j hj, inSp_whole hj]
  rfl
theorem flushes_R : ∀ (ks : List Nat) {w x : WorldT}, WorldP w → (∀ k ∈ ks, k < 3) → flushes ks w = some x →
    WorldP x ∧ (∀ j, j < 48 → x.see j = w.see j) ∧ x.alive = w.alive ∧ ∀ q, q < 3 → ((q ∈ ks ∨ (w.own q).d = []) → w.live q = true → (x.own q).d = []) ∧ (w.live q = false → x.own q = noO)
  | [], w, x, hw, _, h => by
    simp only [flushes, Option.some.injEq] at h
    subst h
    exact ⟨hw, fun _ _ => rfl, rfl, fun q hq => ⟨fun r _ => r.elim (fun r => by simp at r) id, hw.dead q hq⟩⟩
  | k :: ks, w, x, hw, hk, h => by
    rw [flushes] at h
    split at h
    · rename_i hl
      split at h <;> try (cases h; done)
      rename_i y hy
      have hk3 := hk k (by simp)
      have F := flushW_ok hw hk3 hl hy
      obtain ⟨g1, g2, g3, g4⟩ := flushes_R ks F.ok (fun q hq => hk q (by simp [hq])) h
      have hlv : ∀ q, y.live q = w.live q := fun q => by unfold WorldT.live; rw [F.alive]
      refine ⟨g1, fun j hj => (g2 j hj).trans (F.see hw hk3 hj), g3.trans F.alive, fun q hq => ⟨fun hm hq1 => ?_, fun hq1 => (g4 q hq).2 (by rw [hlv]; exact hq1)⟩⟩
      refine (g4 q hq).1 ?_ (by rw [hlv]; exact hq1)
      have ho := F.own q hq
      by_cases e : k = q
      · right
        rw [ho, if_pos e]
        exact cut_whole (ownOk_bd (hw.own k hk3)).2.2.1
      · rw [ho, if_neg e]
        exact hm.imp (fun r => (List.mem_cons.1 r).resolve_left fun q => e q.symm) id
    · rename_i hl
      obtain ⟨g1, g2, g3, g4⟩ := flushes_R ks hw (fun q hq => hk q (by simp [hq])) h
      refine ⟨g1, g2, g3, fun q hq => ⟨fun hm hq1 => (g4 q hq).1 (hm.imp (fun r => (List.mem_cons.1 r).resolve_left fun e => ?_) id) hq1, (g4 q hq).2⟩⟩
      subst e
      exact hl hq1
theorem flushed_text {w x : WorldT} (hw : WorldP w) (h : flushes [0, 1, 2] w = some x) : WorldP x ∧ x.file = w.text ∧ x.text = w.text := by
  obtain ⟨g1, g2, g3, g4⟩ := flushes_R [0, 1, 2] hw (by simp) h
  have hno : ∀ q, q < 3 → ∀ j, inF (x.own q).d j = false := fun q hq j => by
    cases hl : w.live q
    · rw [(g4 q hq).2 hl]; rfl
    · rw [(g4 q hq).1 (.inl (by simp; omega)) hl]; rfl
  have ht : x.text = w.text := text_eq hw g1 g2
  refine ⟨g1, ?_, ht⟩
  rw [← ht]
  obtain ⟨b1, b2⟩ := g1.textGet
  refine List.ext_getElem (by rw [file_len, b1]) fun j h1 h2 => ?_
  rw [file_len] at h1
  have e1 := file_getD x h1 0
  have e2 := b2 j h1
  rw [see_none fun i hi => hno i hi j] at e2
  rw [List.getD_eq_getElem?_getD, List.getElem?_eq_getElem (by rw [file_len]; exact h1)] at e1
  rw [List.getD_eq_getElem?_getD, List.getElem?_eq_getElem (by omega)] at e2
  exact (e1.trans e2.symm)
end Go.Ev
