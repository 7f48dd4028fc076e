/- My texts joined: EvT54, EvT55, EvT56, EvT57, EvT58. No condition. -/
import Derived.Test.YthdaconelhffcaaEn14
/- Answers: how much a world is; a world taken over; a world is what it is. -/
set_option linter.unusedSimpArgs false
set_option linter.unusedVariables false
set_option maxRecDepth 100000
set_option maxHeartbeats 4000000
namespace Go.Ev
open Go.Proofs
theorem lp_szStrs (m : M) (xs : List (List UInt8)) (hb : xs.length ≤ 4000000) (hk : ∀ x ∈ xs, x.length ≤ 9223372036854775807) (a : Code) (ha : a = lp Try.f142 0) : ∀ (n i : Nat) (m1 : M) (k : Int), i + n = xs.length → 0 ≤ k → k ≤ 1048576 →
    ∃ me, loopC E (ev E) 142 a { V := [(0, .v m false [.sl (strsL xs)]), (1, vim m1 k), (5, vi i)], H := [], ps := [] } =
      if ltI (k - sumOf List.length (xs.drop i)) 0 = true then some (.ret, { V := [(4, vi (-1))], H := [], ps := [] })
      else some (.exit 0, { V := [(0, .v m false [.sl (strsL xs)]), (1, vim me (k - sumOf List.length (xs.drop i))), (5, vi xs.length), (15, vb false)], H := [], ps := [] })
  | 0, i, m1, k, h0, hk0, hk1 => by
    refine ⟨m1, ?_⟩
    rw [loopC_of _ _ _ _ ha]
    obtain rfl : i = xs.length := by omega
    have e : ltI k 0 = false := ltI_not.2 hk0
    simp [lp, loopsOf, Try.f142, sumOf, e]
  | n + 1, i, m1, k, h0, hk0, hk1 => by
    have hlt : i < xs.length := by omega
    have hw := wrapN i (by omega)
    have hx := hk _ (List.getElem_mem hlt)
    have hw2 : IntKind.i64.wrap (k - xs[i].length) = k - xs[i].length := wrap64 (by omega)
    rw [List.drop_eq_getElem_cons hlt, sumOf_cons]
    cases e : ltI (k - xs[i].length) 0
    · have e' := ltI_not.1 e
      obtain ⟨me, ih⟩ := lp_szStrs m xs hb hk a ha n (i + 1) .ro (k - xs[i].length) (by omega) (by omega) (by omega)
      refine ⟨me, ?_⟩
      have heq : k - ((xs[i].length + sumOf List.length (xs.drop (i + 1)) : Nat) : Int) = k - xs[i].length - sumOf List.length (xs.drop (i + 1)) := by omega
      rw [heq]
      push_cast at ih
      rw [loopC_of _ _ _ _ ha]
      clear ha
      simp [lp, loopsOf, Try.f142, hlt, hw, hw2, e]
      simpa using ih
    · have e' := ltI_iff.1 e
      refine ⟨m1, ?_⟩
      rw [if_pos (ltI_iff.2 (by omega))]
      rw [loopC_of _ _ _ _ ha]
      clear ha
      simp [lp, loopsOf, Try.f142, hlt, hw, hw2, e]
def strsSz (xs : List (List UInt8)) : Nat := xs.length + sumOf List.length xs
theorem ev_szStrs (m m' : M) (xs : List (List UInt8)) (n : Int) (h1 : 0 ≤ n ∧ n ≤ 1048576) (hb : xs.length ≤ 9223372036854775807) (hk : ∀ x ∈ xs, x.length ≤ 9223372036854775807) : ev E 142 [.v m false [.sl (strsL xs)], .v m' false [.int .i64 n]] = some (rI (less n (strsSz xs))) := by
  have hw : IntKind.i64.wrap (n - xs.length) = n - xs.length := wrap64 (by omega)
  unfold strsSz
  rw [less_add]
  cases e : ltI (n - xs.length) 0
  · have e' := ltI_not.1 e
    obtain ⟨me, hl⟩ := lp_szStrs m xs (by omega) hk _ rfl xs.length 0 .ro (n - xs.length) (by omega) e' (by omega)
    push_cast at hl
    rw [List.drop_zero] at hl
    rw [ev_fn Try.f142 rfl Try.func142 rfl rfl rfl (Nat.le_of_ble_eq_true rfl)]
    simp [e, hw]
    rw [loopC_at ?_ (by simpa using hl)]
    · cases e2 : ltI (n - xs.length - sumOf List.length xs) 0 <;> simp [less, e2]
    · rfl
  · rw [ev_fn Try.f142 rfl Try.func142 rfl rfl rfl (Nat.le_of_ble_eq_true rfl)]
    simp [e, hw]
def M63 (n : Nat) : Prop := n ≤ 9223372036854775807
theorem sz_Req : SizedBy E 145 reqL (fun q => q.data.length) (fun q => M63 q.data.length) := fun m m' q n hm h1 hx => by
  have hx : q.data.length ≤ 9223372036854775807 := hx
  have hw : IntKind.i64.wrap (n - q.data.length) = n - q.data.length := wrap64 (by omega)
  rw [ev_fn Try.f145 rfl Try.func145 rfl rfl rfl (Nat.le_of_ble_eq_true rfl)]
  cases e : ltI (n - q.data.length) 0 <;> simp [e, hw, less]
def holdM (h : HoldT) : Prop := M63 h.r.length ∧ M63 h.w.length
def ownM (o : OwnT) : Prop := M63 o.t.length ∧ M63 o.h.length ∧ M63 o.d.length
def holdSz (h : HoldT) : Nat := h.r.length + h.w.length
def ownSz (o : OwnT) : Nat := o.t.length + (o.h.length + o.d.length)
def reqsSz (xs : List ReqT) : Nat := xs.length + sumOf (fun q => q.data.length) xs
def holdsSz (xs : List HoldT) : Nat := xs.length + sumOf holdSz xs
def ownsSz (xs : List OwnT) : Nat := xs.length + sumOf ownSz xs
def storeSz (s : StoreT) : Nat := strsSz s.now + (strsSz s.sure + (s.last.length + (s.slast.length + s.floors.length)))
def worldSz (w : WorldT) : Nat := storeSz w.st + (holdsSz w.locks + (ownsSz w.owns + (w.epochs.length + (w.alive.length + (reqsSz w.kept + reqsSz w.late)))))
def strsM (xs : List (List UInt8)) : Prop := M63 xs.length ∧ ∀ x ∈ xs, x.length ≤ 9223372036854775807
def storeM (s : StoreT) : Prop := strsM s.now ∧ strsM s.sure ∧ M63 s.last.length ∧ M63 s.slast.length ∧ M63 s.floors.length
def worldM (w : WorldT) : Prop := storeM w.st ∧ (M63 w.locks.length ∧ ∀ h ∈ w.locks, holdM h) ∧ (M63 w.owns.length ∧ ∀ o ∈ w.owns, ownM o) ∧ M63 w.epochs.length ∧ M63 w.alive.length ∧ (M63 w.kept.length ∧ ∀ q ∈ w.kept, M63 q.data.length) ∧ (M63 w.late.length ∧ ∀ q ∈ w.late, M63 q.data.length)
theorem sz_Hold : SizedBy E 143 holdL holdSz holdM := fun m m' h n hm h1 hx => by
  unfold holdSz
  have d0 := fun m m' => ev_laws_szSpanS m m' h.r n (by omega) hx.1
  rw [less_add]
  cases e0 : ltI (n - (h.r.length : Nat)) 0
  case true =>
    rw [less_neg e0] at d0
    rw [ev_fn Try.f143 rfl Try.func143 rfl rfl rfl (Nat.le_of_ble_eq_true rfl)]
    simp [d0, e0, hm]
  rw [less_pos e0] at d0
  have g0 := ltI_not.1 e0
  have d1 := fun m m' => ev_laws_szSpanS m m' h.w (n - h.r.length) (by omega) hx.2
  cases e1 : ltI (n - (h.r.length : Nat) - (h.w.length : Nat)) 0
  · rw [less_pos e1] at d1 ⊢
    rw [ev_fn Try.f143 rfl Try.func143 rfl rfl rfl (Nat.le_of_ble_eq_true rfl)]
    simp [d0, d1, e0, e1, hm]
  · rw [less_neg e1] at d1 ⊢
    rw [ev_fn Try.f143 rfl Try.func143 rfl rfl rfl (Nat.le_of_ble_eq_true rfl)]
    simp [d0, d1, e0, e1, hm]
theorem sz_Own : SizedBy E 144 ownL ownSz ownM := fun m m' o n hm h1 hx => by
  unfold ownSz
  have hx1 : o.t.length ≤ 9223372036854775807 := hx.1
  have hw : IntKind.i64.wrap (n - o.t.length) = n - o.t.length := wrap64 (by omega)
  rw [less_add]
  cases e0 : ltI (n - (o.t.length : Nat)) 0
  case true =>
    rw [ev_fn Try.f144 rfl Try.func144 rfl rfl rfl (Nat.le_of_ble_eq_true rfl)]
    simp [e0, hw]
  have g0 := ltI_not.1 e0
  have d1 := fun m m' => ev_laws_szSpanS m m' o.h (n - o.t.length) (by omega) hx.2.1
  rw [less_add]
  cases e1 : ltI (n - o.t.length - (o.h.length : Nat)) 0
  case true =>
    rw [less_neg e1] at d1
    rw [ev_fn Try.f144 rfl Try.func144 rfl rfl rfl (Nat.le_of_ble_eq_true rfl)]
    simp [e0, e1, hw, d1, hm]
  rw [less_pos e1] at d1
  have g1 := ltI_not.1 e1
  have d2 := fun m m' => ev_laws_szSpanS m m' o.d (n - o.t.length - o.h.length) (by omega) hx.2.2
  cases e2 : ltI (n - o.t.length - o.h.length - (o.d.length : Nat)) 0
  · rw [less_pos e2] at d2 ⊢
    rw [ev_fn Try.f144 rfl Try.func144 rfl rfl rfl (Nat.le_of_ble_eq_true rfl)]
    simp [e0, e1, e2, hw, d1, d2, hm]
  · rw [less_neg e2] at d2 ⊢
    rw [ev_fn Try.f144 rfl Try.func144 rfl rfl rfl (Nat.le_of_ble_eq_true rfl)]
    simp [e0, e1, e2, hw, d1, d2, hm]
theorem ev_szReqs (m m' : M) (hm : m.isOwn = false) (xs : List ReqT) (n : Int) (h1 : 0 ≤ n ∧ n ≤ 1048576) (hb : M63 xs.length) (hk : ∀ x ∈ xs, M63 x.data.length) : ev E 94 [.v m false [.sl (xs.map reqL)], .v m' false [.int .i64 n]] = some (rI (less n (reqsSz xs))) := ev_laws_szReqS _ _ sz_Req m m' hm xs n h1 hb hk
theorem ev_szHolds (m m' : M) (hm : m.isOwn = false) (xs : List HoldT) (n : Int) (h1 : 0 ≤ n ∧ n ≤ 1048576) (hb : M63 xs.length) (hk : ∀ x ∈ xs, holdM x) : ev E 90 [.v m false [.sl (xs.map holdL)], .v m' false [.int .i64 n]] = some (rI (less n (holdsSz xs))) := ev_laws_szHoldS _ _ sz_Hold m m' hm xs n h1 hb hk
theorem ev_szOwns (m m' : M) (hm : m.isOwn = false) (xs : List OwnT) (n : Int) (h1 : 0 ≤ n ∧ n ≤ 1048576) (hb : M63 xs.length) (hk : ∀ x ∈ xs, ownM x) : ev E 91 [.v m false [.sl (xs.map ownL)], .v m' false [.int .i64 n]] = some (rI (less n (ownsSz xs))) := ev_laws_szOwnS _ _ sz_Own m m' hm xs n h1 hb hk
theorem ev_szStore (m m' : M) (hm : m.isOwn = false) (s : StoreT) (n : Int) (h1 : 0 ≤ n ∧ n ≤ 1048576) (hx : storeM s) : ev E 89 [.v m true (storeL s), .v m' false [.int .i64 n]] = some (rI (less n (storeSz s))) := by
  unfold storeSz
  have d0 := fun m m' => ev_szStrs m m' s.now n (by omega) hx.1.1 hx.1.2
  rw [less_add]
  cases e0 : ltI (n - (strsSz s.now : Nat)) 0
  case true =>
    rw [less_neg e0] at d0
    rw [ev_fn Try.f89 rfl Try.func89 rfl rfl rfl (Nat.le_of_ble_eq_true rfl)]
    simp [d0, e0, hm]
  rw [less_pos e0] at d0
  have g0 := ltI_not.1 e0
  have d1 := fun m m' => ev_szStrs m m' s.sure (n - strsSz s.now) (by omega) hx.2.1.1 hx.2.1.2
  rw [less_add]
  cases e1 : ltI (n - (strsSz s.now : Nat) - (strsSz s.sure : Nat)) 0
  case true =>
    rw [less_neg e1] at d1
    rw [ev_fn Try.f89 rfl Try.func89 rfl rfl rfl (Nat.le_of_ble_eq_true rfl)]
    simp [d0, d1, e0, e1, hm]
  rw [less_pos e1] at d1
  have g1 := ltI_not.1 e1
  have d2 := fun m m' => ev_laws_szIntS m m' s.last (n - strsSz s.now - strsSz s.sure) (by omega) hx.2.2.1
  rw [less_add]
  cases e2 : ltI (n - (strsSz s.now : Nat) - (strsSz s.sure : Nat) - (s.last.length : Nat)) 0
  case true =>
    rw [less_neg e2] at d2
    rw [ev_fn Try.f89 rfl Try.func89 rfl rfl rfl (Nat.le_of_ble_eq_true rfl)]
    simp [d0, d1, d2, e0, e1, e2, hm]
  rw [less_pos e2] at d2
  have g2 := ltI_not.1 e2
  have d3 := fun m m' => ev_laws_szIntS m m' s.slast (n - strsSz s.now - strsSz s.sure - s.last.length) (by omega) hx.2.2.2.1
  rw [less_add]
  cases e3 : ltI (n - (strsSz s.now : Nat) - (strsSz s.sure : Nat) - (s.last.length : Nat) - (s.slast.length : Nat)) 0
  case true =>
    rw [less_neg e3] at d3
    rw [ev_fn Try.f89 rfl Try.func89 rfl rfl rfl (Nat.le_of_ble_eq_true rfl)]
    simp [d0, d1, d2, d3, e0, e1, e2, e3, hm]
  rw [less_pos e3] at d3
  have g3 := ltI_not.1 e3
  have d4 := fun m m' => ev_laws_szIntS m m' s.floors (n - strsSz s.now - strsSz s.sure - s.last.length - s.slast.length) (by omega) hx.2.2.2.2
  cases e4 : ltI (n - (strsSz s.now : Nat) - (strsSz s.sure : Nat) - (s.last.length : Nat) - (s.slast.length : Nat) - (s.floors.length : Nat)) 0
  · rw [less_pos e4] at d4 ⊢
    rw [ev_fn Try.f89 rfl Try.func89 rfl rfl rfl (Nat.le_of_ble_eq_true rfl)]
    simp [d0, d1, d2, d3, d4, e0, e1, e2, e3, e4, hm]
  · rw [less_neg e4] at d4 ⊢
    rw [ev_fn Try.f89 rfl Try.func89 rfl rfl rfl (Nat.le_of_ble_eq_true rfl)]
    simp [d0, d1, d2, d3, d4, e0, e1, e2, e3, e4, hm]
theorem ev_szWorld (m m' : M) (hm : m.isOwn = false) (w : WorldT) (n : Int) (h1 : 0 ≤ n ∧ n ≤ 1048576) (hx : worldM w) : ev E 30 [.v m true (worldL w), .v m' false [.int .i64 n]] = some (rI (less n (worldSz w))) := by
  unfold worldSz
  have d0 := fun m m' hm => ev_szStore m m' hm w.st n (by omega) hx.1
  rw [less_add]
  cases e0 : ltI (n - (storeSz w.st : Nat)) 0
  case true =>
    rw [less_neg e0] at d0
    rw [ev_fn Try.f30 rfl Try.func30 rfl rfl rfl (Nat.le_of_ble_eq_true rfl)]
    simp [d0, e0, hm]
  rw [less_pos e0] at d0
  have g0 := ltI_not.1 e0
  have d1 := fun m m' hm => ev_szHolds m m' hm w.locks (n - storeSz w.st) (by omega) hx.2.1.1 hx.2.1.2
  rw [less_add]
  cases e1 : ltI (n - (storeSz w.st : Nat) - (holdsSz w.locks : Nat)) 0
  case true =>
    rw [less_neg e1] at d1
    rw [ev_fn Try.f30 rfl Try.func30 rfl rfl rfl (Nat.le_of_ble_eq_true rfl)]
    simp [d0, d1, e0, e1, hm]
  rw [less_pos e1] at d1
  have g1 := ltI_not.1 e1
  have d2 := fun m m' hm => ev_szOwns m m' hm w.owns (n - storeSz w.st - holdsSz w.locks) (by omega) hx.2.2.1.1 hx.2.2.1.2
  rw [less_add]
  cases e2 : ltI (n - (storeSz w.st : Nat) - (holdsSz w.locks : Nat) - (ownsSz w.owns : Nat)) 0
  case true =>
    rw [less_neg e2] at d2
    rw [ev_fn Try.f30 rfl Try.func30 rfl rfl rfl (Nat.le_of_ble_eq_true rfl)]
    simp [d0, d1, d2, e0, e1, e2, hm]
  rw [less_pos e2] at d2
  have g2 := ltI_not.1 e2
  have d3 := fun m m' => ev_laws_szIntS m m' w.epochs (n - storeSz w.st - holdsSz w.locks - ownsSz w.owns) (by omega) hx.2.2.2.1
  rw [less_add]
  cases e3 : ltI (n - (storeSz w.st : Nat) - (holdsSz w.locks : Nat) - (ownsSz w.owns : Nat) - (w.epochs.length : Nat)) 0
  case true =>
    rw [less_neg e3] at d3
    rw [ev_fn Try.f30 rfl Try.func30 rfl rfl rfl (Nat.le_of_ble_eq_true rfl)]
    simp [d0, d1, d2, d3, e0, e1, e2, e3, hm]
  rw [less_pos e3] at d3
  have g3 := ltI_not.1 e3
  have d4 := fun m m' => ev_laws_szBoolS m m' w.alive (n - storeSz w.st - holdsSz w.locks - ownsSz w.owns - w.epochs.length) (by omega) hx.2.2.2.2.1
  rw [less_add]
  cases e4 : ltI (n - (storeSz w.st : Nat) - (holdsSz w.locks : Nat) - (ownsSz w.owns : Nat) - (w.epochs.length : Nat) - (w.alive.length : Nat)) 0
  case true =>
    rw [less_neg e4] at d4
    rw [ev_fn Try.f30 rfl Try.func30 rfl rfl rfl (Nat.le_of_ble_eq_true rfl)]
    simp [d0, d1, d2, d3, d4, e0, e1, e2, e3, e4, hm]
  rw [less_pos e4] at d4
  have g4 := ltI_not.1 e4
  have d5 := fun m m' hm => ev_szReqs m m' hm w.kept (n - storeSz w.st - holdsSz w.locks - ownsSz w.owns - w.epochs.length - w.alive.length) (by omega) hx.2.2.2.2.2.1.1 hx.2.2.2.2.2.1.2
  rw [less_add]
  cases e5 : ltI (n - (storeSz w.st : Nat) - (holdsSz w.locks : Nat) - (ownsSz w.owns : Nat) - (w.epochs.length : Nat) - (w.alive.length : Nat) - (reqsSz w.kept : Nat)) 0
  case true =>
    rw [less_neg e5] at d5
    rw [ev_fn Try.f30 rfl Try.func30 rfl rfl rfl (Nat.le_of_ble_eq_true rfl)]
    simp [d0, d1, d2, d3, d4, d5, e0, e1, e2, e3, e4, e5, hm]
  rw [less_pos e5] at d5
  have g5 := ltI_not.1 e5
  have d6 := fun m m' hm => ev_szReqs m m' hm w.late (n - storeSz w.st - holdsSz w.locks - ownsSz w.owns - w.epochs.length - w.alive.length - reqsSz w.kept) (by omega) hx.2.2.2.2.2.2.1 hx.2.2.2.2.2.2.2
  cases e6 : ltI (n - (storeSz w.st : Nat) - (holdsSz w.locks : Nat) - (ownsSz w.owns : Nat) - (w.epochs.length : Nat) - (w.alive.length : Nat) - (reqsSz w.kept : Nat) - (reqsSz w.late : Nat)) 0
  · rw [less_pos e6] at d6 ⊢
    rw [ev_fn Try.f30 rfl Try.func30 rfl rfl rfl (Nat.le_of_ble_eq_true rfl)]
    simp [d0, d1, d2, d3, d4, d5, d6, e0, e1, e2, e3, e4, e5, e6, hm]
  · rw [less_neg e6] at d6 ⊢
    rw [ev_fn Try.f30 rfl Try.func30 rfl rfl rfl (Nat.le_of_ble_eq_true rfl)]
    simp [d0, d1, d2, d3, d4, d5, d6, e0, e1, e2, e3, e4, e5, e6, hm]
end Go.Ev

/- Answers: a world taken over; a world is what it is. -/
set_option linter.unusedSimpArgs false
set_option linter.unusedVariables false
set_option maxRecDepth 100000
set_option maxHeartbeats 4000000
namespace Go.Ev
open Go.Proofs
structure StoreB (s : StoreT) : Prop where
  now : s.now.length ≤ 4000000
  sure : s.sure.length ≤ 4000000
  last : s.last.length ≤ 4000000
  slast : s.slast.length ≤ 4000000
  floors : s.floors.length ≤ 4000000
structure WorldB (w : WorldT) : Prop where
  st : StoreB w.st
  locks : w.locks.length ≤ 4000000
  holds : ∀ h ∈ w.locks, holdB h
  owns : w.owns.length ≤ 4000000
  owned : ∀ o ∈ w.owns, ownB o
  epochs : w.epochs.length ≤ 4000000
  alive : w.alive.length ≤ 4000000
  kept : w.kept.length ≤ 4000000
  late : w.late.length ≤ 4000000
theorem ev_toStore (m : M) (hm : m.isOwn = false) (s : StoreT) (b : StoreB s) : ev E 100 [.v m true (storeL s)] = some { rs := [.v .own true (storeL s)], outs := [] } := by
  have c1 := fun m => ev_laws_toStringS m s.now b.now
  have c2 := fun m => ev_laws_toStringS m s.sure b.sure
  have c3 := fun m => ev_laws_toIntS m s.last b.last
  have c4 := fun m => ev_laws_toIntS m s.slast b.slast
  have c5 := fun m => ev_laws_toIntS m s.floors b.floors
  rw [ev_fn Try.f100 rfl Try.func100 rfl rfl rfl (Nat.le_of_ble_eq_true rfl)]
  simp [c1, c2, c3, c4, c5, hm]
theorem ev_toHolds (m : M) (hm : m.isOwn = false) (xs : List HoldT) (hb : xs.length ≤ 4000000) (hk : ∀ h ∈ xs, holdB h) : ev E 101 [.v m false [.sl (xs.map holdL)]] = some { rs := [.v .own false [.sl (xs.map holdL)]], outs := [] } := ev_laws_toHoldS _ tk_Hold m hm xs hb hk
theorem ev_toOwns (m : M) (hm : m.isOwn = false) (xs : List OwnT) (hb : xs.length ≤ 4000000) (hk : ∀ h ∈ xs, ownB h) : ev E 102 [.v m false [.sl (xs.map ownL)]] = some { rs := [.v .own false [.sl (xs.map ownL)]], outs := [] } := ev_laws_toOwnS _ tk_Own m hm xs hb hk
theorem ev_toWorld (m : M) (hm : m.isOwn = false) (w : WorldT) (b : WorldB w) : ev E 32 [.v m true (worldL w)] = some { rs := [.v .own true (worldL w)], outs := [] } := by
  have c0 := fun m => ev_toLay m w.size w.many
  have c1 := fun m hm => ev_toStore m hm w.st b.st
  have c2 := fun m hm => ev_toHolds m hm w.locks b.locks b.holds
  have c3 := fun m hm => ev_toOwns m hm w.owns b.owns b.owned
  have c4 := fun m => ev_laws_toIntS m w.epochs b.epochs
  have c5 := fun m => ev_laws_toBoolS m w.alive b.alive
  have c6 := fun m hm => ev_toReqs m hm w.kept b.kept
  have c7 := fun m hm => ev_toReqs m hm w.late b.late
  rw [ev_fn Try.f32 rfl Try.func32 rfl rfl rfl (Nat.le_of_ble_eq_true rfl)]
  simp [c0, c1, c2, c3, c4, c5, c6, c7, hm]
theorem ev_eqLay (m m' : M) (a b : Int) : ev E 70 [.v m true [.int .i64 a, .int .i64 b], .v m' true [.int .i64 a, .int .i64 b]] = some (rB true) := by
  rw [ev_fn Try.f70 rfl Try.func70 rfl rfl rfl (Nat.le_of_ble_eq_true rfl)]
  simp
theorem ev_eqStore (m m' : M) (hm : m.isOwn = false) (hm' : m'.isOwn = false) (s : StoreT) (b : StoreB s) : ev E 71 [.v m true (storeL s), .v m' true (storeL s)] = some (rB true) := by
  have c1 := fun m m' => ev_laws_eqStringS m m' s.now b.now
  have c2 := fun m m' => ev_laws_eqStringS m m' s.sure b.sure
  have c3 := fun m m' => ev_laws_eqIntS m m' s.last b.last
  have c4 := fun m m' => ev_laws_eqIntS m m' s.slast b.slast
  have c5 := fun m m' => ev_laws_eqIntS m m' s.floors b.floors
  rw [ev_fn Try.f71 rfl Try.func71 rfl rfl rfl (Nat.le_of_ble_eq_true rfl)]
  simp [c1, c2, c3, c4, c5, hm, hm']
theorem ev_eqHolds (m m' : M) (hm : m.isOwn = false) (hm' : m'.isOwn = false) (xs : List HoldT) (hb : xs.length ≤ 4000000) (hk : ∀ h ∈ xs, holdB h) : ev E 72 [.v m false [.sl (xs.map holdL)], .v m' false [.sl (xs.map holdL)]] = some (rB true) := ev_laws_eqHoldS _ sm_Hold m m' hm hm' xs hb hk
theorem ev_eqOwns (m m' : M) (hm : m.isOwn = false) (hm' : m'.isOwn = false) (xs : List OwnT) (hb : xs.length ≤ 4000000) (hk : ∀ h ∈ xs, ownB h) : ev E 73 [.v m false [.sl (xs.map ownL)], .v m' false [.sl (xs.map ownL)]] = some (rB true) := ev_laws_eqOwnS _ sm_Own m m' hm hm' xs hb hk
theorem ev_eqWorld (m m' : M) (hm : m.isOwn = false) (hm' : m'.isOwn = false) (w : WorldT) (b : WorldB w) : ev E 27 [.v m true (worldL w), .v m' true (worldL w)] = some (rB true) := by
  have c0 := fun m m' => ev_eqLay m m' w.size w.many
  have c1 := fun m m' hm hm' => ev_eqStore m m' hm hm' w.st b.st
  have c2 := fun m m' hm hm' => ev_eqHolds m m' hm hm' w.locks b.locks b.holds
  have c3 := fun m m' hm hm' => ev_eqOwns m m' hm hm' w.owns b.owns b.owned
  have c4 := fun m m' => ev_laws_eqIntS m m' w.epochs b.epochs
  have c5 := fun m m' => ev_laws_eqBoolS m m' w.alive b.alive
  have c6 := fun m m' hm hm' => ev_eqReqs m m' hm hm' w.kept b.kept
  have c7 := fun m m' hm hm' => ev_eqReqs m m' hm hm' w.late b.late
  rw [ev_fn Try.f27 rfl Try.func27 rfl rfl rfl (Nat.le_of_ble_eq_true rfl)]
  simp [c0, c1, c2, c3, c4, c5, c6, c7, hm, hm']
end Go.Ev

/- Answers: lists compared. -/
set_option linter.unusedSimpArgs false
set_option linter.unusedVariables false
set_option maxRecDepth 100000
set_option maxHeartbeats 4000000
namespace Go.Ev
open Go.Proofs
def eqL {α : Type} (c : α → α → Bool) : List α → List α → Bool
  | [], [] => true
  | x :: xs, y :: ys => c x y && eqL c xs ys
  | _, _ => false
theorem eqL_dec {α : Type} [DecidableEq α] {c : α → α → Bool} (hc : ∀ x y, c x y = true ↔ x = y) : ∀ (xs ys : List α), eqL c xs ys = decide (xs = ys)
  | [], [] => rfl
  | [], y :: ys => rfl
  | x :: xs, [] => rfl
  | x :: xs, y :: ys => by
    rw [eqL, eqL_dec hc xs ys, Bool.eq_iff_iff]
    simp only [Bool.and_eq_true, hc, decide_eq_true_eq, List.cons.injEq]
theorem eqL_drop {α : Type} {c : α → α → Bool} {xs ys : List α} {i : Nat} (hx : i < xs.length) (hy : i < ys.length) : eqL c (xs.drop i) (ys.drop i) = (c xs[i] ys[i] && eqL c (xs.drop (i + 1)) (ys.drop (i + 1))) := by
  rw [List.drop_eq_getElem_cons hx, List.drop_eq_getElem_cons hy, eqL]
theorem eqL_end {α : Type} {c : α → α → Bool} {xs ys : List α} {i : Nat} (hx : xs.length ≤ i) (hy : ys.length ≤ i) : eqL c (xs.drop i) (ys.drop i) = true := by
  rw [List.drop_of_length_le hx, List.drop_of_length_le hy, eqL]
theorem eqL_len {α : Type} {c : α → α → Bool} : ∀ (xs ys : List α), xs.length ≠ ys.length → eqL c xs ys = false
  | [], [], h => by simp at h
  | [], y :: ys, _ => rfl
  | x :: xs, [], _ => rfl
  | x :: xs, y :: ys, h => by
    rw [eqL, eqL_len xs ys (by simpa using h), Bool.and_false]
def sameReq (a b : ReqT) : Bool := eqI a.who b.who && (eqI a.epoch b.epoch && (eqI a.num b.num && (eqI a.obj b.obj && (eqI a.pos b.pos && eqS a.data b.data))))
def sameSp (a b : Sp) : Bool := eqI a.1 b.1 && eqI a.2 b.2
def sameB (a b : Bool) : Bool := a == b
@[simp] theorem eqAgg_Req : eqAgg Try.prog 130 = true := by kernel_rfl
theorem lp_Eints (m m' : M) (xs ys : List (Int)) (hl : xs.length = ys.length) (hb : ys.length ≤ 1099511627776) (a : Code) (ha : a = lp Try.f109 0) : ∀ (n i : Nat), i + n = ys.length →
    loopC E (ev E) 109 a { V := [(0, .v m false [.sl (xs.map (fun n : Int => [L.int .i64 n]))]), (1, .v m' false [.sl (ys.map (fun n : Int => [L.int .i64 n]))]), (12, vi ys.length), (13, vi i)], H := [], ps := [] } =
      if eqL eqI (xs.drop i) (ys.drop i) = true then some (.exit 0, { V := [(0, .v m false [.sl (xs.map (fun n : Int => [L.int .i64 n]))]), (1, .v m' false [.sl (ys.map (fun n : Int => [L.int .i64 n]))]), (12, vi ys.length), (13, vi ys.length), (14, vb false)], H := [], ps := [] })
      else some (.ret, { V := [(4, vb false)], H := [], ps := [] })
  | 0, i, h => by
    rw [loopC_of _ _ _ _ ha, eqL_end (by omega) (by omega)]
    obtain rfl : i = ys.length := by omega
    simp [lp, loopsOf, Try.f109]
  | n + 1, i, h => by
    have hlt : i < ys.length := by omega
    have hlx : i < xs.length := by omega
    have ih := lp_Eints m m' xs ys hl hb a ha n (i + 1) (by omega)
    push_cast at ih
    have hw := wrapN i (by omega)
    rw [loopC_of _ _ _ _ ha, eqL_drop hlx hlt]
    clear ha
    generalize eqL eqI (xs.drop (i + 1)) (ys.drop (i + 1)) = r at ih ⊢
    cases e : eqI xs[i] ys[i] <;> (try simp only [sameReq, sameB] at e) <;> simp [lp, loopsOf, Try.f109, hlt, hlx, hw, e, ih]
theorem ev_Eints (m m' : M) (xs ys : List (Int)) (hb : ys.length ≤ 1099511627776) : ev E 109 [.v m false [.sl (xs.map (fun n : Int => [L.int .i64 n]))], .v m' false [.sl (ys.map (fun n : Int => [L.int .i64 n]))]] = some (rB (eqL eqI xs ys)) := by
  rw [ev_fn Try.f109 rfl Try.func109 rfl rfl rfl (Nat.le_of_ble_eq_true rfl)]
  by_cases h : xs.length = ys.length
  · have hl := fun a ha => lp_Eints m m' xs ys h hb a ha ys.length 0 (by omega)
    push_cast at hl
    simp only [List.drop_zero] at hl
    simp [h]
    rw [hl _ ?_]
    · cases eqL eqI xs ys <;> simp
    · rfl
  · have e2 : eqI xs.length ys.length = false := by simp [eqI]; omega
    rw [eqL_len xs ys h]
    simp [e2]
theorem lp_Estrs (m m' : M) (xs ys : List (List UInt8)) (hl : xs.length = ys.length) (hb : ys.length ≤ 1099511627776) (a : Code) (ha : a = lp Try.f152 0) : ∀ (n i : Nat), i + n = ys.length →
    loopC E (ev E) 152 a { V := [(0, .v m false [.sl (xs.map (fun s : List UInt8 => [L.str s]))]), (1, .v m' false [.sl (ys.map (fun s : List UInt8 => [L.str s]))]), (12, vi ys.length), (13, vi i)], H := [], ps := [] } =
      if eqL eqS (xs.drop i) (ys.drop i) = true then some (.exit 0, { V := [(0, .v m false [.sl (xs.map (fun s : List UInt8 => [L.str s]))]), (1, .v m' false [.sl (ys.map (fun s : List UInt8 => [L.str s]))]), (12, vi ys.length), (13, vi ys.length), (14, vb false)], H := [], ps := [] })
      else some (.ret, { V := [(4, vb false)], H := [], ps := [] })
  | 0, i, h => by
    rw [loopC_of _ _ _ _ ha, eqL_end (by omega) (by omega)]
    obtain rfl : i = ys.length := by omega
    simp [lp, loopsOf, Try.f152]
  | n + 1, i, h => by
    have hlt : i < ys.length := by omega
    have hlx : i < xs.length := by omega
    have ih := lp_Estrs m m' xs ys hl hb a ha n (i + 1) (by omega)
    push_cast at ih
    have hw := wrapN i (by omega)
    rw [loopC_of _ _ _ _ ha, eqL_drop hlx hlt]
    clear ha
    generalize eqL eqS (xs.drop (i + 1)) (ys.drop (i + 1)) = r at ih ⊢
    cases e : eqS xs[i] ys[i] <;> (try simp only [sameReq, sameB] at e) <;> simp [lp, loopsOf, Try.f152, hlt, hlx, hw, e, ih]
theorem ev_Estrs (m m' : M) (xs ys : List (List UInt8)) (hb : ys.length ≤ 1099511627776) : ev E 152 [.v m false [.sl (xs.map (fun s : List UInt8 => [L.str s]))], .v m' false [.sl (ys.map (fun s : List UInt8 => [L.str s]))]] = some (rB (eqL eqS xs ys)) := by
  rw [ev_fn Try.f152 rfl Try.func152 rfl rfl rfl (Nat.le_of_ble_eq_true rfl)]
  by_cases h : xs.length = ys.length
  · have hl := fun a ha => lp_Estrs m m' xs ys h hb a ha ys.length 0 (by omega)
    push_cast at hl
    simp only [List.drop_zero] at hl
    simp [h]
    rw [hl _ ?_]
    · cases eqL eqS xs ys <;> simp
    · rfl
  · have e2 : eqI xs.length ys.length = false := by simp [eqI]; omega
    rw [eqL_len xs ys h]
    simp [e2]
theorem lp_Ereqs (m m' : M) (xs ys : List (ReqT)) (hl : xs.length = ys.length) (hb : ys.length ≤ 1099511627776) (a : Code) (ha : a = lp Try.f111 0) : ∀ (n i : Nat), i + n = ys.length →
    loopC E (ev E) 111 a { V := [(0, .v m false [.sl (xs.map reqL)]), (1, .v m' false [.sl (ys.map reqL)]), (12, vi ys.length), (13, vi i)], H := [], ps := [] } =
      if eqL sameReq (xs.drop i) (ys.drop i) = true then some (.exit 0, { V := [(0, .v m false [.sl (xs.map reqL)]), (1, .v m' false [.sl (ys.map reqL)]), (12, vi ys.length), (13, vi ys.length), (14, vb false)], H := [], ps := [] })
      else some (.ret, { V := [(4, vb false)], H := [], ps := [] })
  | 0, i, h => by
    rw [loopC_of _ _ _ _ ha, eqL_end (by omega) (by omega)]
    obtain rfl : i = ys.length := by omega
    simp [lp, loopsOf, Try.f111]
  | n + 1, i, h => by
    have hlt : i < ys.length := by omega
    have hlx : i < xs.length := by omega
    have ih := lp_Ereqs m m' xs ys hl hb a ha n (i + 1) (by omega)
    push_cast at ih
    have hw := wrapN i (by omega)
    rw [loopC_of _ _ _ _ ha, eqL_drop hlx hlt]
    clear ha
    generalize eqL sameReq (xs.drop (i + 1)) (ys.drop (i + 1)) = r at ih ⊢
    cases e : sameReq xs[i] ys[i] <;> (try simp only [sameReq, sameB] at e) <;> simp [lp, loopsOf, Try.f111, hlt, hlx, hw, e, ih]
theorem ev_Ereqs (m m' : M) (xs ys : List (ReqT)) (hb : ys.length ≤ 1099511627776) : ev E 111 [.v m false [.sl (xs.map reqL)], .v m' false [.sl (ys.map reqL)]] = some (rB (eqL sameReq xs ys)) := by
  rw [ev_fn Try.f111 rfl Try.func111 rfl rfl rfl (Nat.le_of_ble_eq_true rfl)]
  by_cases h : xs.length = ys.length
  · have hl := fun a ha => lp_Ereqs m m' xs ys h hb a ha ys.length 0 (by omega)
    push_cast at hl
    simp only [List.drop_zero] at hl
    simp [h]
    rw [hl _ ?_]
    · cases eqL sameReq xs ys <;> simp
    · rfl
  · have e2 : eqI xs.length ys.length = false := by simp [eqI]; omega
    rw [eqL_len xs ys h]
    simp [e2]
theorem lp_Ebools (m m' : M) (xs ys : List (Bool)) (hl : xs.length = ys.length) (hb : ys.length ≤ 1099511627776) (a : Code) (ha : a = lp Try.f110 0) : ∀ (n i : Nat), i + n = ys.length →
    loopC E (ev E) 110 a { V := [(0, .v m false [.sl (xs.map (fun b : Bool => [L.bool b]))]), (1, .v m' false [.sl (ys.map (fun b : Bool => [L.bool b]))]), (12, vi ys.length), (13, vi i)], H := [], ps := [] } =
      if eqL sameB (xs.drop i) (ys.drop i) = true then some (.exit 0, { V := [(0, .v m false [.sl (xs.map (fun b : Bool => [L.bool b]))]), (1, .v m' false [.sl (ys.map (fun b : Bool => [L.bool b]))]), (12, vi ys.length), (13, vi ys.length), (14, vb false)], H := [], ps := [] })
      else some (.ret, { V := [(4, vb false)], H := [], ps := [] })
  | 0, i, h => by
    rw [loopC_of _ _ _ _ ha, eqL_end (by omega) (by omega)]
    obtain rfl : i = ys.length := by omega
    simp [lp, loopsOf, Try.f110]
  | n + 1, i, h => by
    have hlt : i < ys.length := by omega
    have hlx : i < xs.length := by omega
    have ih := lp_Ebools m m' xs ys hl hb a ha n (i + 1) (by omega)
    push_cast at ih
    have hw := wrapN i (by omega)
    rw [loopC_of _ _ _ _ ha, eqL_drop hlx hlt]
    clear ha
    generalize eqL sameB (xs.drop (i + 1)) (ys.drop (i + 1)) = r at ih ⊢
    cases e : sameB xs[i] ys[i] <;> (try simp only [sameReq, sameB] at e) <;> simp [lp, loopsOf, Try.f110, hlt, hlx, hw, e, ih]
theorem ev_Ebools (m m' : M) (xs ys : List (Bool)) (hb : ys.length ≤ 1099511627776) : ev E 110 [.v m false [.sl (xs.map (fun b : Bool => [L.bool b]))], .v m' false [.sl (ys.map (fun b : Bool => [L.bool b]))]] = some (rB (eqL sameB xs ys)) := by
  rw [ev_fn Try.f110 rfl Try.func110 rfl rfl rfl (Nat.le_of_ble_eq_true rfl)]
  by_cases h : xs.length = ys.length
  · have hl := fun a ha => lp_Ebools m m' xs ys h hb a ha ys.length 0 (by omega)
    push_cast at hl
    simp only [List.drop_zero] at hl
    simp [h]
    rw [hl _ ?_]
    · cases eqL sameB xs ys <;> simp
    · rfl
  · have e2 : eqI xs.length ys.length = false := by simp [eqI]; omega
    rw [eqL_len xs ys h]
    simp [e2]
theorem lp_Sints (m m' : M) (xs ys : List (Int)) (hl : xs.length = ys.length) (hb : ys.length ≤ 1099511627776) (a : Code) (ha : a = lp Try.f97 0) : ∀ (n i : Nat), i + n = ys.length →
    loopC E (ev E) 97 a { V := [(0, .v m false [.sl (xs.map (fun n : Int => [L.int .i64 n]))]), (1, .v m' false [.sl (ys.map (fun n : Int => [L.int .i64 n]))]), (5, vi i)], H := [], ps := [] } =
      if eqL eqI (xs.drop i) (ys.drop i) = true then some (.exit 0, { V := [(0, .v m false [.sl (xs.map (fun n : Int => [L.int .i64 n]))]), (1, .v m' false [.sl (ys.map (fun n : Int => [L.int .i64 n]))]), (5, vi ys.length), (14, vb false)], H := [], ps := [] })
      else some (.ret, { V := [(4, vb false)], H := [], ps := [] })
  | 0, i, h => by
    rw [loopC_of _ _ _ _ ha, eqL_end (by omega) (by omega)]
    obtain rfl : i = ys.length := by omega
    simp [lp, loopsOf, Try.f97, hl]
  | n + 1, i, h => by
    have hlt : i < ys.length := by omega
    have hlx : i < xs.length := by omega
    have ih := lp_Sints m m' xs ys hl hb a ha n (i + 1) (by omega)
    push_cast at ih
    have hw := wrapN i (by omega)
    rw [loopC_of _ _ _ _ ha, eqL_drop hlx hlt]
    clear ha
    generalize eqL eqI (xs.drop (i + 1)) (ys.drop (i + 1)) = r at ih ⊢
    cases e : eqI xs[i] ys[i] <;> (try simp only [sameReq, sameSp] at e) <;> simp [lp, loopsOf, Try.f97, hl, hlt, hlx, hw, e, ih]
theorem ev_Sints (m m' : M) (xs ys : List (Int)) (hb : ys.length ≤ 1099511627776) : ev E 97 [.v m false [.sl (xs.map (fun n : Int => [L.int .i64 n]))], .v m' false [.sl (ys.map (fun n : Int => [L.int .i64 n]))]] = some (rB (eqL eqI xs ys)) := by
  rw [ev_fn Try.f97 rfl Try.func97 rfl rfl rfl (Nat.le_of_ble_eq_true rfl)]
  by_cases h : xs.length = ys.length
  · have hl := fun a ha => lp_Sints m m' xs ys h hb a ha ys.length 0 (by omega)
    push_cast at hl
    simp only [List.drop_zero] at hl
    simp [h]
    rw [hl _ ?_]
    · cases eqL eqI xs ys <;> simp
    · rfl
  · have e2 : eqI xs.length ys.length = false := by simp [eqI]; omega
    rw [eqL_len xs ys h]
    simp [e2]
theorem lp_Sstrs (m m' : M) (xs ys : List (List UInt8)) (hl : xs.length = ys.length) (hb : ys.length ≤ 1099511627776) (a : Code) (ha : a = lp Try.f146 0) : ∀ (n i : Nat), i + n = ys.length →
    loopC E (ev E) 146 a { V := [(0, .v m false [.sl (xs.map (fun s : List UInt8 => [L.str s]))]), (1, .v m' false [.sl (ys.map (fun s : List UInt8 => [L.str s]))]), (5, vi i)], H := [], ps := [] } =
      if eqL eqS (xs.drop i) (ys.drop i) = true then some (.exit 0, { V := [(0, .v m false [.sl (xs.map (fun s : List UInt8 => [L.str s]))]), (1, .v m' false [.sl (ys.map (fun s : List UInt8 => [L.str s]))]), (5, vi ys.length), (14, vb false)], H := [], ps := [] })
      else some (.ret, { V := [(4, vb false)], H := [], ps := [] })
  | 0, i, h => by
    rw [loopC_of _ _ _ _ ha, eqL_end (by omega) (by omega)]
    obtain rfl : i = ys.length := by omega
    simp [lp, loopsOf, Try.f146, hl]
  | n + 1, i, h => by
    have hlt : i < ys.length := by omega
    have hlx : i < xs.length := by omega
    have ih := lp_Sstrs m m' xs ys hl hb a ha n (i + 1) (by omega)
    push_cast at ih
    have hw := wrapN i (by omega)
    rw [loopC_of _ _ _ _ ha, eqL_drop hlx hlt]
    clear ha
    generalize eqL eqS (xs.drop (i + 1)) (ys.drop (i + 1)) = r at ih ⊢
    cases e : eqS xs[i] ys[i] <;> (try simp only [sameReq, sameSp] at e) <;> simp [lp, loopsOf, Try.f146, hl, hlt, hlx, hw, e, ih]
theorem ev_Sstrs (m m' : M) (xs ys : List (List UInt8)) (hb : ys.length ≤ 1099511627776) : ev E 146 [.v m false [.sl (xs.map (fun s : List UInt8 => [L.str s]))], .v m' false [.sl (ys.map (fun s : List UInt8 => [L.str s]))]] = some (rB (eqL eqS xs ys)) := by
  rw [ev_fn Try.f146 rfl Try.func146 rfl rfl rfl (Nat.le_of_ble_eq_true rfl)]
  by_cases h : xs.length = ys.length
  · have hl := fun a ha => lp_Sstrs m m' xs ys h hb a ha ys.length 0 (by omega)
    push_cast at hl
    simp only [List.drop_zero] at hl
    simp [h]
    rw [hl _ ?_]
    · cases eqL eqS xs ys <;> simp
    · rfl
  · have e2 : eqI xs.length ys.length = false := by simp [eqI]; omega
    rw [eqL_len xs ys h]
    simp [e2]
theorem lp_Sreqs (m m' : M) (xs ys : List (ReqT)) (hl : xs.length = ys.length) (hb : ys.length ≤ 1099511627776) (a : Code) (ha : a = lp Try.f99 0) : ∀ (n i : Nat), i + n = ys.length →
    loopC E (ev E) 99 a { V := [(0, .v m false [.sl (xs.map reqL)]), (1, .v m' false [.sl (ys.map reqL)]), (5, vi i)], H := [], ps := [] } =
      if eqL sameReq (xs.drop i) (ys.drop i) = true then some (.exit 0, { V := [(0, .v m false [.sl (xs.map reqL)]), (1, .v m' false [.sl (ys.map reqL)]), (5, vi ys.length), (14, vb false)], H := [], ps := [] })
      else some (.ret, { V := [(4, vb false)], H := [], ps := [] })
  | 0, i, h => by
    rw [loopC_of _ _ _ _ ha, eqL_end (by omega) (by omega)]
    obtain rfl : i = ys.length := by omega
    simp [lp, loopsOf, Try.f99, hl]
  | n + 1, i, h => by
    have hlt : i < ys.length := by omega
    have hlx : i < xs.length := by omega
    have ih := lp_Sreqs m m' xs ys hl hb a ha n (i + 1) (by omega)
    push_cast at ih
    have hw := wrapN i (by omega)
    rw [loopC_of _ _ _ _ ha, eqL_drop hlx hlt]
    clear ha
    generalize eqL sameReq (xs.drop (i + 1)) (ys.drop (i + 1)) = r at ih ⊢
    cases e : sameReq xs[i] ys[i] <;> (try simp only [sameReq, sameSp] at e) <;> simp [lp, loopsOf, Try.f99, hl, hlt, hlx, hw, e, ih]
theorem ev_Sreqs (m m' : M) (xs ys : List (ReqT)) (hb : ys.length ≤ 1099511627776) : ev E 99 [.v m false [.sl (xs.map reqL)], .v m' false [.sl (ys.map reqL)]] = some (rB (eqL sameReq xs ys)) := by
  rw [ev_fn Try.f99 rfl Try.func99 rfl rfl rfl (Nat.le_of_ble_eq_true rfl)]
  by_cases h : xs.length = ys.length
  · have hl := fun a ha => lp_Sreqs m m' xs ys h hb a ha ys.length 0 (by omega)
    push_cast at hl
    simp only [List.drop_zero] at hl
    simp [h]
    rw [hl _ ?_]
    · cases eqL sameReq xs ys <;> simp
    · rfl
  · have e2 : eqI xs.length ys.length = false := by simp [eqI]; omega
    rw [eqL_len xs ys h]
    simp [e2]
theorem lp_Sspans (m m' : M) (xs ys : List (Sp)) (hl : xs.length = ys.length) (hb : ys.length ≤ 1099511627776) (a : Code) (ha : a = lp Try.f147 0) : ∀ (n i : Nat), i + n = ys.length →
    loopC E (ev E) 147 a { V := [(0, .v m false [.sl (xs.map spL)]), (1, .v m' false [.sl (ys.map spL)]), (5, vi i)], H := [], ps := [] } =
      if eqL sameSp (xs.drop i) (ys.drop i) = true then some (.exit 0, { V := [(0, .v m false [.sl (xs.map spL)]), (1, .v m' false [.sl (ys.map spL)]), (5, vi ys.length), (14, vb false)], H := [], ps := [] })
      else some (.ret, { V := [(4, vb false)], H := [], ps := [] })
  | 0, i, h => by
    rw [loopC_of _ _ _ _ ha, eqL_end (by omega) (by omega)]
    obtain rfl : i = ys.length := by omega
    simp [lp, loopsOf, Try.f147, hl]
  | n + 1, i, h => by
    have hlt : i < ys.length := by omega
    have hlx : i < xs.length := by omega
    have ih := lp_Sspans m m' xs ys hl hb a ha n (i + 1) (by omega)
    push_cast at ih
    have hw := wrapN i (by omega)
    rw [loopC_of _ _ _ _ ha, eqL_drop hlx hlt]
    clear ha
    generalize eqL sameSp (xs.drop (i + 1)) (ys.drop (i + 1)) = r at ih ⊢
    cases e : sameSp xs[i] ys[i] <;> (try simp only [sameReq, sameSp] at e) <;> simp [lp, loopsOf, Try.f147, hl, hlt, hlx, hw, e, ih]
theorem ev_Sspans (m m' : M) (xs ys : List (Sp)) (hb : ys.length ≤ 1099511627776) : ev E 147 [.v m false [.sl (xs.map spL)], .v m' false [.sl (ys.map spL)]] = some (rB (eqL sameSp xs ys)) := by
  rw [ev_fn Try.f147 rfl Try.func147 rfl rfl rfl (Nat.le_of_ble_eq_true rfl)]
  by_cases h : xs.length = ys.length
  · have hl := fun a ha => lp_Sspans m m' xs ys h hb a ha ys.length 0 (by omega)
    push_cast at hl
    simp only [List.drop_zero] at hl
    simp [h]
    rw [hl _ ?_]
    · cases eqL sameSp xs ys <;> simp
    · rfl
  · have e2 : eqI xs.length ys.length = false := by simp [eqI]; omega
    rw [eqL_len xs ys h]
    simp [e2]
end Go.Ev

/- Answers: stores, holds and caches compared. -/
set_option linter.unusedSimpArgs false
set_option linter.unusedVariables false
set_option maxRecDepth 100000
set_option maxHeartbeats 4000000
namespace Go.Ev
open Go.Proofs
def sameOwn (a b : OwnT) : Bool := eqS a.t b.t && decide (a.h = b.h) && decide (a.d = b.d)
def sameHold (a b : HoldT) : Bool := decide (a.r = b.r) && decide (a.w = b.w)
theorem sameSp_iff (x y : Sp) : sameSp x y = true ↔ x = y := by
  simp only [sameSp, Bool.and_eq_true, eqI_iff]
  exact ⟨fun h => Prod.ext h.1 h.2, fun h => by rw [h]; exact ⟨rfl, rfl⟩⟩
theorem ev_spec_OwnSame (m m' : M) (hm : m.isOwn = false) (hm' : m'.isOwn = false) (a b : OwnT) (hb : ownB b) : ev E 98 [.v m true (ownL a), .v m' true (ownL b)] = some (rB (sameOwn a b)) := by
  have h1 := fun m m' => ev_Sspans m m' a.h b.h (by have := hb.1; omega)
  have h2 := fun m m' => ev_Sspans m m' a.d b.d (by have := hb.2; omega)
  simp only [eqL_dec sameSp_iff] at h1 h2
  simp only [sameOwn]
  generalize decide (a.h = b.h) = e2 at *
  generalize decide (a.d = b.d) = e3 at *
  rw [ev_fn Try.f98 rfl Try.func98 rfl rfl rfl (Nat.le_of_ble_eq_true rfl)]
  cases e1 : eqS a.t b.t <;> cases e2 <;> cases e3 <;> simp [e1, hm, hm', h1, h2]
theorem ev_impl_OwnSame2 (m m' : M) (hm : m.isOwn = false) (hm' : m'.isOwn = false) (a b : OwnT) (hb : ownB b) : ev E 14 [.v m true (ownL a), .v m' true (ownL b)] = some (rB (sameOwn a b)) :=
  ev_OwnSame m m' hm hm' a.t b.t a.h a.d b.h b.d (by have := hb.1; omega) (by have := hb.2; omega)
theorem ev_LockSameFn (m m' : M) (hm : m.isOwn = false) (hm' : m'.isOwn = false) (a b : HoldT) (hb : holdB b) : ev E 154 [.v m true (holdL a), .v m' true (holdL b)] = some (rB (sameHold a b)) := by
  have h1 := fun m m' => ev_Equal m m' a.r b.r (by have := hb.1; omega)
  have h2 := fun m m' => ev_Equal m m' a.w b.w (by have := hb.2; omega)
  simp only [sameHold]
  generalize decide (a.r = b.r) = e1 at *
  generalize decide (a.w = b.w) = e2 at *
  rw [ev_fn Try.f154 rfl Try.func154 rfl rfl rfl (Nat.le_of_ble_eq_true rfl)]
  cases e1 <;> cases e2 <;> simp [hm, hm', h1, h2]
theorem lp_Fowns (m m' mf : M) (hm : m.isOwn = false) (hm' : m'.isOwn = false) (xs ys : List (OwnT)) (hl : xs.length = ys.length) (hb : ys.length ≤ 4000000) (hk : ∀ y ∈ ys, ownB y) (a : Code) (ha : a = lp Try.f108 0) : ∀ (n i : Nat), i + n = ys.length →
    loopC E (ev E) 108 a { V := [(1, .v m' false [.sl (ys.map ownL)]), (2, .v mf false [.fn 14 []]), (15, .v m false [.sl (xs.map ownL)]), (16, vi ys.length), (17, vi i)], H := [], ps := [] } =
      if eqL sameOwn (xs.drop i) (ys.drop i) = true then some (.exit 0, { V := [(1, .v m' false [.sl (ys.map ownL)]), (2, .v mf false [.fn 14 []]), (15, .v m false [.sl (xs.map ownL)]), (16, vi ys.length), (17, vi ys.length), (18, vb false)], H := [], ps := [] })
      else some (.ret, { V := [(6, vb false)], H := [], ps := [] })
  | 0, i, h => by
    rw [loopC_of _ _ _ _ ha, eqL_end (by omega) (by omega)]
    obtain rfl : i = ys.length := by omega
    simp [lp, loopsOf, Try.f108]
  | n + 1, i, h => by
    have hlt : i < ys.length := by omega
    have hlx : i < xs.length := by omega
    have ih := lp_Fowns m m' mf hm hm' xs ys hl hb hk a ha n (i + 1) (by omega)
    push_cast at ih
    have hw := wrapN i (by omega)
    have c := fun m m' hm hm' => ev_impl_OwnSame2 m m' hm hm' xs[i] ys[i] (hk _ (List.getElem_mem hlt))
    rw [loopC_of _ _ _ _ ha, eqL_drop hlx hlt]
    clear ha
    generalize eqL sameOwn (xs.drop (i + 1)) (ys.drop (i + 1)) = r at ih ⊢
    cases e : sameOwn xs[i] ys[i] <;> simp [lp, loopsOf, Try.f108, hlt, hlx, hw, e, ih, c, hm, hm']
theorem ev_Fowns (m m' mf : M) (hm : m.isOwn = false) (hm' : m'.isOwn = false) (xs ys : List (OwnT)) (hb : ys.length ≤ 4000000) (hk : ∀ y ∈ ys, ownB y) : ev E 108 [.v m false [.sl (xs.map ownL)], .v m' false [.sl (ys.map ownL)], .v mf false [.fn 14 []]] = some (rB (eqL sameOwn xs ys)) := by
  rw [ev_fn Try.f108 rfl Try.func108 rfl rfl rfl (Nat.le_of_ble_eq_true rfl)]
  by_cases h : xs.length = ys.length
  · have hl := fun a ha => lp_Fowns m m' mf hm hm' xs ys h hb hk a ha ys.length 0 (by omega)
    push_cast at hl
    simp only [List.drop_zero] at hl
    simp [h]
    rw [hl _ ?_]
    · cases eqL sameOwn xs ys <;> simp
    · rfl
  · have e2 : eqI xs.length ys.length = false := by simp [eqI]; omega
    rw [eqL_len xs ys h]
    simp [e2]
theorem lp_Fholds (m m' mf : M) (hm : m.isOwn = false) (hm' : m'.isOwn = false) (xs ys : List (HoldT)) (hl : xs.length = ys.length) (hb : ys.length ≤ 4000000) (hk : ∀ y ∈ ys, holdB y) (a : Code) (ha : a = lp Try.f153 0) : ∀ (n i : Nat), i + n = ys.length →
    loopC E (ev E) 153 a { V := [(1, .v m' false [.sl (ys.map holdL)]), (2, .v mf false [.fn 154 []]), (15, .v m false [.sl (xs.map holdL)]), (16, vi ys.length), (17, vi i)], H := [], ps := [] } =
      if eqL sameHold (xs.drop i) (ys.drop i) = true then some (.exit 0, { V := [(1, .v m' false [.sl (ys.map holdL)]), (2, .v mf false [.fn 154 []]), (15, .v m false [.sl (xs.map holdL)]), (16, vi ys.length), (17, vi ys.length), (18, vb false)], H := [], ps := [] })
      else some (.ret, { V := [(6, vb false)], H := [], ps := [] })
  | 0, i, h => by
    rw [loopC_of _ _ _ _ ha, eqL_end (by omega) (by omega)]
    obtain rfl : i = ys.length := by omega
    simp [lp, loopsOf, Try.f153]
  | n + 1, i, h => by
    have hlt : i < ys.length := by omega
    have hlx : i < xs.length := by omega
    have ih := lp_Fholds m m' mf hm hm' xs ys hl hb hk a ha n (i + 1) (by omega)
    push_cast at ih
    have hw := wrapN i (by omega)
    have c := fun m m' hm hm' => ev_LockSameFn m m' hm hm' xs[i] ys[i] (hk _ (List.getElem_mem hlt))
    rw [loopC_of _ _ _ _ ha, eqL_drop hlx hlt]
    clear ha
    generalize eqL sameHold (xs.drop (i + 1)) (ys.drop (i + 1)) = r at ih ⊢
    cases e : sameHold xs[i] ys[i] <;> simp [lp, loopsOf, Try.f153, hlt, hlx, hw, e, ih, c, hm, hm']
theorem ev_Fholds (m m' mf : M) (hm : m.isOwn = false) (hm' : m'.isOwn = false) (xs ys : List (HoldT)) (hb : ys.length ≤ 4000000) (hk : ∀ y ∈ ys, holdB y) : ev E 153 [.v m false [.sl (xs.map holdL)], .v m' false [.sl (ys.map holdL)], .v mf false [.fn 154 []]] = some (rB (eqL sameHold xs ys)) := by
  rw [ev_fn Try.f153 rfl Try.func153 rfl rfl rfl (Nat.le_of_ble_eq_true rfl)]
  by_cases h : xs.length = ys.length
  · have hl := fun a ha => lp_Fholds m m' mf hm hm' xs ys h hb hk a ha ys.length 0 (by omega)
    push_cast at hl
    simp only [List.drop_zero] at hl
    simp [h]
    rw [hl _ ?_]
    · cases eqL sameHold xs ys <;> simp
    · rfl
  · have e2 : eqI xs.length ys.length = false := by simp [eqI]; omega
    rw [eqL_len xs ys h]
    simp [e2]
theorem ev_impl_LockSame (m m' : M) (hm : m.isOwn = false) (hm' : m'.isOwn = false) (xs ys : List HoldT) (hb : ys.length ≤ 4000000) (hk : ∀ y ∈ ys, holdB y) : ev E 107 [.v m false [.sl (xs.map holdL)], .v m' false [.sl (ys.map holdL)]] = some (rB (eqL sameHold xs ys)) := by
  have c := fun m m' mf hm hm' => ev_Fholds m m' mf hm hm' xs ys hb hk
  rw [ev_fn Try.f107 rfl Try.func107 rfl rfl rfl (Nat.le_of_ble_eq_true rfl)]
  simp [c, hm, hm']
def sameStore (a b : StoreT) : Bool := eqL eqS a.now b.now && (eqL eqS a.sure b.sure && (eqL eqI a.last b.last && (eqL eqI a.slast b.slast && eqL eqI a.floors b.floors)))
theorem ev_impl_StoreSame (m m' : M) (hm : m.isOwn = false) (hm' : m'.isOwn = false) (a b : StoreT) (hb : StoreB b) : ev E 106 [.v m true (storeL a), .v m' true (storeL b)] = some (rB (sameStore a b)) := by
  have c1 := fun m m' => ev_Estrs m m' a.now b.now (by have := hb.now; omega)
  have c2 := fun m m' => ev_Estrs m m' a.sure b.sure (by have := hb.sure; omega)
  have c3 := fun m m' => ev_Eints m m' a.last b.last (by have := hb.last; omega)
  have c4 := fun m m' => ev_Eints m m' a.slast b.slast (by have := hb.slast; omega)
  have c5 := fun m m' => ev_Eints m m' a.floors b.floors (by have := hb.floors; omega)
  simp only [sameStore]
  generalize eqL eqS a.now b.now = e1 at *
  generalize eqL eqS a.sure b.sure = e2 at *
  generalize eqL eqI a.last b.last = e3 at *
  generalize eqL eqI a.slast b.slast = e4 at *
  generalize eqL eqI a.floors b.floors = e5 at *
  rw [ev_fn Try.f106 rfl Try.func106 rfl rfl rfl (Nat.le_of_ble_eq_true rfl)]
  cases e1 <;> cases e2 <;> cases e3 <;> cases e4 <;> simp [c1, c2, c3, c4, c5, hm, hm']
theorem ev_spec_StoreSame (m m' : M) (hm : m.isOwn = false) (hm' : m'.isOwn = false) (a b : StoreT) (hb : StoreB b) : ev E 95 [.v m true (storeL a), .v m' true (storeL b)] = some (rB (sameStore a b)) := by
  have c1 := fun m m' => ev_Sstrs m m' a.now b.now (by have := hb.now; omega)
  have c2 := fun m m' => ev_Sstrs m m' a.sure b.sure (by have := hb.sure; omega)
  have c3 := fun m m' => ev_Sints m m' a.last b.last (by have := hb.last; omega)
  have c4 := fun m m' => ev_Sints m m' a.slast b.slast (by have := hb.slast; omega)
  have c5 := fun m m' => ev_Sints m m' a.floors b.floors (by have := hb.floors; omega)
  simp only [sameStore]
  generalize eqL eqS a.now b.now = e1 at *
  generalize eqL eqS a.sure b.sure = e2 at *
  generalize eqL eqI a.last b.last = e3 at *
  generalize eqL eqI a.slast b.slast = e4 at *
  generalize eqL eqI a.floors b.floors = e5 at *
  rw [ev_fn Try.f95 rfl Try.func95 rfl rfl rfl (Nat.le_of_ble_eq_true rfl)]
  cases e1 <;> cases e2 <;> cases e3 <;> cases e4 <;> simp [c1, c2, c3, c4, c5, hm, hm']
theorem lp_sLockSame (m m' : M) (hm : m.isOwn = false) (hm' : m'.isOwn = false) (xs ys : List HoldT) (hl : xs.length = ys.length) (hb : ys.length ≤ 4000000) (hk : ∀ y ∈ ys, holdB y) (a : Code) (ha : a = lp Try.f96 0) : ∀ (n i : Nat), i + n = ys.length →
    loopC E (ev E) 96 a { V := [(0, .v m false [.sl (xs.map holdL)]), (1, .v m' false [.sl (ys.map holdL)]), (5, vi i)], H := [], ps := [] } =
      if eqL sameHold (xs.drop i) (ys.drop i) = true then some (.exit 0, { V := [(0, .v m false [.sl (xs.map holdL)]), (1, .v m' false [.sl (ys.map holdL)]), (5, vi ys.length), (14, vb false)], H := [], ps := [] })
      else some (.ret, { V := [(4, vb false)], H := [], ps := [] })
  | 0, i, h => by
    rw [loopC_of _ _ _ _ ha, eqL_end (by omega) (by omega)]
    obtain rfl : i = ys.length := by omega
    simp [lp, loopsOf, Try.f96, hl]
  | n + 1, i, h => by
    have hlt : i < ys.length := by omega
    have hlx : i < xs.length := by omega
    have ih := lp_sLockSame m m' hm hm' xs ys hl hb hk a ha n (i + 1) (by omega)
    push_cast at ih
    have hw := wrapN i (by omega)
    have hB := hk _ (List.getElem_mem hlt)
    have h1 := fun m m' => ev_Sspans m m' xs[i].r ys[i].r (by have := hB.1; omega)
    have h2 := fun m m' => ev_Sspans m m' xs[i].w ys[i].w (by have := hB.2; omega)
    simp only [eqL_dec sameSp_iff] at h1 h2
    rw [loopC_of _ _ _ _ ha, eqL_drop hlx hlt]
    clear ha
    generalize eqL sameHold (xs.drop (i + 1)) (ys.drop (i + 1)) = r at ih ⊢
    have hs : sameHold xs[i] ys[i] = (decide (xs[i].r = ys[i].r) && decide (xs[i].w = ys[i].w)) := rfl
    rcases Bool.eq_false_or_eq_true (decide (xs[i].r = ys[i].r)) with e1 | e1 <;> rcases Bool.eq_false_or_eq_true (decide (xs[i].w = ys[i].w)) with e2 | e2 <;> (rw [e1] at h1 hs; rw [e2] at h2 hs; rw [hs]; clear hs e1 e2; simp [lp, loopsOf, Try.f96, hl, hlt, hlx, hw, ih, h1, h2, hm, hm'])
theorem ev_spec_LockSame (m m' : M) (hm : m.isOwn = false) (hm' : m'.isOwn = false) (xs ys : List HoldT) (hb : ys.length ≤ 4000000) (hk : ∀ y ∈ ys, holdB y) : ev E 96 [.v m false [.sl (xs.map holdL)], .v m' false [.sl (ys.map holdL)]] = some (rB (eqL sameHold xs ys)) := by
  rw [ev_fn Try.f96 rfl Try.func96 rfl rfl rfl (Nat.le_of_ble_eq_true rfl)]
  by_cases h : xs.length = ys.length
  · have hl := fun a ha => lp_sLockSame m m' hm hm' xs ys h hb hk a ha ys.length 0 (by omega)
    push_cast at hl
    simp only [List.drop_zero] at hl
    simp [h]
    rw [hl _ ?_]
    · cases eqL sameHold xs ys <;> simp
    · rfl
  · have e2 : eqI xs.length ys.length = false := by simp [eqI]; omega
    rw [eqL_len xs ys h]
    simp [e2]
end Go.Ev

/- The law: two worlds told apart. -/
set_option linter.unusedSimpArgs false
set_option linter.unusedVariables false
set_option maxRecDepth 100000
set_option maxHeartbeats 8000000
namespace Go.Ev
open Go.Proofs
def sameLay (a b : WorldT) : Bool := eqI a.size b.size && eqI a.many b.many
def sameWorld (a b : WorldT) : Bool := sameLay a b && (sameStore a.st b.st && (eqL sameHold a.locks b.locks && (eqL sameOwn a.owns b.owns && (eqL eqI a.epochs b.epochs && (eqL sameB a.alive b.alive && (eqL sameReq a.kept b.kept && eqL sameReq a.late b.late))))))
@[simp] theorem eqAgg_Lay : eqAgg Try.prog 49 = true := by kernel_rfl
theorem ev_impl_WorldSame (m m' : M) (hm : m.isOwn = false) (hm' : m'.isOwn = false) (a b : WorldT) (hb : WorldB b) : ev E 33 [.v m true (worldL a), .v m' true (worldL b)] = some (rB (sameWorld a b)) := by
  have c1 := fun m m' hm hm' => ev_impl_StoreSame m m' hm hm' a.st b.st hb.st
  have c2 := fun m m' hm hm' => ev_impl_LockSame m m' hm hm' a.locks b.locks hb.locks hb.holds
  have c3 := fun m m' mf hm hm' => ev_Fowns m m' mf hm hm' a.owns b.owns hb.owns hb.owned
  have c4 := fun m m' => ev_Eints m m' a.epochs b.epochs (by have := hb.epochs; omega)
  have c5 := fun m m' => ev_Ebools m m' a.alive b.alive (by have := hb.alive; omega)
  have c6 := fun m m' => ev_Ereqs m m' a.kept b.kept (by have := hb.kept; omega)
  have c7 := fun m m' => ev_Ereqs m m' a.late b.late (by have := hb.late; omega)
  simp only [sameWorld]
  generalize sameStore a.st b.st = x1 at *
  generalize eqL sameHold a.locks b.locks = x2 at *
  generalize eqL sameOwn a.owns b.owns = x3 at *
  generalize eqL eqI a.epochs b.epochs = x4 at *
  generalize eqL sameB a.alive b.alive = x5 at *
  generalize eqL sameReq a.kept b.kept = x6 at *
  generalize eqL sameReq a.late b.late = x7 at *
  rw [ev_fn Try.f33 rfl Try.func33 rfl rfl rfl (Nat.le_of_ble_eq_true rfl)]
  cases e0 : sameLay a b <;> simp only [sameLay] at e0
  · simp [e0, hm, hm']
  cases x1
  · simp [e0, hm, hm', c1]
  cases x2
  · simp [e0, hm, hm', c1, c2]
  cases x3
  · simp [e0, hm, hm', c1, c2, c3]
  cases x4
  · simp [e0, hm, hm', c1, c2, c3, c4]
  cases x5
  · simp [e0, hm, hm', c1, c2, c3, c4, c5]
  cases x6 <;> simp [e0, hm, hm', c1, c2, c3, c4, c5, c6, c7]
theorem lp_sWorld0 (m m' : M) (hm : m.isOwn = false) (hm' : m'.isOwn = false) (v w : WorldT) (hl : v.owns.length = w.owns.length) (hb : WorldB w) (a : Code) (ha : a = lp Try.f31 0) : ∀ (n i : Nat), i + n = w.owns.length →
    loopC E (ev E) 31 a { V := [(2, adc 2), (3, adc 3), (5, vi i)], H := [bxm (.c 2) m (worldL v), bxm (.c 3) m' (worldL w)], ps := [] } =
      if eqL sameOwn (v.owns.drop i) (w.owns.drop i) = true then some (.exit 0, { V := [(2, adc 2), (3, adc 3), (5, vi w.owns.length), (58, vb false)], H := [bxm (.c 2) m (worldL v), bxm (.c 3) m' (worldL w)], ps := [] })
      else some (.ret, { V := [(4, vb false)], H := [], ps := [] })
  | 0, i, h => by
    rw [loopC_of _ _ _ _ ha, eqL_end (by omega) (by omega)]
    obtain rfl : i = w.owns.length := by omega
    simp [lp, loopsOf, Try.f31, hl, hm, hm']
  | n + 1, i, h => by
    have hlt : i < w.owns.length := by omega
    have hlx : i < v.owns.length := by omega
    have ih := lp_sWorld0 m m' hm hm' v w hl hb a ha n (i + 1) (by omega)
    push_cast at ih
    have := hb.owns
    have hw := wrapN i (by omega)
    have c := fun m m' hm hm' => ev_spec_OwnSame m m' hm hm' v.owns[i] w.owns[i] (hb.owned _ (List.getElem_mem hlt))
    rw [loopC_of _ _ _ _ ha, eqL_drop hlx hlt]
    clear ha
    generalize eqL sameOwn (v.owns.drop (i + 1)) (w.owns.drop (i + 1)) = r at ih ⊢
    cases e : sameOwn v.owns[i] w.owns[i] <;> simp [lp, loopsOf, Try.f31, hl, hlt, hlx, hw, e, ih, c, hm, hm']
theorem lp_sWorld1 (m m' : M) (hm : m.isOwn = false) (hm' : m'.isOwn = false) (v w : WorldT) (hl : v.alive.length = w.alive.length) (hb : WorldB w) (a : Code) (ha : a = lp Try.f31 1) : ∀ (n i : Nat), i + n = w.alive.length →
    loopC E (ev E) 31 a { V := [(2, adc 2), (3, adc 3), (6, vi i)], H := [bxm (.c 2) m (worldL v), bxm (.c 3) m' (worldL w)], ps := [] } =
      if eqL sameB (v.alive.drop i) (w.alive.drop i) = true then some (.exit 2, { V := [(2, adc 2), (3, adc 3), (6, vi w.alive.length), (77, vb false)], H := [bxm (.c 2) m (worldL v), bxm (.c 3) m' (worldL w)], ps := [] })
      else some (.ret, { V := [(4, vb false)], H := [], ps := [] })
  | 0, i, h => by
    rw [loopC_of _ _ _ _ ha, eqL_end (by omega) (by omega)]
    obtain rfl : i = w.alive.length := by omega
    simp [lp, loopsOf, Try.f31, hl, hm, hm']
  | n + 1, i, h => by
    have hlt : i < w.alive.length := by omega
    have hlx : i < v.alive.length := by omega
    have ih := lp_sWorld1 m m' hm hm' v w hl hb a ha n (i + 1) (by omega)
    push_cast at ih
    have := hb.alive
    have hw := wrapN i (by omega)
    rw [loopC_of _ _ _ _ ha, eqL_drop hlx hlt]
    clear ha
    generalize eqL sameB (v.alive.drop (i + 1)) (w.alive.drop (i + 1)) = r at ih ⊢
    cases e : sameB v.alive[i] w.alive[i] <;> simp only [sameB] at e <;> simp [lp, loopsOf, Try.f31, hl, hlt, hlx, hw, e, ih, hm, hm']
theorem ev_spec_WorldSame (m m' : M) (hm : m.isOwn = false) (hm' : m'.isOwn = false) (v w : WorldT) (hb : WorldB w) : ev E 31 [.v m true (worldL v), .v m' true (worldL w)] = some (rB (sameWorld v w)) := by
  have c1 := fun m m' hm hm' => ev_spec_StoreSame m m' hm hm' v.st w.st hb.st
  have c2 := fun m m' hm hm' => ev_spec_LockSame m m' hm hm' v.locks w.locks hb.locks hb.holds
  have c4 := fun m m' => ev_Sints m m' v.epochs w.epochs (by have := hb.epochs; omega)
  have c6 := fun m m' => ev_Sreqs m m' v.kept w.kept (by have := hb.kept; omega)
  have c7 := fun m m' => ev_Sreqs m m' v.late w.late (by have := hb.late; omega)
  simp only [sameWorld]
  generalize sameStore v.st w.st = x1 at *
  generalize eqL sameHold v.locks w.locks = x2 at *
  generalize eqL eqI v.epochs w.epochs = x4 at *
  generalize eqL sameReq v.kept w.kept = x6 at *
  generalize eqL sameReq v.late w.late = x7 at *
  by_cases h3 : v.owns.length = w.owns.length
  case neg =>
    have e3 : eqI v.owns.length w.owns.length = false := eqI_not.2 (by omega)
    rw [eqL_len v.owns w.owns h3]
    rw [ev_fn Try.f31 rfl Try.func31 rfl rfl rfl (Nat.le_of_ble_eq_true rfl)]
    cases e0 : sameLay v w <;> simp only [sameLay] at e0
    · simp [e0, hm, hm']
    cases x1
    · simp [e0, hm, hm', c1]
    cases x2 <;> simp [e0, hm, hm', c1, c2, e3]
  by_cases h5 : v.alive.length = w.alive.length
  case neg =>
    have e5 : eqI v.alive.length w.alive.length = false := eqI_not.2 (by omega)
    rw [eqL_len v.alive w.alive h5]
    rw [ev_fn Try.f31 rfl Try.func31 rfl rfl rfl (Nat.le_of_ble_eq_true rfl)]
    cases e0 : sameLay v w <;> simp only [sameLay] at e0
    · simp [e0, hm, hm']
    cases x1
    · simp [e0, hm, hm', c1]
    cases x2
    · simp [e0, hm, hm', c1, c2]
    cases x4 <;> simp [e0, hm, hm', c1, c2, c4, h3, e5]
  have l0 := fun a ha => lp_sWorld0 m m' hm hm' v w h3 hb a ha w.owns.length 0 (by omega)
  have l1 := fun a ha => lp_sWorld1 m m' hm hm' v w h5 hb a ha w.alive.length 0 (by omega)
  push_cast at l0 l1
  simp only [List.drop_zero] at l0 l1
  generalize eqL sameOwn v.owns w.owns = x3 at *
  generalize eqL sameB v.alive w.alive = x5 at *
  rw [ev_fn Try.f31 rfl Try.func31 rfl rfl rfl (Nat.le_of_ble_eq_true rfl)]
  cases e0 : sameLay v w <;> simp only [sameLay] at e0
  · simp [e0, hm, hm']
  cases x1
  · simp [e0, hm, hm', c1]
  cases x2
  · simp [e0, hm, hm', c1, c2]
  cases x4
  · simp [e0, hm, hm', c1, c2, c4, h3]
  simp [e0, hm, hm', c1, c2, c4, h3, h5]
  rw [l0 _ ?_]
  · cases x3
    · simp
    · simp
      rw [l1 _ ?_]
      · cases x5
        · simp
        · cases x6 <;> simp [c6, c7, hm, hm']
      · rfl
  · rfl
theorem sumOf_mem {α : Type} {size : α → Nat} {x : α} : ∀ {xs : List α}, x ∈ xs → size x ≤ sumOf size xs
  | [], h => by simp at h
  | y :: ys, h => by
    rw [sumOf_cons]
    rcases List.mem_cons.1 h with rfl | h
    · omega
    · have := sumOf_mem (size := size) h
      omega
theorem worldB_of {w : WorldT} {n : Nat} (h : worldSz w ≤ n) (hn : n ≤ 1048576) : WorldB w := by
  simp only [worldSz, storeSz, strsSz, holdsSz, ownsSz, reqsSz] at h
  refine ⟨⟨by omega, by omega, by omega, by omega, by omega⟩, by omega, fun q hq => ?_, by omega, fun q hq => ?_, by omega, by omega, by omega, by omega⟩
  · have := sumOf_mem (size := holdSz) hq
    simp only [holdSz] at this
    exact ⟨by omega, by omega⟩
  · have := sumOf_mem (size := ownSz) hq
    simp only [ownSz] at this
    exact ⟨by omega, by omega⟩
theorem law_FnExactWorldSame (a b : WorldT) (ha : worldM a) (hb : worldM b) : ev E 8 [.v .ro true (worldL a), .v .ro true (worldL b)] = some (rB true) := by
  have c1 := fun m m' hm => ev_szWorld m m' hm a 1048576 (by omega) ha
  cases e1 : ltI (1048576 - (worldSz a : Nat)) 0
  case true =>
    rw [less_neg e1] at c1
    rw [ev_fn Try.f8 rfl Try.func8 rfl rfl rfl (Nat.le_of_ble_eq_true rfl)]
    simp [c1]
  rw [less_pos e1] at c1
  have g1 := ltI_not.1 e1
  have A := worldB_of (w := a) (n := 1048576) (by omega) (by omega)
  have c2 := fun m m' hm => ev_szWorld m m' hm b (1048576 - (worldSz a : Nat)) (by omega) hb
  cases e2 : ltI (1048576 - (worldSz a : Nat) - (worldSz b : Nat)) 0
  case true =>
    rw [less_neg e2] at c2
    rw [ev_fn Try.f8 rfl Try.func8 rfl rfl rfl (Nat.le_of_ble_eq_true rfl)]
    simp [c1, c2, e1]
  rw [less_pos e2] at c2
  have g2 := ltI_not.1 e2
  have B := worldB_of (w := b) (n := 1048576) (by omega) (by omega)
  have c3 := fun m hm => ev_toWorld m hm a A
  have c4 := fun m hm => ev_toWorld m hm b B
  have c5 := fun m m' hm hm' => ev_spec_WorldSame m m' hm hm' a b B
  have c6 := fun m m' hm hm' => ev_impl_WorldSame m m' hm hm' a b B
  have c7 := fun m m' hm hm' => ev_eqWorld m m' hm hm' a A
  have c8 := fun m m' hm hm' => ev_eqWorld m m' hm hm' b B
  generalize sameWorld a b = r at *
  rw [ev_fn Try.f8 rfl Try.func8 rfl rfl rfl (Nat.le_of_ble_eq_true rfl)]
  simp [c1, c2, c3, c4, c5, c6, c7, c8, e1, e2]
end Go.Ev
