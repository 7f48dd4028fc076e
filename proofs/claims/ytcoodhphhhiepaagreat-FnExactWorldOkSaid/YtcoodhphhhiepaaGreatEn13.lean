/- My texts joined: EvT60, EvT61, EvT62, EvT63, EvT64, EvT65, EvT66, EvT67. No condition. -/
import Derived.Test.YtcoodhphhhiepaaGreatEn12
/- Answers: stores that are right, and copied. -/
set_option linter.unusedSimpArgs false
set_option linter.unusedVariables false
set_option maxRecDepth 100000
set_option maxHeartbeats 4000000
namespace Go.Ev
open Go.Proofs
/-- Lists and texts of a store that are short enough. -/
structure StoreC (s : StoreT) : Prop extends StoreB s where
  nowT : ∀ x ∈ s.now, x.length ≤ 4000000
  sureT : ∀ x ∈ s.sure, x.length ≤ 4000000
theorem StoreP.bd {s : StoreT} (h : StoreP s) : StoreC s :=
  ⟨⟨by have := h.now; omega, by have := h.sure; omega, by have := h.last; omega, by have := h.slast; omega, by have := h.floors; omega⟩, fun x hx => by have := txtOk_len (h.nowT x hx); omega, fun x hx => by have := txtOk_len (h.sureT x hx); omega⟩
def txtsAt (s : StoreT) (i : Nat) : Bool := txtOk (s.now.getD i []) && txtOk (s.sure.getD i [])
theorem all3 {α : Type} (p : α → Bool) (d : α) {xs : List α} (h : xs.length = 3) : xs.all p = allTo (fun i => p (xs.getD i d)) 3 0 := by
  rw [list3 d h]
  simp [allTo]
theorem storeOk_I (s : StoreT) : storeOk s = (eqI s.now.length 3 && (eqI s.sure.length 3 && (eqI s.last.length 3 && (eqI s.slast.length 3 && (eqI s.floors.length 3 && (allTo (txtsAt s) 3 0 && allTo (numsOk s) 3 0)))))) := by
  by_cases h1 : s.now.length = 3
  · by_cases h2 : s.sure.length = 3
    · have e : allTo (txtsAt s) 3 0 = (s.now.all txtOk && s.sure.all txtOk) := by
        rw [all3 txtOk [] h1, all3 txtOk [] h2]
        rw [Bool.eq_iff_iff]
        simp only [Bool.and_eq_true, allTo_iff, txtsAt]
        exact ⟨fun h => ⟨fun j a b => (h j a b).1, fun j a b => (h j a b).2⟩, fun h j a b => ⟨h.1 j a b, h.2 j a b⟩⟩
      have e1 : eqI s.now.length 3 = true := eqI3.2 h1
      have e2 : eqI s.sure.length 3 = true := eqI3.2 h2
      rw [e, storeOk, textsOk, textsOk, e1, e2]
      generalize s.now.all txtOk = a1
      generalize s.sure.all txtOk = a2
      generalize allTo (numsOk s) 3 0 = a3
      generalize eqI s.last.length 3 = a4
      generalize eqI s.slast.length 3 = a5
      generalize eqI s.floors.length 3 = a6
      revert a1 a2 a3 a4 a5 a6
      decide
    · have e2 : eqI s.sure.length 3 = false := by rw [← Bool.not_eq_true, eqI3]; exact h2
      simp [storeOk, textsOk, e2]
  · have e2 : eqI s.now.length 3 = false := by rw [← Bool.not_eq_true, eqI3]; exact h1
    simp [storeOk, textsOk, e2]
theorem getD_lt {α : Type} {xs : List α} {i : Nat} (d : α) (h : i < xs.length) : xs.getD i d = xs[i] := by
  rw [List.getD_eq_getElem?_getD, List.getElem?_eq_getElem h]; rfl
theorem lp_iStoreOk0 (m : M) (hm : m.isOwn = false) (s : StoreT) (b : StoreC s) (h1 : s.now.length = 3) (h2 : s.sure.length = 3) (a : Code) (ha : a = lp Tryz.f30 0) : ∀ (n i : Nat), i + n = 3 →
    loopC E (ev E) 30 a { V := [(1, adc 1), (33, vi i)], H := [bxm (.c 1) m (storeL s)], ps := [] } =
      if allTo (txtsAt s) n i = true then some (.exit 0, { V := [(1, adc 1), (33, vi 3), (34, vb false)], H := [bxm (.c 1) m (storeL s)], ps := [] })
      else some (.ret, { V := [(2, vb false)], H := [], ps := [] })
  | 0, i, h => by
    rw [loopC_of _ _ _ _ ha]
    obtain rfl : i = 3 := by omega
    simp [lp, loopsOf, Tryz.f30, allTo, hm]
  | n + 1, i, h => by
    have hI : (i : Int) < 3 := by omega
    have hn : i < s.now.length := by omega
    have hs : i < s.sure.length := by omega
    have ih := lp_iStoreOk0 m hm s b h1 h2 a ha n (i + 1) (by omega)
    push_cast at ih
    have hw := wrapN i (by omega)
    have c1 : ∀ m, ev E 70 [.v m false [.str s.now[i]]] = some (rB (txtOk s.now[i])) := fun m => ev_impl_TextOk m _ (by have := b.nowT _ (List.getElem_mem hn); omega)
    have c2 : ∀ m, ev E 70 [.v m false [.str s.sure[i]]] = some (rB (txtOk s.sure[i])) := fun m => ev_impl_TextOk m _ (by have := b.sureT _ (List.getElem_mem hs); omega)
    rw [loopC_of _ _ _ _ ha, allTo]
    have hg : txtsAt s i = (txtOk s.now[i] && txtOk s.sure[i]) := by rw [txtsAt, getD_lt _ hn, getD_lt _ hs]
    rw [hg]
    clear ha hg
    generalize allTo (txtsAt s) n (i + 1) = r at ih ⊢
    cases e1 : txtOk s.now[i]
    · simp [lp, loopsOf, Tryz.f30, hI, hn, hs, hw, hm, c1, c2, e1]
    · cases e2 : txtOk s.sure[i] <;> simp [lp, loopsOf, Tryz.f30, hI, hn, hs, hw, hm, c1, c2, e1, e2, ih]
theorem lp_iStoreOk1 (m : M) (hm : m.isOwn = false) (s : StoreT) (h1 : s.last.length = 3) (h2 : s.slast.length = 3) (h3 : s.floors.length = 3) (a : Code) (ha : a = lp Tryz.f30 1) : ∀ (n i : Nat), i + n = 3 →
    loopC E (ev E) 30 a { V := [(1, adc 1), (53, vi i)], H := [bxm (.c 1) m (storeL s)], ps := [] } =
      if allTo (numsOk s) n i = true then some (.exit 2, { V := [(1, adc 1), (53, vi 3), (54, vb false)], H := [bxm (.c 1) m (storeL s)], ps := [] })
      else some (.ret, { V := [(2, vb false)], H := [], ps := [] })
  | 0, i, h => by
    rw [loopC_of _ _ _ _ ha]
    obtain rfl : i = 3 := by omega
    simp [lp, loopsOf, Tryz.f30, allTo, hm]
  | n + 1, i, h => by
    have hI : (i : Int) < 3 := by omega
    have hl : i < s.last.length := by omega
    have hs : i < s.slast.length := by omega
    have hf : i < s.floors.length := by omega
    have ih := lp_iStoreOk1 m hm s h1 h2 h3 a ha n (i + 1) (by omega)
    push_cast at ih
    have hw := wrapN i (by omega)
    rw [loopC_of _ _ _ _ ha, allTo]
    rw [numsOk, getD_lt _ hl, getD_lt _ hs, getD_lt _ hf]
    clear ha
    generalize allTo (numsOk s) n (i + 1) = r at ih ⊢
    cases e1 : ltI s.slast[i] 0
    · cases e2 : ltI s.last[i] s.slast[i]
      · cases e3 : ltI 1000 s.last[i]
        · cases e4 : ltI s.floors[i] 0
          · cases e5 : ltI 100 s.floors[i] <;> simp [lp, loopsOf, Tryz.f30, hI, hl, hs, hf, hw, hm, e1, e2, e3, e4, e5, ih]
          · simp [lp, loopsOf, Tryz.f30, hI, hl, hs, hf, hw, hm, e1, e2, e3, e4]
        · simp [lp, loopsOf, Tryz.f30, hI, hl, hs, hf, hw, hm, e1, e2, e3]
      · simp [lp, loopsOf, Tryz.f30, hI, hl, hs, hf, hw, hm, e1, e2]
    · simp [lp, loopsOf, Tryz.f30, hI, hl, hs, hf, hw, hm, e1]
theorem ev_impl_StoreOk (m : M) (hm : m.isOwn = false) (s : StoreT) (b : StoreC s) : ev E 30 [.v m true (storeL s)] = some (rB (storeOk s)) := by
  rw [storeOk_I]
  rw [ev_fn Tryz.f30 rfl Tryz.func30 rfl rfl rfl (Nat.le_of_ble_eq_true rfl)]
  cases e1 : eqI s.now.length 3
  · simp [e1, hm]
  · cases e2 : eqI s.sure.length 3
    · simp [e1, e2, hm]
    · cases e3 : eqI s.last.length 3
      · simp [e1, e2, e3, hm]
      · cases e4 : eqI s.slast.length 3
        · simp [e1, e2, e3, e4, hm]
        · cases e5 : eqI s.floors.length 3
          · simp [e1, e2, e3, e4, e5, hm]
          · have l0 := lp_iStoreOk0 m hm s b (eqI3.1 e1) (eqI3.1 e2) _ rfl 3 0 (by omega)
            have l1 := lp_iStoreOk1 m hm s (eqI3.1 e3) (eqI3.1 e4) (eqI3.1 e5) _ rfl 3 0 (by omega)
            push_cast at l0 l1
            simp [e1, e2, e3, e4, e5, hm]
            rw [loopC_at ?_ l0]
            · cases e6 : allTo (txtsAt s) 3 0
              · simp
              · simp
                rw [loopC_at ?_ l1]
                · cases e7 : allTo (numsOk s) 3 0 <;> simp
                · rfl
            · rfl
theorem len_i (xs : List Int) : (intsL xs).length = xs.length := by simp
theorem ev_CloneI (m : M) (xs : List (Int)) (hb : xs.length ≤ 4000000) : ev E 78 [.v m false [.sl (xs.map (fun n : Int => [L.int .i64 n]))]] = some { rs := [.v .own false [.sl (xs.map (fun n : Int => [L.int .i64 n]))]], outs := [] } := by
  have h1 : xs.length * 8 ≤ 17592186044416 := by omega
  have h2 : xs.length ≤ 17592186044416 := by omega
  rw [ev_eq]
  simp [cloneK, h1, h2]
theorem ev_CloneS (m : M) (xs : List (Bs)) (hb : xs.length ≤ 4000000) : ev E 77 [.v m false [.sl (xs.map (fun s : Bs => [L.str s]))]] = some { rs := [.v .own false [.sl (xs.map (fun s : Bs => [L.str s]))]], outs := [] } := by
  have h1 : xs.length * 16 ≤ 17592186044416 := by omega
  have h2 : xs.length ≤ 17592186044416 := by omega
  rw [ev_eq]
  simp [cloneK, h1, h2]
theorem ev_again (m : M) (hm : m.isOwn = false) (s : StoreT) (b : StoreB s) : ev E 75 [.v m true (storeL s)] = some { rs := [.v .own true (storeL s)], outs := [] } := by
  obtain ⟨b1, b2, b3, b4, b5⟩ := b
  have c1 := fun m => ev_CloneS m s.now b1
  have c2 := fun m => ev_CloneS m s.sure b2
  have c3 := fun m => ev_CloneI m s.last b3
  have c4 := fun m => ev_CloneI m s.slast b4
  have c5 := fun m => ev_CloneI m s.floors b5
  rw [ev_fn Tryz.f75 rfl Tryz.func75 rfl rfl rfl (Nat.le_of_ble_eq_true rfl)]
  simp [hm, c1, c2, c3, c4, c5]
theorem ev_l5Copy (m : M) (hm : m.isOwn = false) (s : StoreT) (b : StoreB s) : ev E 95 [.v m true (storeL s)] = some { rs := [.v .own true (storeL s)], outs := [] } := by
  obtain ⟨b1, b2, b3, b4, b5⟩ := b
  have h1 : s.now.length * 16 ≤ 17592186044416 := by omega
  have h2 : s.now.length ≤ 17592186044416 := by omega
  have h3 : s.sure.length * 16 ≤ 17592186044416 := by omega
  have h4 : s.sure.length ≤ 17592186044416 := by omega
  have h5 : s.last.length * 8 ≤ 17592186044416 := by omega
  have h6 : s.last.length ≤ 17592186044416 := by omega
  have h7 : s.slast.length * 8 ≤ 17592186044416 := by omega
  have h8 : s.slast.length ≤ 17592186044416 := by omega
  have h9 : s.floors.length * 8 ≤ 17592186044416 := by omega
  have h10 : s.floors.length ≤ 17592186044416 := by omega
  rw [ev_fn Tryz.f95 rfl Tryz.func95 rfl rfl rfl (Nat.le_of_ble_eq_true rfl)]
  simp [hm, h1, h2, h3, h4, h5, h6, h7, h8, h9, h10]
/-! ### the reference's -/
theorem lp_l5Texts (m : M) (hm : m.isOwn = false) (xs : List Bs) (hb : xs.length ≤ 4000000) (hx : ∀ x ∈ xs, x.length ≤ 4000000) (a : Code) (ha : a = lp Tryz.f89 0) : ∀ (n i : Nat), i + n = xs.length →
    loopC E (ev E) 89 a { V := [(0, .v m false [.sl (strsL xs)]), (3, vi i)], H := [], ps := [] } =
      if (xs.drop i).all txtOk = true then some (.exit 0, { V := [(0, .v m false [.sl (strsL xs)]), (3, vi xs.length), (7, vb false)], H := [], ps := [] })
      else some (.ret, { V := [(2, vb false)], H := [], ps := [] })
  | 0, i, h => by
    rw [loopC_of _ _ _ _ ha]
    obtain rfl : i = xs.length := by omega
    simp [lp, loopsOf, Tryz.f89]
  | n + 1, i, h => by
    have hlt : i < xs.length := by omega
    have ih := lp_l5Texts m hm xs hb hx a ha n (i + 1) (by omega)
    push_cast at ih
    have hw := wrapN i (by omega)
    have c1 : ∀ m, ev E 92 [.v m false [.str xs[i]]] = some (rB (txtOk xs[i])) := fun m => ev_spec_TextOk m _ (by have := hx _ (List.getElem_mem hlt); omega)
    rw [loopC_of _ _ _ _ ha, List.drop_eq_getElem_cons hlt, List.all_cons]
    clear ha
    generalize (xs.drop (i + 1)).all txtOk = r at ih ⊢
    cases e1 : txtOk xs[i] <;> simp [lp, loopsOf, Tryz.f89, hlt, hw, hm, c1, e1, ih]
theorem ev_l5Texts (m : M) (hm : m.isOwn = false) (xs : List Bs) (hb : xs.length ≤ 4000000) (hx : ∀ x ∈ xs, x.length ≤ 4000000) : ev E 89 [.v m false [.sl (strsL xs)]] = some (rB (textsOk xs)) := by
  have l0 := fun a ha => lp_l5Texts m hm xs hb hx a ha xs.length 0 (by omega)
  push_cast at l0
  simp only [List.drop_zero] at l0
  rw [ev_fn Tryz.f89 rfl Tryz.func89 rfl rfl rfl (Nat.le_of_ble_eq_true rfl)]
  rw [textsOk]
  generalize xs.all txtOk = r at l0 ⊢
  simp
  rw [l0 _ ?_]
  · cases r <;> simp
  · rfl
theorem lp_sStoreOk (m : M) (hm : m.isOwn = false) (s : StoreT) (h1 : s.last.length = 3) (h2 : s.slast.length = 3) (h3 : s.floors.length = 3) (a : Code) (ha : a = lp Tryz.f54 0) : ∀ (n i : Nat), i + n = 3 →
    loopC E (ev E) 54 a { V := [(1, adc 1), (3, vi i)], H := [bxm (.c 1) m (storeL s)], ps := [] } =
      if allTo (numsOk s) n i = true then some (.exit 0, { V := [(1, adc 1), (3, vi 3), (33, vb false)], H := [bxm (.c 1) m (storeL s)], ps := [] })
      else some (.ret, { V := [(2, vb false)], H := [], ps := [] })
  | 0, i, h => by
    rw [loopC_of _ _ _ _ ha]
    obtain rfl : i = 3 := by omega
    simp [lp, loopsOf, Tryz.f54, allTo, hm]
  | n + 1, i, h => by
    have hI : (i : Int) < 3 := by omega
    have hl : i < s.last.length := by omega
    have hs : i < s.slast.length := by omega
    have hf : i < s.floors.length := by omega
    have ih := lp_sStoreOk m hm s h1 h2 h3 a ha n (i + 1) (by omega)
    push_cast at ih
    have hw := wrapN i (by omega)
    rw [loopC_of _ _ _ _ ha, allTo]
    rw [numsOk, getD_lt _ hl, getD_lt _ hs, getD_lt _ hf]
    clear ha
    generalize allTo (numsOk s) n (i + 1) = r at ih ⊢
    cases e1 : ltI s.slast[i] 0
    · cases e2 : ltI s.last[i] s.slast[i]
      · cases e3 : ltI 1000 s.last[i]
        · cases e4 : ltI s.floors[i] 0
          · cases e5 : ltI 100 s.floors[i] <;> simp [lp, loopsOf, Tryz.f54, hI, hl, hs, hf, hw, hm, e1, e2, e3, e4, e5, ih]
          · simp [lp, loopsOf, Tryz.f54, hI, hl, hs, hf, hw, hm, e1, e2, e3, e4]
        · simp [lp, loopsOf, Tryz.f54, hI, hl, hs, hf, hw, hm, e1, e2, e3]
      · simp [lp, loopsOf, Tryz.f54, hI, hl, hs, hf, hw, hm, e1, e2]
    · simp [lp, loopsOf, Tryz.f54, hI, hl, hs, hf, hw, hm, e1]
theorem ev_spec_StoreOk (m : M) (hm : m.isOwn = false) (s : StoreT) (b : StoreC s) : ev E 54 [.v m true (storeL s)] = some (rB (storeOk s)) := by
  have c1 := fun m hm => ev_l5Texts m hm s.now b.now b.nowT
  have c2 := fun m hm => ev_l5Texts m hm s.sure b.sure b.sureT
  rw [storeOk]
  rw [ev_fn Tryz.f54 rfl Tryz.func54 rfl rfl rfl (Nat.le_of_ble_eq_true rfl)]
  cases e1 : textsOk s.now
  · simp [c1, c2, e1, hm]
  · cases e2 : textsOk s.sure
    · simp [c1, c2, e1, e2, hm]
    · cases e3 : eqI s.last.length 3
      · simp [c1, c2, e1, e2, e3, hm]
      · cases e4 : eqI s.slast.length 3
        · simp [c1, c2, e1, e2, e3, e4, hm]
        · cases e5 : eqI s.floors.length 3
          · simp [c1, c2, e1, e2, e3, e4, e5, hm]
          · have l1 := lp_sStoreOk m hm s (eqI3.1 e3) (eqI3.1 e4) (eqI3.1 e5) _ rfl 3 0 (by omega)
            push_cast at l1
            simp [c1, c2, e1, e2, e3, e4, e5, hm]
            rw [loopC_at ?_ l1]
            · cases e7 : allTo (numsOk s) 3 0 <;> simp
            · rfl
end Go.Ev

/- Answers: requests, and what is asked for of a store. -/
set_option linter.unusedSimpArgs false
set_option linter.unusedVariables false
set_option maxRecDepth 100000
set_option maxHeartbeats 4000000
namespace Go.Ev
open Go.Proofs
def noS : StoreT := ⟨[], [], [], [], []⟩
theorem ev_impl_client (m : M) (k : Int) : ev E 82 [.v m false [.int .i64 k]] = some (rB (whoOk k)) := by
  rw [ev_fn Tryz.f82 rfl Tryz.func82 rfl rfl rfl (Nat.le_of_ble_eq_true rfl)]
  cases e1 : ltI k 0 <;> cases e2 : ltI k 3 <;> simp [whoOk, e1, e2]
theorem ev_spec_l4Who (m : M) (k : Int) : ev E 97 [.v m false [.int .i64 k]] = some (rB (whoOk k)) := by
  rw [ev_fn Tryz.f97 rfl Tryz.func97 rfl rfl rfl (Nat.le_of_ble_eq_true rfl)]
  cases e1 : ltI k 0 <;> cases e2 : ltI k 3 <;> simp [whoOk, e1, e2]
theorem ev_formed (m : M) (q : ReqT) (hq : q.data.length ≤ 4000000) : ev E 38 [.v m true (reqL q)] = some (rB (reqOk q)) := by
  have c1 := fun m m' m'' => ev_impl_TextWrite m m' m'' [] q.data q.pos (by simp) hq
  have c2 := fun m => ev_impl_client m q.who
  have h2 : (twS [] q.pos q.data).2 = wrOk q.pos q.data := by
    have : txtOk [] = true := by decide
    unfold twS
    rw [if_pos this]
    cases wrOk q.pos q.data <;> rfl
  rw [h2] at c1
  rw [reqOk]
  generalize (twS [] q.pos q.data).1 = z at c1
  generalize wrOk q.pos q.data = e8 at *
  rw [ev_fn Tryz.f38 rfl Tryz.func38 rfl rfl rfl (Nat.le_of_ble_eq_true rfl)]
  cases e1 : whoOk q.who
  · simp [c1, c2, e1]
  · cases e2 : ltI q.epoch 0
    · cases e3 : ltI 100 q.epoch
      · cases e4 : ltI q.num 1
        · cases e5 : ltI 1000 q.num
          · cases e6 : ltI q.obj 0
            · cases e7 : ltI q.obj 3 <;> simp [c1, c2, e1, e2, e3, e4, e5, e6, e7]
            · simp [c1, c2, e1, e2, e3, e4, e5, e6]
          · simp [c1, c2, e1, e2, e3, e4, e5]
        · simp [c1, c2, e1, e2, e3, e4]
      · simp [c1, c2, e1, e2, e3]
    · simp [c1, c2, e1, e2]
theorem ev_l5Req (m : M) (q : ReqT) (hq : q.data.length ≤ 4000000) : ev E 61 [.v m true (reqL q)] = some (rB (reqOk q)) := by
  have c1 : ∀ m, ev E 92 [.v m false [.str q.data]] = some (rB (txtOk q.data)) := fun m => ev_spec_TextOk m q.data (by omega)
  have c2 := fun m => ev_spec_l4Who m q.who
  have hwr : wrOk q.pos q.data = (!ltI q.pos 0 && !ltI 48 q.pos && txtOk q.data && !eqS q.data [] && !ltI 48 (q.pos + q.data.length)) := rfl
  have hw : ltI q.pos 0 = false → ltI 48 q.pos = false → IntKind.i64.wrap (q.pos + q.data.length) = q.pos + q.data.length := fun a b => by
    rw [ltI_not] at a b
    rw [wrap64]; omega
  rw [reqOk, hwr]
  rw [ev_fn Tryz.f61 rfl Tryz.func61 rfl rfl rfl (Nat.le_of_ble_eq_true rfl)]
  cases e1 : whoOk q.who
  · simp [c1, c2, hw, e1]
  · cases e2 : ltI q.epoch 0
    · cases e3 : ltI 100 q.epoch
      · cases e4 : ltI q.num 1
        · cases e5 : ltI 1000 q.num
          · cases e6 : ltI q.obj 0
            · cases e7 : ltI q.obj 3
              · simp [c1, c2, hw, e1, e2, e3, e4, e5, e6, e7]
              · cases e8 : ltI q.pos 0
                · cases e9 : ltI 48 q.pos
                  · cases e10 : txtOk q.data
                    · simp [c1, c2, hw, e1, e2, e3, e4, e5, e6, e7, e8, e9, e10]
                    · cases e11 : eqS q.data []
                      · cases e12 : ltI 48 (q.pos + q.data.length) <;> simp [c1, c2, hw, e1, e2, e3, e4, e5, e6, e7, e8, e9, e10, e11, e12]
                      · simp [c1, c2, hw, e1, e2, e3, e4, e5, e6, e7, e8, e9, e10, e11]
                  · simp [c1, c2, hw, e1, e2, e3, e4, e5, e6, e7, e8, e9]
                · simp [c1, c2, hw, e1, e2, e3, e4, e5, e6, e7, e8]
            · simp [c1, c2, hw, e1, e2, e3, e4, e5, e6]
          · simp [c1, c2, hw, e1, e2, e3, e4, e5]
        · simp [c1, c2, hw, e1, e2, e3, e4]
      · simp [c1, c2, hw, e1, e2, e3]
    · simp [c1, c2, hw, e1, e2]
theorem ev_l2Write (m m' m'' : M) (s x : List UInt8) (k : Nat) (hk : k ≤ 4000000) (hs : s.length ≤ 4000000) (hx : x.length ≤ 4000000) : ev E 115 [.v m false [.str s], .v m' false [.int .i64 k], .v m'' false [.str x]] = some { rs := [.v .own false [.str (wrS s k x)]], outs := [] } := by
  have c1 := fun m m' => ev_l2Long m m' s k hk hs
  have hw : wrS s k x = (s ++ List.replicate (k - s.length) 46).take k ++ x ++ (s ++ List.replicate (k - s.length) 46).drop (min (s ++ List.replicate (k - s.length) 46).length (k + x.length)) := by
    unfold wrS
    congr 1
    simp only [List.drop_append, List.length_append, List.length_replicate]
    by_cases h : k ≤ s.length
    · simp [Nat.sub_eq_zero_of_le h]
      omega
    · rw [List.drop_of_length_le (by omega), List.drop_of_length_le (by omega)]
      simp
      omega
  rw [hw]
  have hl : (s ++ List.replicate (k - s.length) 46).length ≤ 8000000 ∧ k ≤ (s ++ List.replicate (k - s.length) 46).length := by simp; omega
  generalize s ++ List.replicate (k - s.length) 46 = z at *
  have hmi : minI (z.length : Int) ((k : Int) + x.length) = ((min z.length (k + x.length) : Nat) : Int) := by simp only [minI, ltI, decide_eq_true_eq]; split <;> omega
  have hwk : IntKind.i64.wrap ((k : Int) + x.length) = ((k : Int) + x.length) := by rw [wrap64]; omega
  have c2 := fun m m' => ev_spec_l1Min m m' (z.length : Int) ((k : Int) + x.length)
  rw [hmi] at c2
  have h1 : k + x.length ≤ 4611686018427387904 := by omega
  have h2 : k + (x.length + (z.length - min z.length (k + x.length))) ≤ 4611686018427387904 := by omega
  have h3 : k + x.length + (z.length - min z.length (k + x.length)) ≤ 4611686018427387904 := by omega
  have h4 : min z.length (k + x.length) ≤ z.length := by omega
  rw [ev_fn Tryz.f115 rfl Tryz.func115 rfl rfl rfl (Nat.le_of_ble_eq_true rfl)]
  simp [c1, c2, hl.2, hwk, h1, h2, h3, h4]
end Go.Ev

/- Answers: stores turned by requests. -/
set_option linter.unusedSimpArgs false
set_option linter.unusedVariables false
set_option maxRecDepth 100000
set_option maxHeartbeats 4000000
namespace Go.Ev
open Go.Proofs
theorem noS_L : storeL noS = [.sl [], .sl [], .sl [], .sl [], .sl []] := rfl
def rSt (s : StoreT) (c : Int) : Out := { rs := [.v .own true (storeL s), .v .own false [.int .i64 c]], outs := [] }
def rS1 (s : StoreT) : Out := { rs := [.v .own true (storeL s)], outs := [] }
theorem ev_impl_StoreDo (m m' : M) (hm : m.isOwn = false) (s : StoreT) (q : ReqT) (b : StoreC s) (hq : q.data.length ≤ 4000000) :
    ev E 76 [.v m true (storeL s), .v m' true (reqL q)] = some (if storeOk s = true then rSt (storeDo s q).1 (storeDo s q).2 else rSt noS 1) := by
  have c1 := fun m hm => ev_impl_StoreOk m hm s b
  have c2 := fun m hm => ev_again m hm s b.toStoreB
  have c3 := fun m => ev_formed m q hq
  rw [ev_fn Tryz.f76 rfl Tryz.func76 rfl rfl rfl (Nat.le_of_ble_eq_true rfl)]
  cases e0 : storeOk s
  · simp [c1, e0, hm, rSt, noS]
  · have P := storeOk_iff.1 e0
    cases e1 : reqOk q
    · simp [c1, c2, c3, e0, e1, hm, rSt, storeDo]
    · obtain ⟨hw1, hw2, hw3, hw4, hw5⟩ := reqOk_iff.1 e1
      obtain ⟨who, epoch, num, obj, pos, data⟩ := q
      dsimp only at *
      obtain ⟨i, rfl⟩ : ∃ i : Nat, who = i := ⟨who.toNat, by omega⟩
      obtain ⟨k, rfl⟩ : ∃ k : Nat, obj = k := ⟨obj.toNat, by omega⟩
      have hi : i < 3 := by omega
      have hf : i < s.floors.length := by have := P.floors; omega
      have hl : i < s.last.length := by have := P.last; omega
      have hk : k < s.now.length := by have := P.now; omega
      have hn := P.nums i hi
      have hwl : IntKind.i64.wrap (s.last[i] + 1) = s.last[i] + 1 := by rw [getD_lt _ hl] at hn; rw [wrap64]; omega
      have ht := P.nowT _ (List.getElem_mem hk)
      have c4 := fun m m' m'' => ev_impl_TextWrite m m' m'' s.now[k] data pos (by have := txtOk_len ht; omega) hq
      rw [twS_of ht hw5] at c4
      rw [storeDo, if_pos e1]
      dsimp only
      rw [Int.toNat_natCast, Int.toNat_natCast, getD_lt _ hf, getD_lt _ hl, getD_lt _ hk]
      cases e2 : ltI epoch s.floors[i]
      · cases e3 : ltI s.last[i] num
        · simp [c1, c2, c3, e0, e1, e2, e3, hm, rSt, hf, hl, hk]
        · cases e4 : ltI (s.last[i] + 1) num
          · simp [c1, c2, c3, c4, e0, e1, e2, e3, e4, hm, rSt, hf, hl, hk, hwl, List.map_set]
          · simp [c1, c2, c3, c4, e0, e1, e2, e3, e4, hm, rSt, hf, hl, hk, hwl]
      · simp [c1, c2, c3, e0, e1, e2, hm, rSt, hf, hl, hk]
theorem ev_l5Do (m' : M) (s : StoreT) (q : ReqT) (P : StoreP s) (hq : q.data.length ≤ 4000000) :
    ev E 96 [.own true (storeL s), .v m' true (reqL q)] = some (rSt (storeDo s q).1 (storeDo s q).2) := by
  have c3 := fun m => ev_l5Req m q hq
  rw [ev_fn Tryz.f96 rfl Tryz.func96 rfl rfl rfl (Nat.le_of_ble_eq_true rfl)]
  cases e1 : reqOk q
  · simp [c3, e1, rSt, storeDo]
  · obtain ⟨hw1, hw2, hw3, hw4, hw5⟩ := reqOk_iff.1 e1
    obtain ⟨who, epoch, num, obj, pos, data⟩ := q
    dsimp only at *
    obtain ⟨i, rfl⟩ : ∃ i : Nat, who = i := ⟨who.toNat, by omega⟩
    obtain ⟨k, rfl⟩ : ∃ k : Nat, obj = k := ⟨obj.toNat, by omega⟩
    obtain ⟨p, rfl⟩ : ∃ p : Nat, pos = p := ⟨pos.toNat, by have := wrOk_len hw5; omega⟩
    have hi : i < 3 := by omega
    have hf : i < s.floors.length := by have := P.floors; omega
    have hl : i < s.last.length := by have := P.last; omega
    have hk : k < s.now.length := by have := P.now; omega
    have hn := P.nums i hi
    have hwl : IntKind.i64.wrap (s.last[i] + 1) = s.last[i] + 1 := by rw [getD_lt _ hl] at hn; rw [wrap64]; omega
    have ht := P.nowT _ (List.getElem_mem hk)
    have c4 := fun m m' m'' => ev_l2Write m m' m'' s.now[k] data p (by have := wrOk_len hw5; omega) (by have := txtOk_len ht; omega) hq
    rw [storeDo, if_pos e1]
    dsimp only
    rw [Int.toNat_natCast, Int.toNat_natCast, Int.toNat_natCast, getD_lt _ hf, getD_lt _ hl, getD_lt _ hk]
    cases e2 : ltI epoch s.floors[i]
    · cases e3 : ltI s.last[i] num
      · simp [c3, e1, e2, e3, rSt, hf, hl, hk]
      · cases e4 : ltI (s.last[i] + 1) num
        · simp [c3, c4, e1, e2, e3, e4, rSt, hf, hl, hk, hwl, List.map_set]
        · simp [c3, c4, e1, e2, e3, e4, rSt, hf, hl, hk, hwl]
    · simp [c3, e1, e2, rSt, hf, hl, hk]
theorem lp_iStoreAll (m : M) (hm : m.isOwn = false) (qs : List ReqT) (hb : qs.length ≤ 4000000) (hq : ∀ q ∈ qs, q.data.length ≤ 4000000) (a : Code) (ha : a = lp Tryz.f35 0) : ∀ (n i : Nat) (s : StoreT) (cs : List Int), i + n = qs.length → cs.length = i → StoreP s →
    loopC E (ev E) 35 a { V := [(2, adc 2), (4, adc 4), (6, at1 6), (18, .v m false [.sl (qs.map reqL)]), (19, vi qs.length), (20, vi i)], H := [bx (.c 2) (storeL s), bx (.c 4) (storeL noS), ow (.c 6) [.sl (intsL cs)]], ps := [] } =
      some (.exit 0, { V := [(2, adc 2), (4, adc 4), (6, at1 6), (18, .v m false [.sl (qs.map reqL)]), (19, vi qs.length), (20, vi qs.length), (21, vb false)], H := [bx (.c 2) (storeL (storeAll s (qs.drop i)).1), bx (.c 4) (storeL noS), ow (.c 6) [.sl (intsL (cs ++ (storeAll s (qs.drop i)).2))]], ps := [] })
  | 0, i, s, cs, h, hc, P => by
    rw [loopC_of _ _ _ _ ha]
    obtain rfl : i = qs.length := by omega
    simp [lp, loopsOf, Tryz.f35, storeAll, noS]
  | n + 1, i, s, cs, h, hc, P => by
    have hlt : i < qs.length := by omega
    have hw := wrapN i (by omega)
    have ih := lp_iStoreAll m hm qs hb hq a ha n (i + 1) (storeDo s qs[i]).1 (cs ++ [(storeDo s qs[i]).2]) (by omega) (by simp; omega) (storeDo_ok _ P)
    push_cast at ih
    have c1 := fun m m' hm => ev_impl_StoreDo m m' hm s qs[i] P.bd (hq _ (List.getElem_mem hlt))
    simp only [storeOk_iff.2 P, if_true, rSt] at c1
    have h1 : (cs.length + 1) * 8 ≤ 17592186044416 := by omega
    have h2 : cs.length + 1 ≤ 17592186044416 := by omega
    rw [loopC_of _ _ _ _ ha, List.drop_eq_getElem_cons hlt, storeAll]
    clear ha
    generalize storeDo s qs[i] = r at c1 ih ⊢
    simp [lp, loopsOf, Tryz.f35, hlt, hw, c1, h1, h2, noS]
    simpa [noS] using ih
def rStA (s : StoreT) (cs : List Int) : Out := { rs := [.v .own true (storeL s), .v .own false [.sl (intsL cs)]], outs := [] }
theorem ev_impl_StoreAll (m m' : M) (hm : m.isOwn = false) (hm' : m'.isOwn = false) (s : StoreT) (qs : List ReqT) (b : StoreC s) (hb : qs.length ≤ 4000000) (hq : ∀ q ∈ qs, q.data.length ≤ 4000000) :
    ev E 35 [.v m true (storeL s), .v m' false [.sl (qs.map reqL)]] = some (if storeOk s = true then rStA (storeAll s qs).1 (storeAll s qs).2 else rStA noS []) := by
  have c1 := fun m hm => ev_impl_StoreOk m hm s b
  have c2 := fun m hm => ev_again m hm s b.toStoreB
  rw [ev_fn Tryz.f35 rfl Tryz.func35 rfl rfl rfl (Nat.le_of_ble_eq_true rfl)]
  cases e0 : storeOk s
  · simp [c1, e0, hm, rStA, noS]
  · have l0 := lp_iStoreAll m' hm' qs hb hq _ rfl qs.length 0 s [] (by omega) rfl (storeOk_iff.1 e0)
    push_cast at l0
    simp [c1, c2, e0, hm]
    simp only [List.drop_zero, List.nil_append] at l0
    rw [noS_L, show intsL [] = [] from rfl] at l0
    rw [loopC_at ?_ l0]
    · simp [rStA]
    · rfl
theorem lp_sStoreAll (m : M) (hm : m.isOwn = false) (qs : List ReqT) (hb : qs.length ≤ 4000000) (hq : ∀ q ∈ qs, q.data.length ≤ 4000000) (a : Code) (ha : a = lp Tryz.f59 0) : ∀ (n i : Nat) (s : StoreT) (cs : List Int), i + n = qs.length → cs.length = i → StoreP s →
    loopC E (ev E) 59 a { V := [(1, .v m false [.sl (qs.map reqL)]), (4, adc 4), (6, at1 6), (7, adc 7), (8, vi i)], H := [bx (.c 4) (storeL noS), ow (.c 6) [.sl (intsL cs)], bx (.c 7) (storeL s)], ps := [] } =
      some (.exit 0, { V := [(1, .v m false [.sl (qs.map reqL)]), (4, adc 4), (6, at1 6), (7, adc 7), (8, vi qs.length), (21, vb false)], H := [bx (.c 4) (storeL noS), ow (.c 6) [.sl (intsL (cs ++ (storeAll s (qs.drop i)).2))], bx (.c 7) (storeL (storeAll s (qs.drop i)).1)], ps := [] })
  | 0, i, s, cs, h, hc, P => by
    rw [loopC_of _ _ _ _ ha]
    obtain rfl : i = qs.length := by omega
    simp [lp, loopsOf, Tryz.f59, storeAll, noS]
  | n + 1, i, s, cs, h, hc, P => by
    have hlt : i < qs.length := by omega
    have hw := wrapN i (by omega)
    have ih := lp_sStoreAll m hm qs hb hq a ha n (i + 1) (storeDo s qs[i]).1 (cs ++ [(storeDo s qs[i]).2]) (by omega) (by simp; omega) (storeDo_ok _ P)
    push_cast at ih
    have c1 := fun m' => ev_l5Do m' s qs[i] P (hq _ (List.getElem_mem hlt))
    simp only [rSt] at c1
    have h1 : (cs.length + 1) * 8 ≤ 17592186044416 := by omega
    have h2 : cs.length + 1 ≤ 17592186044416 := by omega
    rw [loopC_of _ _ _ _ ha, List.drop_eq_getElem_cons hlt, storeAll]
    clear ha
    generalize storeDo s qs[i] = r at c1 ih ⊢
    simp [lp, loopsOf, Tryz.f59, hlt, hw, c1, h1, h2, noS]
    simpa [noS] using ih
theorem ev_spec_StoreAll (m m' : M) (hm : m.isOwn = false) (hm' : m'.isOwn = false) (s : StoreT) (qs : List ReqT) (b : StoreC s) (hb : qs.length ≤ 4000000) (hq : ∀ q ∈ qs, q.data.length ≤ 4000000) :
    ev E 59 [.v m true (storeL s), .v m' false [.sl (qs.map reqL)]] = some (if storeOk s = true then rStA (storeAll s qs).1 (storeAll s qs).2 else rStA noS []) := by
  have c1 := fun m hm => ev_spec_StoreOk m hm s b
  have c2 := fun m hm => ev_l5Copy m hm s b.toStoreB
  rw [ev_fn Tryz.f59 rfl Tryz.func59 rfl rfl rfl (Nat.le_of_ble_eq_true rfl)]
  cases e0 : storeOk s
  · simp [c1, e0, hm, rStA, noS]
  · have l0 := lp_sStoreAll m' hm' qs hb hq _ rfl qs.length 0 s [] (by omega) rfl (storeOk_iff.1 e0)
    push_cast at l0
    simp [c1, c2, e0, hm]
    simp only [List.drop_zero, List.nil_append] at l0
    rw [noS_L, show intsL [] = [] from rfl] at l0
    rw [loopC_at ?_ l0]
    · simp [rStA]
    · rfl
theorem ev_impl_StoreFall (m : M) (hm : m.isOwn = false) (s : StoreT) (b : StoreC s) : ev E 36 [.v m true (storeL s)] = some (if storeOk s = true then rS1 (storeFall s) else rS1 noS) := by
  have c1 := fun m hm => ev_impl_StoreOk m hm s b
  have c2 := fun m hm => ev_again m hm s b.toStoreB
  have c3 := fun m => ev_CloneS m s.sure b.sure
  have c4 := fun m => ev_CloneI m s.slast b.slast
  rw [ev_fn Tryz.f36 rfl Tryz.func36 rfl rfl rfl (Nat.le_of_ble_eq_true rfl)]
  cases e0 : storeOk s
  · simp [c1, e0, hm, rS1, noS]
  · simp [c1, c2, c3, c4, e0, hm, rS1, storeFall]
theorem ev_spec_StoreFall (m : M) (hm : m.isOwn = false) (s : StoreT) (b : StoreC s) : ev E 60 [.v m true (storeL s)] = some (if storeOk s = true then rS1 (storeFall s) else rS1 noS) := by
  have c1 := fun m hm => ev_spec_StoreOk m hm s b
  have c2 := fun m hm => ev_l5Copy m hm s b.toStoreB
  have b1 := b.sure
  have b2 := b.slast
  have h1 : s.sure.length * 16 ≤ 17592186044416 := by omega
  have h2 : s.sure.length ≤ 17592186044416 := by omega
  have h3 : s.slast.length * 8 ≤ 17592186044416 := by omega
  have h4 : s.slast.length ≤ 17592186044416 := by omega
  rw [ev_fn Tryz.f60 rfl Tryz.func60 rfl rfl rfl (Nat.le_of_ble_eq_true rfl)]
  cases e0 : storeOk s
  · simp [c1, e0, hm, rS1, noS]
  · simp [c1, c2, h1, h2, h3, h4, e0, hm, rS1, storeFall]
def rStB (s : StoreT) (c : Bool) : Out := { rs := [.v .own true (storeL s), .v .own false [.bool c]], outs := [] }
def fenceOk (who e : Int) : Bool := whoOk who && (!ltI e 0 && !ltI 100 e)
def fenceT (s : StoreT) (who e : Int) : Out := if fenceOk who e = true then rStB (storeFence s who.toNat e) true else rStB s false
end Go.Ev

/- Answers: the program's locks, asked. -/
set_option linter.unusedSimpArgs false
set_option linter.unusedVariables false
set_option maxRecDepth 100000
set_option maxHeartbeats 4000000
namespace Go.Ev
open Go.Proofs
theorem one_in (s : Sp) (j : Nat) : inF [s] j = inSp j s := by simp [inF]
theorem of_sps (m : M) {xs : List Sp} (h : spsOk xs = true) : ev E 40 [.v m false [.sl (xs.map spL)]] = some { rs := [.v .own true (pl (inF xs))], outs := [] } :=
  ev_impl_of m xs (by have := spsOk_len h; omega) fun s hs => by have := spsOk_sp h s hs; omega
theorem of_one (m : M) {s : Sp} (h : spOk s = true) : ev E 40 [.v m false [.sl [spL s]]] = some { rs := [.v .own true (pl (inF [s]))], outs := [] } :=
  ev_impl_of m [s] (by simp) fun p hp => by simp only [List.mem_singleton] at hp; subst hp; have := spOk_iff.1 h; omega
theorem put_or (m m' m'' : M) (f g : Nat → Bool) : ev E 41 [.v m true (pl f), .v m' true (pl g), .v m'' false [.bool true]] = some { rs := [.v .own true (pl (orP f g))], outs := [] } := ev_put m m' m'' f g true
abbrev andP (f g : Nat → Bool) : Nat → Bool := fun j => f j && g j
theorem lp_iLockOk (m : M) (hm : m.isOwn = false) (t : List HoldT) (hb : t.length ≤ 4000000) (hk : ∀ h ∈ t, holdB h) (a : Code) (ha : a = lp Tryz.f31 0) : ∀ (n i : Nat) (f g : Nat → Bool), i + n = t.length →
    ∃ f' g', loopC E (ev E) 31 a { V := [(3, adc 3), (4, adc 4), (13, .v m false [.sl (t.map holdL)]), (14, vi t.length), (15, vi i)], H := [bx (.c 3) (pl f), bx (.c 4) (pl g)], ps := [] } =
      if lockI f g (t.drop i) = true then some (.exit 0, { V := [(3, adc 3), (4, adc 4), (13, .v m false [.sl (t.map holdL)]), (14, vi t.length), (15, vi t.length), (16, vb false)], H := [bx (.c 3) (pl f'), bx (.c 4) (pl g')], ps := [] })
      else some (.ret, { V := [(2, vb false)], H := [], ps := [] })
  | 0, i, f, g, h => by
    refine ⟨f, g, ?_⟩
    rw [loopC_of _ _ _ _ ha]
    obtain rfl : i = t.length := by omega
    simp [-shapeT, lp, loopsOf, Tryz.f31, lockI]
  | n + 1, i, f, g, h => by
    have hlt : i < t.length := by omega
    have hw := wrapN i (by omega)
    obtain ⟨f', g', ih⟩ := lp_iLockOk m hm t hb hk a ha n (i + 1) (orP (orP f (inF t[i].w)) (inF t[i].r)) (orP g (inF t[i].w)) (by omega)
    refine ⟨f', g', ?_⟩
    push_cast at ih
    have hB := hk _ (List.getElem_mem hlt)
    have c1 := fun m => ev_impl_SpansOk m t[i].r (by have := hB.1; omega)
    have c2 := fun m => ev_impl_SpansOk m t[i].w (by have := hB.2; omega)
    rw [loopC_of _ _ _ _ ha, List.drop_eq_getElem_cons hlt, lockI]
    clear ha
    generalize lockI (orP (orP f (inF t[i].w)) (inF t[i].r)) (orP g (inF t[i].w)) (t.drop (i + 1)) = r at ih ⊢
    cases e1 : spsOk t[i].r
    · simp [-shapeT, lp, loopsOf, Tryz.f31, hlt, hw, hm, c1, c2, e1]
    · cases e2 : spsOk t[i].w
      · simp [-shapeT, lp, loopsOf, Tryz.f31, hlt, hw, hm, c1, c2, e1, e2]
      · have c3 := fun m => of_sps m e1
        have c4 := fun m => of_sps m e2
        have c5 := fun m m' => ev_meet m m' (inF t[i].r) (inF t[i].w)
        have c6 := fun m m' => ev_meet m m' (inF t[i].w) f
        have c7 := fun m m' => ev_meet m m' (inF t[i].r) g
        have c8 := fun m m' m'' => put_or m m' m'' g (inF t[i].w)
        have c9 := fun m m' m'' => put_or m m' m'' f (inF t[i].w)
        have c10 := fun m m' m'' => put_or m m' m'' (orP f (inF t[i].w)) (inF t[i].r)
        have k1 : cellsEq (pl fun j => inF t[i].r j && inF t[i].w j) (pl fun _ => false) = some (noneP fun j => inF t[i].r j && inF t[i].w j) := cellsEq_pl _ _
        have k2 : cellsEq (pl fun j => inF t[i].w j && f j) (pl fun _ => false) = some (noneP fun j => inF t[i].w j && f j) := cellsEq_pl _ _
        have k3 : cellsEq (pl fun j => inF t[i].r j && g j) (pl fun _ => false) = some (noneP fun j => inF t[i].r j && g j) := cellsEq_pl _ _
        cases e3 : noneP fun j => inF t[i].r j && inF t[i].w j
        · rw [e3] at k1
          simp [-shapeT, lp, loopsOf, Tryz.f31, hlt, hw, hm, c1, c2, c3, c4, c5, e1, e2, k1, pl_ff]
        · rw [e3] at k1
          cases e4 : noneP fun j => inF t[i].w j && f j
          · rw [e4] at k2
            simp [-shapeT, lp, loopsOf, Tryz.f31, hlt, hw, hm, c1, c2, c3, c4, c5, c6, e1, e2, k1, k2, pl_ff]
          · rw [e4] at k2
            cases e5 : noneP fun j => inF t[i].r j && g j
            · rw [e5] at k3
              simp [-shapeT, lp, loopsOf, Tryz.f31, hlt, hw, hm, c1, c2, c3, c4, c5, c6, c7, e1, e2, k1, k2, k3, pl_ff]
            · rw [e5] at k3
              simp [-shapeT, lp, loopsOf, Tryz.f31, hlt, hw, hm, c1, c2, c3, c4, c5, c6, c7, c8, c9, c10, e1, e2, k1, k2, k3, pl_ff]
              simpa using ih
theorem ev_impl_LockOk (m : M) (hm : m.isOwn = false) (t : List HoldT) (hb : t.length ≤ 4000000) (hk : ∀ h ∈ t, holdB h) : ev E 31 [.v m false [.sl (t.map holdL)]] = some (rB (lockOk t)) := by
  rw [← lockI_eq, lockOkI]
  obtain ⟨f', g', l0⟩ := lp_iLockOk m hm t hb hk _ rfl t.length 0 (fun _ => false) (fun _ => false) (by omega)
  push_cast at l0
  simp only [List.drop_zero] at l0
  rw [ev_fn Tryz.f31 rfl Tryz.func31 rfl rfl rfl (Nat.le_of_ble_eq_true rfl)]
  cases e1 : eqI t.length 3
  · simp [e1]
  · simp [e1, pl_ff]
    rw [loopC_at ?_ l0]
    · cases e2 : lockI (fun _ => false) (fun _ => false) t <;> simp
    · rfl
theorem LockP.bd {t : List HoldT} (h : LockP t) : ∀ x ∈ t, holdB x := by
  have h3 := h.len
  intro x hx
  obtain ⟨i, hi, rfl⟩ := List.mem_iff_getElem.1 hx
  have h1 := spsOk_len (h.r i (by omega))
  have h2 := spsOk_len (h.w i (by omega))
  rw [getD_lt _ hi] at h1 h2
  exact ⟨by omega, by omega⟩
/-! ### may one; who is in the way -/
def mayP (h : HoldT) (write : Bool) : Nat → Bool := if write = true then inF h.w else orP (inF h.w) (inF h.r)
theorem mayP_eq {h : HoldT} {write : Bool} {s : Sp} (hs : spOk s = true) : eqP (fun j => mayP h write j && inF [s] j) (inF [s]) = lockMay h write s := by
  rw [Bool.eq_iff_iff, eqP_iff, lockMay_iff (spOk_iff.1 hs)]
  have hsp := spOk_iff.1 hs
  simp only [one_in]
  have hp : ∀ j, mayP h write j = mayAt h write j := fun j => by
    unfold mayP mayAt
    cases write
    · simp [orP_eq]
    · simp
  constructor
  · intro g j hj
    have := g j (by rw [inSp_iff] at hj; omega)
    rw [hj, Bool.and_true, hp] at this
    exact this
  · intro g j hj
    cases e : inSp j s
    · simp
    · rw [hp, g j e]; rfl
end Go.Ev

/- Answers: the program's locks: who is in the way; tables turned. -/
set_option linter.unusedSimpArgs false
set_option linter.unusedVariables false
set_option maxRecDepth 100000
set_option maxHeartbeats 4000000
namespace Go.Ev
open Go.Proofs
def barsP (h : HoldT) (write : Bool) : Nat → Bool := if write = true then orP (inF h.w) (inF h.r) else inF h.w
theorem clear_one {a : List Sp} {s : Sp} (ha : spsOk a = true) (hs : spOk s = true) : clearS a [s] = noneP (andP (inF a) (inF [s])) := by
  rw [Bool.eq_iff_iff, clearS_iff (spsOk_sp ha) (fun p hp => by simp only [List.mem_singleton] at hp; subst hp; exact spOk_iff.1 hs), apart48 ha, noneP_iff]
  simp only [Bool.and_eq_true, andP, ← Bool.not_eq_true]
theorem barsP_eq {h : HoldT} {write : Bool} {s : Sp} (hr : spsOk h.r = true) (hw : spsOk h.w = true) (hs : spOk s = true) : (!noneP (andP (barsP h write) (inF [s]))) = (!clearS h.w [s] || (write && !clearS h.r [s])) := by
  rw [clear_one hr hs, clear_one hw hs]
  have hn : ∀ f : Nat → Bool, (!noneP f) = true ↔ ∃ j, j < 48 ∧ f j = true := fun f => by
    rw [Bool.not_eq_true', ← Bool.not_eq_true, noneP_iff]
    simp only [Classical.not_forall, Bool.not_eq_false, exists_prop]
  rw [Bool.eq_iff_iff, Bool.or_eq_true, Bool.and_eq_true, hn, hn, hn]
  simp only [andP, Bool.and_eq_true]
  cases write
  · simp [barsP]
  · simp only [barsP, if_true, orP_eq, Bool.or_eq_true, true_and]
    constructor
    · rintro ⟨j, hj, h1 | h1, h2⟩
      · exact .inl ⟨j, hj, h1, h2⟩
      · exact .inr ⟨j, hj, h1, h2⟩
    · rintro (⟨j, hj, h1, h2⟩ | ⟨j, hj, h1, h2⟩)
      · exact ⟨j, hj, .inl h1, h2⟩
      · exact ⟨j, hj, .inr h1, h2⟩
def barsF (p : Nat → Bool) : Nat → Nat → List Int
  | 0, _ => []
  | n + 1, i => if p i = true then (i : Int) :: barsF p n (i + 1) else barsF p n (i + 1)
theorem barsF_eq (p : Nat → Bool) : barsF p 3 0 = ((List.range 3).filter p).map (fun k : Nat => (k : Int)) := by
  have : List.range 3 = [0, 1, 2] := rfl
  rw [this]
  simp only [barsF, List.filter_cons, List.filter_nil]
  cases p 0 <;> cases p 1 <;> cases p 2 <;> rfl
theorem barsF_len (p : Nat → Bool) : ∀ n i, (barsF p n i).length ≤ n
  | 0, i => by simp [barsF]
  | n + 1, i => by
    have := barsF_len p n (i + 1)
    simp only [barsF]
    split <;> simp <;> omega
def barsL (t : List HoldT) (who : Int) (write : Bool) (s : Sp) : List Int := (lockBars t who.toNat write s).map (fun k : Nat => (k : Int))
def barsI (t : List HoldT) (who : Int) (write : Bool) (s : Sp) : List Int := if (lockOk t && (whoOk who && spOk s)) = true then barsL t who write s else []
theorem who_nat {k : Int} (h : whoOk k = true) : ∃ i : Nat, i < 3 ∧ k = i := by
  simp only [whoOk, Bool.and_eq_true, Bool.not_eq_true', ltI_not, ltI_iff] at h
  exact ⟨k.toNat, by omega, by omega⟩
def rLk (t : List HoldT) (b : Bool) : Out := { rs := [.v .own false [.sl (t.map holdL)], .v .own false [.bool b]], outs := [] }
def turnT (t : List HoldT) (who : Int) (s : Sp) (may : Bool) (f g : Nat → Bool) : List HoldT × Bool :=
  if (whoOk who && (spOk s && may)) = true then putL t who.toNat ⟨spansF f 48 0, spansF g 48 0⟩ else (t, false)
theorem putL_or (t : List HoldT) (i : Nat) (h : HoldT) : putL t i h = if lockOk (t.set i h) = true then (t.set i h, true) else (t, false) := rfl
end Go.Ev

/- Answers: locks given, dropped, lessened, taken off: the program's. -/
set_option linter.unusedSimpArgs false
set_option linter.unusedVariables false
set_option maxRecDepth 100000
set_option maxHeartbeats 4000000
namespace Go.Ev
open Go.Proofs
def cutP (f s : Nat → Bool) : Nat → Bool := fun j => if s j = true then false else f j
theorem put_cut (m m' m'' : M) (f g : Nat → Bool) : ev E 41 [.v m true (pl f), .v m' true (pl g), .v m'' false [.bool false]] = some { rs := [.v .own true (pl (cutP f g))], outs := [] } := ev_put m m' m'' f g false
theorem meet_and (m m' : M) (f g : Nat → Bool) : ev E 72 [.v m true (pl f), .v m' true (pl g)] = some { rs := [.v .own true (pl (andP f g))], outs := [] } := ev_meet m m' f g
theorem spans_cut (xs : List Sp) (s : Sp) : spansF (cutP (inF xs) (inF [s])) 48 0 = cutS xs s := by
  unfold cutS
  exact spans_of fun j _ => by simp [cutP, inF]
theorem spans_add (xs : List Sp) (s : Sp) : spansF (orP (inF xs) (inF [s])) 48 0 = addS xs s := by
  unfold addS
  exact spans_of fun j _ => by simp [orP, inF]
theorem spans_self {xs : List Sp} (h : spsOk xs = true) : spansF (inF xs) 48 0 = xs := by
  rw [spans_of (g := inF xs) (fun j _ => rfl)]
  exact of_self h fun j _ => rfl
theorem turn_drop (t : List HoldT) (who : Int) (s : Sp) : turnT t who s true (cutP (inF (t.getD who.toNat noH).r) (inF [s])) (cutP (inF (t.getD who.toNat noH).w) (inF [s])) = if (whoOk who && spOk s) = true then lockDrop t who.toNat s else (t, false) := by
  simp only [turnT, spans_cut, Bool.and_true, lockDrop]
theorem turn_down (t : List HoldT) (who : Int) (s : Sp) : turnT t who s true (orP (inF (t.getD who.toNat noH).r) (andP (inF [s]) (inF (t.getD who.toNat noH).w))) (cutP (inF (t.getD who.toNat noH).w) (inF [s])) = if (whoOk who && spOk s) = true then lockDown t who.toNat s else (t, false) := by
  have : spansF (orP (inF (t.getD who.toNat noH).r) (andP (inF [s]) (inF (t.getD who.toNat noH).w))) 48 0 = ofL (fun j => inF (t.getD who.toNat noH).r j || (inSp j s && inF (t.getD who.toNat noH).w j)) 48 0 [] :=
    spans_of fun j _ => by simp only [orP_eq, andP, one_in]
  simp only [turnT, spans_cut, Bool.and_true, lockDown, this]
theorem turn_give (t : List HoldT) (P : LockP t) (who : Int) (write : Bool) (s : Sp) (may : Bool) :
    turnT t who s may (if write = true then cutP (inF (t.getD who.toNat noH).r) (inF [s]) else orP (inF (t.getD who.toNat noH).r) (cutP (inF [s]) (inF (t.getD who.toNat noH).w))) (if write = true then orP (inF (t.getD who.toNat noH).w) (inF [s]) else inF (t.getD who.toNat noH).w) =
      if (whoOk who && (spOk s && may)) = true then lockGive t who.toNat write s else (t, false) := by
  unfold turnT
  cases e : whoOk who && (spOk s && may)
  · rfl
  · simp only [if_true]
    simp only [Bool.and_eq_true] at e
    obtain ⟨i, hi, rfl⟩ := who_nat e.1
    rw [Int.toNat_natCast]
    cases write
    · simp only [Bool.false_eq_true, if_false, lockGive]
      have h1 : spansF (orP (inF (t.getD i noH).r) (cutP (inF [s]) (inF (t.getD i noH).w))) 48 0 = ofL (fun j => (inSp j s || inF (t.getD i noH).r j) && !inF (t.getD i noH).w j) 48 0 [] :=
        spans_of fun j _ => by
          have := P.rw i hi j
          simp only [orP_eq, cutP, one_in]
          cases e1 : inF (t.getD i noH).r j <;> cases e2 : inF (t.getD i noH).w j <;> cases inSp j s <;> simp_all
      rw [h1, spans_self (P.w i hi)]
    · simp only [if_true, lockGive, spans_cut, spans_add]
def dropI (t : List HoldT) (who : Int) (s : Sp) : Out := if lockOk t = true then (if (whoOk who && spOk s) = true then rLk (lockDrop t who.toNat s).1 (lockDrop t who.toNat s).2 else rLk t false) else rLk [] false
def downI (t : List HoldT) (who : Int) (s : Sp) : Out := if lockOk t = true then (if (whoOk who && spOk s) = true then rLk (lockDown t who.toNat s).1 (lockDown t who.toNat s).2 else rLk t false) else rLk [] false
def giveI (t : List HoldT) (who : Int) (write : Bool) (s : Sp) : Out := if lockOk t = true then (if (whoOk who && (spOk s && eqI (barsL t who write s).length 0)) = true then rLk (lockGive t who.toNat write s).1 (lockGive t who.toNat write s).2 else rLk t false) else rLk [] false
end Go.Ev

/- Answers: the reference's locks: right, copied, put, may one, who is in the way. -/
set_option linter.unusedSimpArgs false
set_option linter.unusedVariables false
set_option maxRecDepth 100000
set_option maxHeartbeats 4000000
namespace Go.Ev
open Go.Proofs
def clr1 (x : Sp) (ys : List Sp) : Bool := ys.all fun y => !ltI (meetS x y).1 (meetS x y).2
theorem lp_clear1 (m m' : M) (xs ys : List Sp) (hx : xs.length ≤ 4000000) (hy : ys.length ≤ 4000000) (i : Nat) (hi : i < xs.length) (a : Code) (ha : a = lp Tryz.f91 1) : ∀ (n k : Nat), k + n = ys.length →
    loopC E (ev E) 91 a { V := [(0, .v m false [.sl (xs.map spL)]), (1, .v m' false [.sl (ys.map spL)]), (5, vi i), (6, vi k)], H := [], ps := [] } =
      if clr1 xs[i] (ys.drop k) = true then some (.exit 2, { V := [(0, .v m false [.sl (xs.map spL)]), (1, .v m' false [.sl (ys.map spL)]), (5, vi i), (6, vi ys.length), (18, vb false)], H := [], ps := [] })
      else some (.ret, { V := [(4, vb false)], H := [], ps := [] })
  | 0, k, h => by
    rw [loopC_of _ _ _ _ ha]
    obtain rfl : k = ys.length := by omega
    simp [lp, loopsOf, Tryz.f91, clr1]
  | n + 1, k, h => by
    have hk : k < ys.length := by omega
    have ih := lp_clear1 m m' xs ys hx hy i hi a ha n (k + 1) (by omega)
    push_cast at ih
    have hw := wrapN k (by omega)
    have c1 := fun m m' => ev_l1Meet m m' xs[i] ys[k]
    have hc : clr1 xs[i] (ys.drop k) = (!ltI (meetS xs[i] ys[k]).1 (meetS xs[i] ys[k]).2 && clr1 xs[i] (ys.drop (k + 1))) := by
      rw [List.drop_eq_getElem_cons hk]; rfl
    rw [loopC_of _ _ _ _ ha, hc]
    clear ha
    generalize clr1 xs[i] (ys.drop (k + 1)) = r at ih ⊢
    cases e1 : ltI (meetS xs[i] ys[k]).1 (meetS xs[i] ys[k]).2
    · simp only [e1, Bool.false_eq_true, if_false] at c1
      simp [lp, loopsOf, Tryz.f91, hi, hk, hw, c1, ih]
    · simp only [e1, if_true] at c1
      simp [lp, loopsOf, Tryz.f91, hi, hk, hw, c1]
theorem lp_clear0 (m m' : M) (xs ys : List Sp) (hx : xs.length ≤ 4000000) (hy : ys.length ≤ 4000000) (a : Code) (ha : a = lp Tryz.f91 0) : ∀ (n i : Nat), i + n = xs.length →
    loopC E (ev E) 91 a { V := [(0, .v m false [.sl (xs.map spL)]), (1, .v m' false [.sl (ys.map spL)]), (5, vi i)], H := [], ps := [] } =
      if clearS (xs.drop i) ys = true then some (.exit 0, { V := [(0, .v m false [.sl (xs.map spL)]), (1, .v m' false [.sl (ys.map spL)]), (5, vi xs.length), (12, vb false)], H := [], ps := [] })
      else some (.ret, { V := [(4, vb false)], H := [], ps := [] })
  | 0, i, h => by
    rw [loopC_of _ _ _ _ ha]
    obtain rfl : i = xs.length := by omega
    simp [lp, loopsOf, Tryz.f91, clearS]
  | n + 1, i, h => by
    have hi : i < xs.length := by omega
    have ih := lp_clear0 m m' xs ys hx hy a ha n (i + 1) (by omega)
    push_cast at ih
    have hw := wrapN i (by omega)
    have hin := fun a ha => lp_clear1 m m' xs ys hx hy i hi a ha ys.length 0 (by omega)
    push_cast at hin
    have hc : clearS (xs.drop i) ys = (clr1 xs[i] ys && clearS (xs.drop (i + 1)) ys) := by
      rw [List.drop_eq_getElem_cons hi]; rfl
    rw [loopC_of _ _ _ _ ha, hc]
    clear ha
    simp only [List.drop_zero] at hin
    generalize clearS (xs.drop (i + 1)) ys = r at ih ⊢
    simp [lp, loopsOf, Tryz.f91, hi, hw]
    rw [hin _ ?_]
    · cases clr1 xs[i] ys <;> simp [hw, ih]
    · rfl
theorem ev_l4Clear (m m' : M) (xs ys : List Sp) (hx : xs.length ≤ 4000000) (hy : ys.length ≤ 4000000) : ev E 91 [.v m false [.sl (xs.map spL)], .v m' false [.sl (ys.map spL)]] = some (rB (clearS xs ys)) := by
  have l0 := fun a ha => lp_clear0 m m' xs ys hx hy a ha xs.length 0 (by omega)
  push_cast at l0
  simp only [List.drop_zero] at l0
  rw [ev_fn Tryz.f91 rfl Tryz.func91 rfl rfl rfl (Nat.le_of_ble_eq_true rfl)]
  simp
  rw [l0 _ ?_]
  · cases clearS xs ys <;> simp
  · rfl
theorem lp_sLock1 (m : M) (hm : m.isOwn = false) (t : List HoldT) (hl : t.length = 3) (hk : ∀ h ∈ t, holdB h) (i : Nat) (hi : i < 3) (a : Code) (ha : a = lp Tryz.f55 1) : ∀ (n k : Nat), k + n = 3 →
    loopC E (ev E) 55 a { V := [(0, .v m false [.sl (t.map holdL)]), (3, vi i), (4, vi k)], H := [], ps := [] } =
      if allTo (fun k => (k == i) || (clearS (t.getD i noH).w (t.getD k noH).w && clearS (t.getD i noH).w (t.getD k noH).r)) n k = true then some (.exit 2, { V := [(0, .v m false [.sl (t.map holdL)]), (3, vi i), (4, vi 3), (47, vb false)], H := [], ps := [] })
      else some (.ret, { V := [(2, vb false)], H := [], ps := [] })
  | 0, k, h => by
    rw [loopC_of _ _ _ _ ha]
    obtain rfl : k = 3 := by omega
    simp [lp, loopsOf, Tryz.f55, allTo, hl]
  | n + 1, k, h => by
    have hkt : k < t.length := by omega
    have hit : i < t.length := by omega
    have hK : (k : Int) < 3 := by omega
    have hk3 : k < 3 := by omega
    have ih := lp_sLock1 m hm t hl hk i hi a ha n (k + 1) (by omega)
    push_cast at ih
    have hw := wrapN k (by omega)
    have hB := hk _ (List.getElem_mem hkt)
    have hB2 := hk _ (List.getElem_mem hit)
    have c1 := fun m m' => ev_l4Clear m m' t[i].w t[k].w hB2.2 hB.2
    have c2 := fun m m' => ev_l4Clear m m' t[i].w t[k].r hB2.2 hB.1
    have hin : eqI (k : Int) i = (k == i) := by rw [Bool.eq_iff_iff, eqI_iff, beq_iff_eq]; omega
    rw [loopC_of _ _ _ _ ha, allTo]
    clear ha
    have hg : ((k == i) || (clearS (t.getD i noH).w (t.getD k noH).w && clearS (t.getD i noH).w (t.getD k noH).r)) = (eqI (k : Int) i || (clearS t[i].w t[k].w && clearS t[i].w t[k].r)) := by rw [hin, getD_lt _ hit, getD_lt _ hkt]
    rw [hg]
    generalize allTo (fun k => (k == i) || (clearS (t.getD i noH).w (t.getD k noH).w && clearS (t.getD i noH).w (t.getD k noH).r)) n (k + 1) = r at ih ⊢
    clear hg hin
    have hl3 : (t.length : Int) = 3 := by omega
    cases e1 : eqI (k : Int) i
    · cases e2 : clearS t[i].w t[k].w
      · simp [lp, loopsOf, Tryz.f55, hl, hl3, hK, hk3, hkt, hit, hi, hw, hm, c1, e1, e2]
      · cases e3 : clearS t[i].w t[k].r <;> simp [lp, loopsOf, Tryz.f55, hl, hl3, hK, hk3, hkt, hit, hi, hw, hm, c1, c2, e1, e2, e3, ih]
    · simp [lp, loopsOf, Tryz.f55, hl, hl3, hK, hk3, hkt, hit, hi, hw, hm, e1, ih]
theorem lp_sLock0 (m : M) (hm : m.isOwn = false) (t : List HoldT) (hl : t.length = 3) (hk : ∀ h ∈ t, holdB h) (a : Code) (ha : a = lp Tryz.f55 0) : ∀ (n i : Nat), i + n = 3 →
    loopC E (ev E) 55 a { V := [(0, .v m false [.sl (t.map holdL)]), (3, vi i)], H := [], ps := [] } =
      if allTo (lockAt t) n i = true then some (.exit 0, { V := [(0, .v m false [.sl (t.map holdL)]), (3, vi 3), (11, vb false)], H := [], ps := [] })
      else some (.ret, { V := [(2, vb false)], H := [], ps := [] })
  | 0, i, h => by
    rw [loopC_of _ _ _ _ ha]
    obtain rfl : i = 3 := by omega
    simp [lp, loopsOf, Tryz.f55, allTo, hl]
  | n + 1, i, h => by
    have hi : i < 3 := by omega
    have hI : (i : Int) < 3 := by omega
    have hit : i < t.length := by omega
    have ih := lp_sLock0 m hm t hl hk a ha n (i + 1) (by omega)
    push_cast at ih
    have hw := wrapN i (by omega)
    have hB := hk _ (List.getElem_mem hit)
    have c1 := fun m => ev_spec_SpansOk m t[i].r (by have := hB.1; omega)
    have c2 := fun m => ev_spec_SpansOk m t[i].w (by have := hB.2; omega)
    have c3 := fun m m' => ev_l4Clear m m' t[i].r t[i].w hB.1 hB.2
    have hin := fun a ha => lp_sLock1 m hm t hl hk i hi a ha 3 0 (by omega)
    push_cast at hin
    rw [loopC_of _ _ _ _ ha, allTo]
    clear ha
    have hg : lockAt t i = (spsOk t[i].r && spsOk t[i].w && clearS t[i].r t[i].w && allTo (fun k => (k == i) || (clearS (t.getD i noH).w (t.getD k noH).w && clearS (t.getD i noH).w (t.getD k noH).r)) 3 0) := by rw [lockAt, getD_lt _ hit]
    rw [hg]
    clear hg
    generalize allTo (lockAt t) n (i + 1) = r at ih ⊢
    generalize allTo (fun k => (k == i) || (clearS (t.getD i noH).w (t.getD k noH).w && clearS (t.getD i noH).w (t.getD k noH).r)) 3 0 = z at hin ⊢
    cases e1 : spsOk t[i].r
    · simp [lp, loopsOf, Tryz.f55, hl, hI, hi, hit, hw, hm, c1, e1]
    · cases e2 : spsOk t[i].w
      · simp [lp, loopsOf, Tryz.f55, hl, hI, hi, hit, hw, hm, c1, c2, e1, e2]
      · cases e3 : clearS t[i].r t[i].w
        · simp [lp, loopsOf, Tryz.f55, hl, hI, hi, hit, hw, hm, c1, c2, c3, e1, e2, e3]
        · simp [lp, loopsOf, Tryz.f55, hl, hI, hi, hit, hw, hm, c1, c2, c3, e1, e2, e3]
          rw [hin _ ?_]
          · cases z <;> simp [hw, ih]
          · rfl
theorem ev_spec_LockOk (m : M) (hm : m.isOwn = false) (t : List HoldT) (hb : t.length ≤ 4000000) (hk : ∀ h ∈ t, holdB h) : ev E 55 [.v m false [.sl (t.map holdL)]] = some (rB (lockOk t)) := by
  rw [ev_fn Tryz.f55 rfl Tryz.func55 rfl rfl rfl (Nat.le_of_ble_eq_true rfl)]
  rw [lockOk]
  cases e1 : eqI t.length 3
  · simp [e1]
  · have l0 := fun a ha => lp_sLock0 m hm t (eqI3.1 e1) hk a ha 3 0 (by omega)
    push_cast at l0
    simp [e1]
    rw [l0 _ ?_]
    · cases allTo (lockAt t) 3 0 <;> simp
    · rfl
theorem set_bd {t : List HoldT} (hk : ∀ h ∈ t, holdB h) (i : Nat) {h : HoldT} (hh : holdB h) : ∀ x ∈ t.set i h, holdB x := fun x hx => by
  rcases List.mem_or_eq_of_mem_set hx with hx | rfl
  · exact hk x hx
  · exact hh
theorem lp_l4May (m m1 : M) (hm : m.isOwn = false) (h : HoldT) (hb : holdB h) (write : Bool) (s : Sp) (hi : Nat) (hs : s.2 = hi) (h48 : hi ≤ 48) (a : Code) (ha : a = lp Tryz.f65 0) : ∀ (n i : Nat), i + n = hi →
    loopC E (ev E) 65 a { V := [(1, .v m1 false [.bool write]), (3, adc 3), (5, adc 5), (7, vi i)], H := [bxm (.c 3) m (holdL h), bx (.c 5) (spL s)], ps := [] } =
      if allTo (mayAt h write) n i = true then some (.exit 0, { V := [(1, .v m1 false [.bool write]), (3, adc 3), (5, adc 5), (7, vi hi), (13, vb false)], H := [bxm (.c 3) m (holdL h), bx (.c 5) (spL s)], ps := [] })
      else some (.ret, { V := [(6, vb false)], H := [], ps := [] })
  | 0, i, h0 => by
    rw [loopC_of _ _ _ _ ha]
    obtain rfl : i = hi := by omega
    simp [lp, loopsOf, Tryz.f65, allTo, hs]
  | n + 1, i, h0 => by
    have hlt : i < hi := by omega
    have ih := lp_l4May m m1 hm h hb write s hi hs h48 a ha n (i + 1) (by omega)
    push_cast at ih
    have hw := wrapN i (by omega)
    have c1 : ∀ m m', ev E 64 [.v m false [.sl (h.w.map spL)], .v m' false [.int .i64 i]] = some (rB (inF h.w i)) := fun m m' => ev_spec_l1In m m' h.w i (by have := hb.2; omega)
    have c2 : ∀ m m', ev E 64 [.v m false [.sl (h.r.map spL)], .v m' false [.int .i64 i]] = some (rB (inF h.r i)) := fun m m' => ev_spec_l1In m m' h.r i (by have := hb.1; omega)
    rw [loopC_of _ _ _ _ ha, allTo, mayAt]
    clear ha
    generalize allTo (mayAt h write) n (i + 1) = r at ih ⊢
    cases e1 : inF h.w i
    · cases write
      · cases e2 : inF h.r i <;> simp [lp, loopsOf, Tryz.f65, hs, hlt, hw, hm, c1, c2, e1, e2, ih]
      · simp [lp, loopsOf, Tryz.f65, hs, hlt, hw, hm, c1, c2, e1, ih]
    · simp [lp, loopsOf, Tryz.f65, hs, hlt, hw, hm, c1, c2, e1, ih]
theorem ev_l4May (m m1 m2 : M) (hm : m.isOwn = false) (h : HoldT) (hb : holdB h) (write : Bool) (s : Sp) (h1 : 0 ≤ s.1) (h2 : s.1 ≤ s.2) (h3 : s.2 ≤ 48) :
    ev E 65 [.v m true (holdL h), .v m1 false [.bool write], .v m2 true (spL s)] = some (rB (lockMay h write s)) := by
  obtain ⟨lo, hlo⟩ : ∃ lo : Nat, s.1 = lo := ⟨s.1.toNat, by omega⟩
  obtain ⟨hi, hhi⟩ : ∃ hi : Nat, s.2 = hi := ⟨s.2.toNat, by omega⟩
  have l0 := lp_l4May m m1 hm h hb write s hi hhi (by omega) _ rfl (hi - lo) lo (by omega)
  have e : lockMay h write s = allTo (mayAt h write) (hi - lo) lo := by
    unfold lockMay
    rw [hlo, hhi]
    congr 1
    omega
  rw [e]
  rw [ev_fn Tryz.f65 rfl Tryz.func65 rfl rfl rfl (Nat.le_of_ble_eq_true rfl)]
  simp [hm, hlo]
  rw [loopC_at ?_ l0]
  · cases allTo (mayAt h write) (hi - lo) lo <;> simp
  · rfl
end Go.Ev

/- Answers: the reference's locks given, dropped, lessened, taken off. -/
set_option linter.unusedSimpArgs false
set_option linter.unusedVariables false
set_option maxRecDepth 100000
set_option maxHeartbeats 4000000
namespace Go.Ev
open Go.Proofs
theorem ofL_congr {f g : Nat → Bool} (h : ∀ j, j < 48 → f j = g j) : ofL f 48 0 [] = ofL g 48 0 [] := (spans_of (f := f) (g := f) fun _ _ => rfl).symm.trans (spans_of h)
theorem ofL_len48 (f : Nat → Bool) : (ofL f 48 0 []).length ≤ 48 := by
  have := ofL_len f 48 0 []
  simpa using this
def orV (w : Nat → Bool) : Nat → Nat → (Nat → Bool) → (Nat → Bool)
  | 0, _, f => f
  | n + 1, i, f => orV w n (i + 1) (updB f i (f i || w i))
theorem orV_get (w : Nat → Bool) : ∀ (n i : Nat) (f : Nat → Bool) (j : Nat), orV w n i f j = if i ≤ j ∧ j < i + n then f j || w j else f j
  | 0, i, f, j => by rw [orV, if_neg (by omega)]
  | n + 1, i, f, j => by
    rw [orV, orV_get w n (i + 1)]
    by_cases e : j = i
    · subst e
      rw [if_neg (by omega), if_pos (by omega)]
      simp [updB]
    · have : updB f i (f i || w i) j = f j := by simp [updB, e]
      rw [this]
      by_cases h : i + 1 ≤ j ∧ j < i + 1 + n
      · rw [if_pos h, if_pos (by omega)]
      · rw [if_neg h, if_neg (by omega)]
/-! ### one list without another -/
def lessF : List Sp → List Sp → List Sp
  | x, [] => x
  | x, s :: b => lessF (cutS x s) b
theorem lessF_of : ∀ (b : List Sp) (f : Nat → Bool), lessF (ofL f 48 0 []) b = ofL (fun j => f j && !inF b j) 48 0 []
  | [], f => by
    rw [lessF]
    exact ofL_congr fun j _ => by simp [inF]
  | s :: b, f => by
    rw [lessF, cutS, lessF_of b]
    exact ofL_congr fun j hj => by
      have : (ofL f 48 0 []).any (inSp j) = f j := of_get f hj
      rw [this]
      have e : inF (s :: b) j = (inSp j s || inF b j) := rfl
      rw [e]
      cases inSp j s <;> cases f j <;> cases inF b j <;> rfl
theorem lessF_len : ∀ (b x : List Sp), x.length ≤ 4000000 → (lessF x b).length ≤ 4000000
  | [], x, h => h
  | s :: b, x, h => by
    have := cutS_len x s
    exact lessF_len b _ (by omega)
end Go.Ev
