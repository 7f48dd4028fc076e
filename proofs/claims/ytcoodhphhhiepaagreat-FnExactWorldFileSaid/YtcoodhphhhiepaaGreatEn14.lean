/- My texts joined: EvW11, EvT68, EvT69, EvT70, EvT71, EvT72, EvT29, EvT31, EvT37, EvM3, EvT38, EvT73, EvT74. No condition. -/
import Derived.Test.YtcoodhphhhiepaaGreatEn8
import Derived.Test.YtcoodhphhhiepaaGreatEn9
import Derived.Test.YtcoodhphhhiepaaGreatEn12
import Derived.Test.YtcoodhphhhiepaaGreatEn13
/- Plain words: is a world right, as a word of its own. No program in sight. -/
set_option linter.unusedSimpArgs false
set_option linter.unusedVariables false
namespace Go.Ev
def ownAt (w : WorldT) (i : Nat) : Bool := (w.own i).ok && (!ltI (w.ep i) (w.st.floors.getD i 0) && (!ltI 100 (w.ep i) && (w.live i || sameOwn (w.own i) noO)))
def keptF (w : WorldT) : List ReqT → List Int → Bool
  | q :: qs, c :: cs => (eqI c 0 && eqI q.epoch (w.ep q.who.toNat)) && keptF w qs cs
  | _, _ => true
def lateAt (w : WorldT) (q : ReqT) : Bool := reqOk q && ltI q.epoch (w.st.floors.getD q.who.toNat 0)
def heldAt (w : WorldT) (i j : Nat) : Bool := !inF (w.own i).h j || ((inF (w.lock i).w j || (!inF (w.own i).d j && inF (w.lock i).r j)) && (inF (w.own i).d j || eqI ((w.own i).t.getD j 0).toNat (w.file.getD j 0).toNat))
def countsOk (w : WorldT) : Bool := layOk w.size w.many && (storeOk w.st && (lockOk w.locks && (eqI w.owns.length 3 && (eqI w.epochs.length 3 && (eqI w.alive.length 3 && !ltI 8 w.late.length)))))
def worldOk (w : WorldT) : Bool := countsOk w && (allTo (ownAt w) 3 0 && (keptF w w.kept (storeAll (storeFall w.st) w.kept).2 && (sameStore (storeAll (storeFall w.st) w.kept).1 w.st && (w.late.all (lateAt w) && allTo (fun i => allTo (heldAt w i) 48 0) 3 0))))
theorem sameOwn_iff {a b : OwnT} : sameOwn a b = true ↔ a = b := by
  cases a; cases b
  simp only [sameOwn, Bool.and_eq_true, eqS_iff, decide_eq_true_eq, OwnT.mk.injEq, and_assoc]
theorem eqLI_iff {xs ys : List Int} : eqL eqI xs ys = true ↔ xs = ys := by
  rw [eqL_dec (fun x y => eqI_iff)]; simp
theorem eqLS_iff {xs ys : List Bs} : eqL eqS xs ys = true ↔ xs = ys := by
  rw [eqL_dec (fun x y => eqS_iff)]; simp
theorem sameStore_iff {a b : StoreT} : sameStore a b = true ↔ a = b := by
  cases a; cases b
  simp only [sameStore, Bool.and_eq_true, eqLI_iff, eqLS_iff, StoreT.mk.injEq]
theorem keptF_iff (w : WorldT) : ∀ (qs : List ReqT) (cs : List Int), cs.length = qs.length → (keptF w qs cs = true ↔ cs = zeros qs ∧ ∀ q ∈ qs, q.epoch = w.ep q.who.toNat)
  | [], [], _ => by simp [keptF, zeros]
  | [], c :: cs, h => by simp at h
  | q :: qs, [], h => by simp at h
  | q :: qs, c :: cs, h => by
    rw [keptF, Bool.and_eq_true, keptF_iff w qs cs (by simpa using h), Bool.and_eq_true, eqI_iff, eqI_iff]
    simp only [zeros, List.map_cons, List.cons.injEq, List.mem_cons, forall_eq_or_imp]
    exact ⟨fun ⟨⟨a, b⟩, c, d⟩ => ⟨⟨a, c⟩, b, d⟩, fun ⟨⟨a, c⟩, b, d⟩ => ⟨⟨a, b⟩, c, d⟩⟩
theorem u8_nat {a b : UInt8} : eqI a.toNat b.toNat = true ↔ a = b := by
  rw [eqI_iff]
  constructor
  · intro h; exact UInt8.toNat_inj.1 (by omega)
  · intro h; rw [h]
theorem worldOk_iff {w : WorldT} : worldOk w = true ↔ WorldP w := by
  simp only [worldOk, countsOk, Bool.and_eq_true, layOk_iff, storeOk_iff, lockOk_iff, eqI3, allTo_iff, keptF_iff w _ _ (storeAll_len _ _), sameStore_iff, List.all_eq_true, Bool.not_eq_true', ltI_not]
  constructor
  · rintro ⟨⟨h1, h2, h3, h4, h5, h6, h7⟩, h8, ⟨h9, h10⟩, h11, h12, h13⟩
    refine ⟨h1, h2, h3, h4, h5, h6, by omega, fun i hi => ?_, fun i hi => ?_, fun i hi hd => ?_, Prod.ext h11 h9, h10, fun q hq => ?_, fun i hi j hj hh => ?_⟩
    · have := h8 i (by omega) (by omega)
      simp only [ownAt, Bool.and_eq_true] at this
      exact this.1
    · have := h8 i (by omega) (by omega)
      simp only [ownAt, Bool.and_eq_true, Bool.not_eq_true', ltI_not] at this
      exact ⟨this.2.1, this.2.2.1⟩
    · have := h8 i (by omega) (by omega)
      simp only [ownAt, Bool.and_eq_true, Bool.or_eq_true, hd, Bool.false_eq_true, false_or, sameOwn_iff] at this
      exact this.2.2.2
    · have := h12 q hq
      simp only [lateAt, Bool.and_eq_true, reqOk_iff, ltI_iff] at this
      exact this
    · have := h13 i (by omega) (by omega) j (by omega) (by omega)
      simp only [heldAt, hh, Bool.not_true, Bool.false_or, Bool.and_eq_true, Bool.or_eq_true, Bool.not_eq_true', u8_nat, file_getD w hj] at this
      exact this
  · intro h
    refine ⟨⟨h.lay, h.st, h.lk, h.owns, h.epochs, h.alive, by have := h.lateN; omega⟩, fun i _ hi => ?_, ⟨congrArg Prod.snd h.kept, h.keptE⟩, congrArg Prod.fst h.kept, fun q hq => ?_, fun i _ hi j _ hj => ?_⟩
    · have hi : i < 3 := by omega
      have he := h.ep i hi
      simp only [ownAt, Bool.and_eq_true, Bool.not_eq_true', ltI_not, Bool.or_eq_true, sameOwn_iff]
      refine ⟨h.own i hi, he.1, he.2, ?_⟩
      cases e : w.live i
      · exact .inr (h.dead i hi e)
      · exact .inl rfl
    · have := h.late q hq
      simp only [lateAt, Bool.and_eq_true, reqOk_iff, ltI_iff]
      exact this
    · have hj : j < 48 := by omega
      simp only [heldAt, Bool.and_eq_true, Bool.or_eq_true, Bool.not_eq_true', u8_nat, file_getD w hj]
      cases e : inF (w.own i).h j
      · exact .inl rfl
      · exact .inr (h.held i (by omega) j hj e)
end Go.Ev

/- Answers: how a file is laid out; the file that is stored. -/
set_option linter.unusedSimpArgs false
set_option linter.unusedVariables false
set_option maxRecDepth 100000
set_option maxHeartbeats 4000000
namespace Go.Ev
open Go.Proofs
abbrev layL (size many : Int) : List L := [.int .i64 size, .int .i64 many]
theorem ev_impl_LayOk (m : M) (size many : Int) : ev E 29 [.v m true (layL size many)] = some (rB (layOk size many)) := by
  rw [layOk]
  rw [ev_fn Tryz.f29 rfl Tryz.func29 rfl rfl rfl (Nat.le_of_ble_eq_true rfl)]
  cases e1 : ltI size 1
  · cases e2 : ltI 8 size
    · cases e3 : ltI many 1
      · cases e4 : ltI 3 many <;> simp [e1, e2, e3, e4]
      · simp [e1, e2, e3]
    · simp [e1, e2]
  · simp [e1]
theorem ev_spec_LayOk (m : M) (size many : Int) : ev E 53 [.v m true (layL size many)] = some (rB (layOk size many)) := by
  rw [layOk]
  rw [ev_fn Tryz.f53 rfl Tryz.func53 rfl rfl rfl (Nat.le_of_ble_eq_true rfl)]
  cases e1 : ltI size 1
  · cases e2 : ltI 8 size
    · cases e3 : ltI many 1
      · cases e4 : ltI 3 many <;> simp [e1, e2, e3, e4]
      · simp [e1, e2, e3]
    · simp [e1, e2]
  · simp [e1]
structure LayP (sz mn : Nat) : Prop where
  s1 : 1 ≤ sz
  s8 : sz ≤ 8
  m1 : 1 ≤ mn
  m3 : mn ≤ 3
theorem LayP.ok {sz mn : Nat} (h : LayP sz mn) : layOk sz mn = true := layOk_iff.2 (by have := h.s1; have := h.s8; have := h.m1; have := h.m3; omega)
theorem lay_nat {size many : Int} (h : layOk size many = true) : ∃ sz mn : Nat, size = sz ∧ many = mn ∧ LayP sz mn := by
  have := layOk_iff.1 h
  exact ⟨size.toNat, many.toNat, by omega, by omega, ⟨by omega, by omega, by omega, by omega⟩⟩
theorem obj_lt {sz mn : Nat} (h : LayP sz mn) (j : Nat) : objOf sz mn j < mn := Nat.mod_lt _ h.m1
theorem pos_lt {sz mn : Nat} (h : LayP sz mn) {j : Nat} (hj : j < 48) : posOf sz mn j < 48 := by
  have := pos_le (j := j) h.s1 h.m1
  omega
theorem ww {n : Nat} (hn : n ≤ 100000) : IntKind.i64.wrap (n : Int) = n := wrap64 (by omega)
theorem lay_facts {sz mn : Nat} (h : LayP sz mn) (j : Nat) (hj : j ≤ 4000) :
    IntKind.i64.wrap ((j : Int) / (sz : Int)) = ((j / sz : Nat) : Int) ∧ ((j / sz : Nat) : Int).tmod (mn : Int) = ((j / sz % mn : Nat) : Int) ∧ IntKind.i64.wrap (((j / sz : Nat) : Int) / (mn : Int)) = ((j / sz / mn : Nat) : Int) ∧
    IntKind.i64.wrap (((j / sz / mn : Nat) : Int) * sz) = ((j / sz / mn * sz : Nat) : Int) ∧ (j : Int).tmod (sz : Int) = ((j % sz : Nat) : Int) ∧ IntKind.i64.wrap (((j / sz / mn * sz : Nat) : Int) + ((j % sz : Nat) : Int)) = ((j / sz / mn * sz + j % sz : Nat) : Int) := by
  have h8 := h.s8
  have h1 := h.s1
  have q1 : j / sz ≤ j := Nat.div_le_self _ _
  have q2 : j / sz / mn ≤ j / sz := Nat.div_le_self _ _
  have q3 : j / sz / mn * sz ≤ j * 8 := Nat.mul_le_mul (by omega) h8
  have q4 : j % sz < sz := Nat.mod_lt _ h1
  refine ⟨?_, ?_, ?_, ?_, ?_, ?_⟩
  · rw [← Int.natCast_ediv]; exact ww (by omega)
  · rw [← Int.ofNat_tmod]
  · rw [← Int.natCast_ediv]; exact ww (by omega)
  · rw [show ((j / sz / mn : Nat) : Int) * (sz : Int) = ((j / sz / mn * sz : Nat) : Int) from (Int.natCast_mul _ _).symm]; exact ww (by omega)
  · rw [← Int.ofNat_tmod]
  · rw [← Int.natCast_add]; exact ww (by omega)
theorem ev_LayAt (m m' : M) (sz mn j : Nat) (h : LayP sz mn) (hj : j < 48) : ev E 83 [.v m true (layL sz mn), .v m' false [.int .i64 j]] = some { rs := [.v .own false [.int .i64 (objOf sz mn j : Nat)], .v .own false [.int .i64 (posOf sz mn j : Nat)]], outs := [] } := by
  have c1 := fun m => ev_impl_LayOk m sz mn
  rw [h.ok] at c1
  obtain ⟨f1, f2, f3, f4, f5, f6⟩ := lay_facts h j (by omega)
  have n1 : eqI (sz : Int) 0 = false := eqI_not.2 (by have := h.s1; omega)
  have n2 : eqI (mn : Int) 0 = false := eqI_not.2 (by have := h.m1; omega)
  have n3 : sz ≠ 0 := by have := h.s1; omega
  have n4 : mn ≠ 0 := by have := h.m1; omega
  have g1 : ltI (j : Int) 0 = false := ltI_not.2 (by omega)
  have g2 : ltI (j : Int) 48 = true := ltI_iff.2 (by omega)
  have g3 : (j : Int) < 48 := by omega
  unfold objOf posOf
  generalize hq : j / sz = q at *
  generalize hr : j % sz = r at *
  generalize hq2 : q / mn = q2 at *
  generalize hr2 : q % mn = r2 at *
  generalize hp : q2 * sz = p at *
  rw [ev_fn Tryz.f83 rfl Tryz.func83 rfl rfl rfl (Nat.le_of_ble_eq_true rfl)]
  simp [c1, f1, f2, f3, f4, f5, f6, n1, n2, n3, n4, g1, g2, g3]
theorem ev_l3At (m m' : M) (sz mn j : Nat) (h : LayP sz mn) (hj : j < 48) : ev E 100 [.v m true (layL sz mn), .v m' false [.int .i64 j]] = some { rs := [.v .own false [.int .i64 (objOf sz mn j : Nat)], .v .own false [.int .i64 (posOf sz mn j : Nat)]], outs := [] } := by
  obtain ⟨f1, f2, f3, f4, f5, f6⟩ := lay_facts h j (by omega)
  have n1 : eqI (sz : Int) 0 = false := eqI_not.2 (by have := h.s1; omega)
  have n2 : eqI (mn : Int) 0 = false := eqI_not.2 (by have := h.m1; omega)
  have n3 : sz ≠ 0 := by have := h.s1; omega
  have n4 : mn ≠ 0 := by have := h.m1; omega
  unfold objOf posOf
  generalize hq : j / sz = q at *
  generalize hr : j % sz = r at *
  generalize hq2 : q / mn = q2 at *
  generalize hr2 : q % mn = r2 at *
  generalize hp : q2 * sz = p at *
  rw [ev_fn Tryz.f100 rfl Tryz.func100 rfl rfl rfl (Nat.le_of_ble_eq_true rfl)]
  simp [f1, f2, f3, f4, f5, f6, n1, n2, n3, n4]
/-! ### the file -/
theorem byte_eq (w : WorldT) {sz mn : Nat} (h1 : w.size = sz) (h2 : w.many = mn) {j : Nat} (ho : objOf sz mn j < w.st.now.length) : w.byte j = (w.st.now[objOf sz mn j]).getD (posOf sz mn j) 46 := by
  unfold WorldT.byte fileAt
  rw [h1, h2, Int.toNat_natCast, Int.toNat_natCast, getD_lt _ ho]
theorem lp_stored (m : M) (hm : m.isOwn = false) (w : WorldT) (sz mn : Nat) (h1 : w.size = sz) (h2 : w.many = mn) (P : LayP sz mn) (hn : w.st.now.length = 3) (a : Code) (ha : a = lp Tryz.f39 0) : ∀ (n i : Nat) (out : Bs), i + n = 48 → out.length = i →
    loopC E (ev E) 39 a { V := [(1, adc 1), (3, at1 3), (9, vi i)], H := [bxm (.c 1) m (worldL w), ow (.c 3) [.sl (rowsOfBytes out)]], ps := [] } =
      some (.exit 0, { V := [(1, adc 1), (3, at1 3), (9, vi 48), (10, vb false)], H := [bxm (.c 1) m (worldL w), ow (.c 3) [.sl (rowsOfBytes (out ++ (List.range' i n).map w.byte))]], ps := [] })
  | 0, i, out, h, ho => by
    rw [loopC_of _ _ _ _ ha]
    obtain rfl : i = 48 := by omega
    simp [lp, loopsOf, Tryz.f39]
  | n + 1, i, out, h, ho => by
    have hI : (i : Int) < 48 := by omega
    have hw := wrapN i (by omega)
    have c1 := fun m m' => ev_LayAt m m' sz mn i P (by omega)
    have o1 := obj_lt P i
    have o2 : objOf sz mn i < w.st.now.length := by have := P.m3; omega
    have hb := byte_eq w h1 h2 o2
    have ih := lp_stored m hm w sz mn h1 h2 P hn a ha n (i + 1) (out ++ [w.byte i]) (by omega) (by simp; omega)
    push_cast at ih
    have z1 : out.length + 1 ≤ 17592186044416 := by omega
    have z2 : (rowsOfBytes out).length = out.length := by simp [rowsOfBytes]
    rw [loopC_of _ _ _ _ ha, List.range'_succ, List.map_cons]
    clear ha
    generalize objOf sz mn i = ob at *
    generalize posOf sz mn i = ps at *
    by_cases e : ps < w.st.now[ob].length
    · have e1 : ltI (ps : Int) w.st.now[ob].length = true := ltI_iff.2 (by omega)
      have hg : w.byte i = w.st.now[ob][ps] := by rw [hb, getD_lt _ e]
      rw [hg] at ih ⊢
      simp [lp, loopsOf, Tryz.f39, hI, hw, hm, h1, h2, c1, o2, e1, e, z1, z2]
      simpa [rowsOfBytes, hw] using ih
    · have e1 : ltI (ps : Int) w.st.now[ob].length = false := ltI_not.2 (by omega)
      have hg : w.byte i = 46 := by rw [hb, List.getD_eq_getElem?_getD, List.getElem?_eq_none (by omega)]; rfl
      rw [hg] at ih ⊢
      simp [lp, loopsOf, Tryz.f39, hI, hw, hm, h1, h2, c1, o2, e1, e, z1, z2]
      simpa [rowsOfBytes, hw] using ih
theorem ev_stored (m : M) (hm : m.isOwn = false) (w : WorldT) (hl : layOk w.size w.many = true) (hn : w.st.now.length = 3) : ev E 39 [.v m true (worldL w)] = some { rs := [.v .own false [.str w.file]], outs := [] } := by
  obtain ⟨sz, mn, h1, h2, P⟩ := lay_nat hl
  have l0 := lp_stored m hm w sz mn h1 h2 P hn _ rfl 48 0 [] (by omega) rfl
  push_cast at l0
  have hf : (List.range' 0 48).map w.byte = w.file := by rw [← List.range_eq_range']; rfl
  rw [hf, List.nil_append] at l0
  have hbr := bytes_rows w.file
  have hlen : (rowsOfBytes w.file).length = 48 := by simp [rowsOfBytes, file_len]
  have hr0 : rowsOfBytes [] = [] := rfl
  rw [hr0] at l0
  rw [ev_fn Tryz.f39 rfl Tryz.func39 rfl rfl rfl (Nat.le_of_ble_eq_true rfl)]
  simp [hm]
  rw [loopC_at ?_ l0]
  · generalize hro : rowsOfBytes w.file = ro at *
    simp [hbr, hlen]
  · rfl
theorem ev_l7Byte (m m' : M) (hm : m.isOwn = false) (w : WorldT) (hl : layOk w.size w.many = true) (hn : w.st.now.length = 3) (j : Nat) (hj : j < 48) : ev E 63 [.v m true (worldL w), .v m' false [.int .i64 j]] = some { rs := [.v .own false [.str [w.byte j]]], outs := [] } := by
  obtain ⟨sz, mn, h1, h2, P⟩ := lay_nat hl
  have c1 := fun m m' => ev_l3At m m' sz mn j P (by omega)
  have o1 := obj_lt P j
  have o2 : objOf sz mn j < w.st.now.length := by have := P.m3; omega
  have hb := byte_eq w h1 h2 o2
  have hp := pos_lt P hj
  generalize objOf sz mn j = ob at *
  generalize posOf sz mn j = ps at *
  have hw := wrapN ps (by omega)
  by_cases e : ps < w.st.now[ob].length
  · have e1 : ltI (ps : Int) w.st.now[ob].length = true := ltI_iff.2 (by omega)
    have hg : w.byte j = w.st.now[ob][ps] := by rw [hb, getD_lt _ e]
    have ht : ((w.st.now[ob]).take (ps + 1)).drop ps = [w.st.now[ob][ps]] := by
      apply List.ext_getElem?
      intro k
      simp only [List.getElem?_drop, List.getElem?_take]
      cases k with
      | zero => simp [e]
      | succ k => simp
    have e2 : ps + 1 ≤ w.st.now[ob].length := by omega
    have e3 : (0 : Int) ≤ (ps : Int) + 1 ∧ (ps : Int) + 1 ≤ w.st.now[ob].length := by omega
    have e4 : (ps : Int) ≤ (ps : Int) + 1 := by omega
    rw [hg]
    rw [ev_fn Tryz.f63 rfl Tryz.func63 rfl rfl rfl (Nat.le_of_ble_eq_true rfl)]
    simp [hm, h1, h2, c1, o2, e1, e, e2, e3, e4, hw, ht]
  · have e1 : ltI (ps : Int) w.st.now[ob].length = false := ltI_not.2 (by omega)
    have hg : w.byte j = 46 := by rw [hb, List.getD_eq_getElem?_getD, List.getElem?_eq_none (by omega)]; rfl
    rw [hg]
    rw [ev_fn Tryz.f63 rfl Tryz.func63 rfl rfl rfl (Nat.le_of_ble_eq_true rfl)]
    simp [hm, h1, h2, c1, o2, e1, e, hw]
theorem lp_l7File (m : M) (hm : m.isOwn = false) (w : WorldT) (hl : layOk w.size w.many = true) (hn : w.st.now.length = 3) (a : Code) (ha : a = lp Tryz.f20 0) : ∀ (n i : Nat) (out : Bs), i + n = 48 → out.length = i →
    loopC E (ev E) 20 a { V := [(1, adc 1), (3, .v .ro false [.str out]), (4, vi i)], H := [bxm (.c 1) m (worldL w)], ps := [] } =
      some (.exit 0, { V := [(1, adc 1), (3, .v .ro false [.str (out ++ (List.range' i n).map w.byte)]), (4, vi 48), (6, vb false)], H := [bxm (.c 1) m (worldL w)], ps := [] })
  | 0, i, out, h, ho => by
    rw [loopC_of _ _ _ _ ha]
    obtain rfl : i = 48 := by omega
    simp [lp, loopsOf, Tryz.f20]
  | n + 1, i, out, h, ho => by
    have hI : (i : Int) < 48 := by omega
    have hw := wrapN i (by omega)
    have c1 := fun m m' hm => ev_l7Byte m m' hm w hl hn i (by omega)
    have ih := lp_l7File m hm w hl hn a ha n (i + 1) (out ++ [w.byte i]) (by omega) (by simp; omega)
    push_cast at ih
    have z1 : out.length + 1 ≤ 4611686018427387904 := by omega
    rw [loopC_of _ _ _ _ ha, List.range'_succ, List.map_cons]
    clear ha
    simp [lp, loopsOf, Tryz.f20, hI, hw, hm, c1, z1]
    simpa using ih
theorem ev_l7File (m : M) (hm : m.isOwn = false) (w : WorldT) (hl : layOk w.size w.many = true) (hn : w.st.now.length = 3) : ev E 20 [.v m true (worldL w)] = some { rs := [.v .own false [.str w.file]], outs := [] } := by
  have l0 := lp_l7File m hm w hl hn _ rfl 48 0 [] (by omega) rfl
  push_cast at l0
  have hf : (List.range' 0 48).map w.byte = w.file := by rw [← List.range_eq_range']; rfl
  rw [hf, List.nil_append] at l0
  rw [ev_fn Tryz.f20 rfl Tryz.func20 rfl rfl rfl (Nat.le_of_ble_eq_true rfl)]
  simp [hm]
  rw [loopC_at ?_ l0]
  · simp
  · rfl
end Go.Ev

/- Answers: a part of the file in pieces. -/
set_option linter.unusedSimpArgs false
set_option linter.unusedVariables false
set_option maxRecDepth 100000
set_option maxHeartbeats 4000000
namespace Go.Ev
open Go.Proofs
structure PartT where
  obj : Nat
  lo : Nat
  hi : Nat
  frm : Nat
abbrev partL (p : PartT) : List L := [.int .i64 p.obj, .int .i64 p.lo, .int .i64 p.hi, .int .i64 p.frm]
def partAt (sz mn a e : Nat) : PartT := ⟨objOf sz mn a, posOf sz mn a, posOf sz mn a + (e - a), a⟩
def partsF (sz mn hi : Nat) : Nat → Nat → List PartT
  | 0, _ => []
  | n + 1, a => if a < hi then partAt sz mn a (endOf sz a hi) :: partsF sz mn hi n (endOf sz a hi) else []
theorem parts_fuel {sz mn hi : Nat} (hs : 0 < sz) : ∀ (n m a : Nat), hi ≤ a + n → hi ≤ a + m → partsF sz mn hi n a = partsF sz mn hi m a
  | 0, 0, a, _, _ => rfl
  | 0, m + 1, a, h1, h2 => by rw [partsF, partsF, if_neg (by omega)]
  | n + 1, 0, a, h1, h2 => by rw [partsF, partsF, if_neg (by omega)]
  | n + 1, m + 1, a, h1, h2 => by
    rw [partsF, partsF]
    by_cases h : a < hi
    · have := endOf_gt hs h
      rw [if_pos h, if_pos h, parts_fuel hs n m _ (by omega) (by omega)]
    · rw [if_neg h, if_neg h]
theorem parts_len {sz mn hi : Nat} : ∀ (n a : Nat), (partsF sz mn hi n a).length ≤ n
  | 0, a => by simp [partsF]
  | n + 1, a => by
    have := parts_len (sz := sz) (mn := mn) (hi := hi) n (endOf sz a hi)
    rw [partsF]
    split <;> simp <;> omega
theorem end_facts {sz mn : Nat} (P : LayP sz mn) (a hi : Nat) (ha : a < 48) (hh : hi ≤ 48) :
    IntKind.i64.wrap (((a / sz : Nat) : Int) + 1) = ((a / sz + 1 : Nat) : Int) ∧ IntKind.i64.wrap (((a / sz + 1 : Nat) : Int) * sz) = (((a / sz + 1) * sz : Nat) : Int) ∧ (if (a / sz + 1) * sz < hi then (((a / sz + 1) * sz : Nat) : Int) else (hi : Int)) = (endOf sz a hi : Nat) := by
  have q1 : a / sz ≤ a := Nat.div_le_self _ _
  have q3 : (a / sz + 1) * sz ≤ 49 * 8 := Nat.mul_le_mul (by omega) P.s8
  refine ⟨wrapN _ (by omega), ?_, ?_⟩
  · rw [show ((a / sz + 1 : Nat) : Int) * (sz : Int) = (((a / sz + 1) * sz : Nat) : Int) by push_cast; rfl]; rw [wrap64] <;> omega
  · unfold endOf
    split <;> omega
end Go.Ev

/- Answers: what must be asked for, so that what one turned is put into the file. -/
set_option linter.unusedSimpArgs false
set_option linter.unusedVariables false
set_option maxRecDepth 100000
set_option maxHeartbeats 4000000
namespace Go.Ev
open Go.Proofs
structure PartOk (lo hi : Nat) (p : PartT) : Prop where
  frm : lo ≤ p.frm
  le : p.lo ≤ p.hi
  top : p.frm + (p.hi - p.lo) ≤ hi
  bd : p.hi ≤ 200
  h48 : hi ≤ 48
theorem parts_ok {sz mn lo hi : Nat} (P : LayP sz mn) (h48 : hi ≤ 48) : ∀ (n a : Nat), lo ≤ a → ∀ p ∈ partsF sz mn hi n a, PartOk lo hi p
  | 0, a, _ => by simp [partsF]
  | n + 1, a, h => by
    intro p hp
    rw [partsF] at hp
    split at hp
    · rename_i hlt
      obtain ⟨g1, g2, g3⟩ := endOf_gt P.s1 hlt
      have hpp := pos_lt P (j := a) (by omega)
      rcases List.mem_cons.1 hp with rfl | hp
      · exact ⟨h, by simp only [partAt]; omega, by simp only [partAt]; omega, by simp only [partAt]; omega, h48⟩
      · exact parts_ok P h48 n _ (by omega) p hp
    · simp at hp
def reqsP (who epoch : Int) (lo : Nat) (x : Bs) : List PartT → Int → List ReqT
  | [], _ => []
  | p :: ps, num => ⟨who, epoch, num, p.obj, p.lo, (x.take (p.frm - lo + (p.hi - p.lo))).drop (p.frm - lo)⟩ :: reqsP who epoch lo x ps (num + 1)
theorem reqsP_len (who epoch : Int) (lo : Nat) (x : Bs) : ∀ (ps : List PartT) (num : Int), (reqsP who epoch lo x ps num).length = ps.length
  | [], num => rfl
  | p :: ps, num => by simp [reqsP, reqsP_len who epoch lo x ps]
theorem reqsF_P {sz mn : Nat} (hs : 0 < sz) (who epoch : Int) (lo hi : Nat) (x : Bs) : ∀ (n a : Nat) (num : Int), lo ≤ a → reqsF sz mn who epoch lo x hi n a num = reqsP who epoch lo x (partsF sz mn hi n a) num
  | 0, a, num, h => rfl
  | n + 1, a, num, h => by
    rw [reqsF, partsF]
    by_cases hlt : a < hi
    · obtain ⟨g1, g2, g3⟩ := endOf_gt hs hlt
      rw [if_pos hlt, if_pos hlt, reqsP, reqsF_P hs who epoch lo hi x n _ _ (by omega)]
      simp only [partAt]
      rw [show a - lo + (posOf sz mn a + (endOf sz a hi - a) - posOf sz mn a) = endOf sz a hi - lo by omega]
    · rw [if_neg hlt, if_neg hlt]; rfl
/-- A patch that is one. -/
def PatOk (q : Pt) : Prop := ∃ lo hi : Nat, q.1 = lo ∧ q.2.length = hi - lo ∧ lo < hi ∧ hi ≤ 48
theorem pat_ok {t : Bs} {p : Sp} (ht : t.length = 48) (hp : 0 ≤ p.1 ∧ p.1 < p.2 ∧ p.2 ≤ 48) : ∀ (d : List Sp), (∀ s ∈ d, 0 ≤ s.1 ∧ s.1 < s.2 ∧ s.2 ≤ 48) → ∀ q ∈ patF t p d, PatOk q
  | [], _ => by simp [patF]
  | s :: d, hd => by
    intro q hq
    have hs := hd s (by simp)
    have hb := meet_bd hs hp
    rw [patF] at hq
    split at hq
    · rename_i e
      rw [ltI_iff] at e
      rcases List.mem_cons.1 hq with rfl | hq
      · refine ⟨(meetS s p).1.toNat, (meetS s p).2.toNat, by dsimp only; omega, ?_, by omega, by omega⟩
        simp only [subS, List.length_drop, List.length_take, ht]
        omega
      · exact pat_ok ht hp d (fun s hs => hd s (by simp [hs])) q hq
    · exact pat_ok ht hp d (fun s hs => hd s (by simp [hs])) q hq
/-- The numbers in use. -/
structure NumP (w : WorldT) (i : Nat) (ep last : Int) : Prop where
  e1 : i < w.epochs.length
  e2 : w.epochs[i] = ep
  l1 : i < w.st.last.length
  l2 : w.st.last[i] = last
  l3 : 0 ≤ last ∧ last ≤ 1000
  i3 : i < 3
theorem WorldP.numP {w : WorldT} (h : WorldP w) {i : Nat} (hi : i < 3) : NumP w i (w.ep i) (w.st.last.getD i 0) := by
  have h1 : i < w.epochs.length := by have := h.epochs; omega
  have h2 : i < w.st.last.length := by have := h.st.last; omega
  have h3 := h.st.nums i hi
  exact ⟨h1, (getD_lt _ h1).symm, h2, (getD_lt _ h2).symm, by omega, hi⟩
theorem WorldP.owB {w : WorldT} (h : WorldP w) {i : Nat} (hi : i < 3) : OwB (w.own i).t (w.own i).h (w.own i).d := by
  have hb := ownOk_bd (h.own i hi)
  have h1 := spsOk_len hb.2.1
  have h2 := spsOk_len hb.2.2.1
  exact ⟨by omega, by omega, by omega⟩
theorem WorldP.own_get {w : WorldT} (h : WorldP w) {i : Nat} (hi : i < 3) : ∃ hl : i < w.owns.length, w.owns[i] = w.own i := by
  have hl : i < w.owns.length := by have := h.owns; omega
  exact ⟨hl, (getD_lt _ hl).symm⟩
theorem WorldP.pats {w : WorldT} (h : WorldP w) {i : Nat} (hi : i < 3) {s : Sp} (hs : spOk s = true) : (∀ q ∈ patF (w.own i).t s (w.own i).d, PatOk q) ∧ (patF (w.own i).t s (w.own i).d).length ≤ 12 := by
  obtain ⟨b1, b2, b3, b4⟩ := ownOk_bd (h.own i hi)
  have := patF_len (w.own i).t s (w.own i).d
  have := spsOk_len b3
  exact ⟨pat_ok b1 (spOk_iff.1 hs) _ (spsOk_sp b3), by omega⟩
end Go.Ev

/- Answers: what must be asked for, the reference's; what is kept is not too much. -/
set_option linter.unusedSimpArgs false
set_option linter.unusedVariables false
set_option maxRecDepth 100000
set_option maxHeartbeats 4000000
namespace Go.Ev
open Go.Proofs
def lastSum (s : StoreT) : Int := s.last.getD 0 0 + s.last.getD 1 0 + s.last.getD 2 0
theorem lastSum_do {s : StoreT} {q : ReqT} (P : StoreP s) (h : (storeDo s q).2 = 0) : lastSum (storeDo s q).1 = lastSum s + 1 := by
  obtain ⟨h1, h2, h3, h4⟩ := storeDo_fine h
  obtain ⟨w1, w2⟩ := h1.who
  have hl := P.last
  rw [h4]
  simp only [lastSum, getD_set]
  rcases (by omega : q.who.toNat = 0 ∨ q.who.toNat = 1 ∨ q.who.toNat = 2) with e | e | e <;> rw [e] at h3 ⊢
  · rw [if_pos ⟨rfl, by omega⟩, if_neg (by omega), if_neg (by omega)]; omega
  · rw [if_neg (by omega), if_pos ⟨rfl, by omega⟩, if_neg (by omega)]; omega
  · rw [if_neg (by omega), if_neg (by omega), if_pos ⟨rfl, by omega⟩]; omega
theorem lastSum_all : ∀ (qs : List ReqT) {s : StoreT}, StoreP s → (storeAll s qs).2 = zeros qs → lastSum (storeAll s qs).1 = lastSum s + qs.length
  | [], s, P, h => by simp [storeAll]
  | q :: qs, s, P, h => by
    simp only [storeAll, zeros, List.map_cons, List.cons.injEq] at h ⊢
    rw [lastSum_all qs (storeDo_ok q P) h.2, lastSum_do P h.1]
    simp; omega
theorem fall_ok {s : StoreT} (h : StoreP s) : StoreP (storeFall s) :=
  ⟨h.sure, h.sureT, h.sure, h.sureT, h.slast, h.slast, h.floors, fun i hi => by have := h.nums i hi; simp only [storeFall]; omega⟩
theorem WorldP.keptN {w : WorldT} (h : WorldP w) : w.kept.length ≤ 3000 := by
  have h1 := lastSum_all w.kept (fall_ok h.st) (congrArg Prod.snd h.kept)
  rw [h.kept] at h1
  have n0 := h.st.nums 0 (by omega)
  have n1 := h.st.nums 1 (by omega)
  have n2 := h.st.nums 2 (by omega)
  simp only [lastSum, storeFall] at h1
  omega
theorem reqs_len {sz mn : Nat} (P : LayP sz mn) (who ep : Int) : ∀ (qs : List Pt) (num : Int), (∀ q ∈ qs, PatOk q) → (reqsAll sz mn who ep qs num).length ≤ qs.length * 48 ∧ ∀ q ∈ reqsAll sz mn who ep qs num, q.data.length ≤ 4000000
  | [], num, _ => by simp [reqsAll]
  | q :: qs, num, hq => by
    obtain ⟨lo, hi, q1, q2, q3, q4⟩ := hq q (by simp)
    obtain ⟨g1, g2⟩ := reqs_len P who ep qs (num + (reqsF sz mn who ep q.1.toNat q.2 (q.1.toNat + q.2.length) 48 q.1.toNat num).length) fun r hr => hq r (by simp [hr])
    rw [reqsAll]
    rw [q1, Int.toNat_natCast, show lo + q.2.length = hi by omega] at g1 g2 ⊢
    rw [reqsF_P P.s1 who ep lo hi _ 48 lo _ (Nat.le_refl _)] at g1 g2 ⊢
    have hl := reqsP_len who ep lo q.2 (partsF sz mn hi 48 lo) num
    have h48 := parts_len (sz := sz) (mn := mn) (hi := hi) 48 lo
    rw [hl] at g1 g2 ⊢
    refine ⟨by simp only [List.length_append, List.length_cons, hl]; omega, fun r hr => ?_⟩
    rcases List.mem_append.1 hr with hr | hr
    · have : ∀ (ps : List PartT) (num : Int), ∀ r ∈ reqsP who ep lo q.2 ps num, r.data.length ≤ 4000000 := by
        intro ps
        induction ps with
        | nil => intro num r hr; simp [reqsP] at hr
        | cons p ps ih =>
          intro num r hr
          rw [reqsP] at hr
          rcases List.mem_cons.1 hr with rfl | hr
          · simp only [List.length_drop, List.length_take]; omega
          · exact ih _ r hr
      exact this _ _ r hr
    · exact g2 r hr
theorem WorldP.reqsB {w : WorldT} (h : WorldP w) {i : Nat} (hi : i < 3) {s : Sp} (hs : spOk s = true) : (w.reqs i s).length ≤ 600 ∧ ∀ q ∈ w.reqs i s, q.data.length ≤ 4000000 := by
  obtain ⟨sz, mn, h1, h2, P⟩ := lay_nat (layOk_iff.2 h.lay)
  obtain ⟨hp1, hp2⟩ := h.pats hi hs
  have hr : w.reqs i s = reqsAll sz mn i (w.ep i) (patF (w.own i).t s (w.own i).d) (w.st.last.getD i 0 + 1) := by
    unfold WorldT.reqs
    rw [h1, h2, Int.toNat_natCast, Int.toNat_natCast]
  obtain ⟨g1, g2⟩ := reqs_len P i (w.ep i) (patF (w.own i).t s (w.own i).d) (w.st.last.getD i 0 + 1) hp1
  rw [hr]
  exact ⟨by omega, g2⟩
end Go.Ev

/- Answers: what one turned is put into the file: the program's and the reference's. -/
set_option linter.unusedSimpArgs false
set_option linter.unusedVariables false
set_option maxRecDepth 100000
set_option maxHeartbeats 4000000
namespace Go.Ev
open Go.Proofs
/-! ### is there a code that is not fine -/
def badAt : List Int → Int → Int
  | [], _ => -1
  | c :: cs, i => if eqI c 0 = true then badAt cs (i + 1) else i
theorem badAt_nn : ∀ (cs : List Int) (i : Int), 0 ≤ i → (!ltI (badAt cs i) 0) = !(cs.all fun c => eqI c 0)
  | [], i, h => by simp [badAt, ltI]
  | c :: cs, i, h => by
    rw [badAt]
    cases e : eqI c 0
    · have : ltI i 0 = false := ltI_not.2 h
      simp [this, e]
    · simp only [if_true, List.all_cons, e, Bool.true_and]
      exact badAt_nn cs (i + 1) (by omega)
def backsW (w : WorldT) (i : Nat) (s : Sp) : WorldT := { w with st := (storeAll w.st (w.reqs i s)).1, owns := w.owns.set i (cleanT (w.own i) s).1, kept := w.kept ++ w.reqs i s }
def backsB (w : WorldT) (i : Nat) (s : Sp) : Bool := (cleanT (w.own i) s).2 && (storeAll w.st (w.reqs i s)).2.all fun c => eqI c 0
theorem flush_backs (w : WorldT) (i : Nat) (s : Sp) : flushW w i s = if backsB w i s = true then some (backsW w i s) else none := by
  unfold flushW backsB backsW
  cases (storeAll w.st (w.reqs i s)).2.all fun c => eqI c 0 <;> cases (cleanT (w.own i) s).2 <;> rfl
theorem clean_chg {o : OwnT} (h : o.ok = true) (p : Sp) : chgI o.t o.h o.d (spOk p) (inF o.h) (fun j => if inF [p] j = true then false else inF o.d j) = rOB (cleanT o p).1.t (cleanT o p).1.h (cleanT o p).1.d (cleanT o p).2 := by
  have h1 : spansF (inF o.h) 48 0 = o.h := spans_self (ownOk_bd h).2.1
  have h2 : spansF (fun j => if inF [p] j = true then false else inF o.d j) 48 0 = cutS o.d p := spans_cut o.d p
  unfold chgI cleanT
  have h' : ownOk o.t o.h o.d = true := h
  rw [h1, h2, if_pos h']
  cases spOk p
  · rfl
  · simp only [if_true]
    cases ownOk o.t o.h (cutS o.d p) <;> rfl
theorem clean_spec {o : OwnT} (h : o.ok = true) (p : Sp) : cleanS o.t o.h o.d p = rOB (cleanT o p).1.t (cleanT o p).1.h (cleanT o p).1.d (cleanT o p).2 := by
  unfold cleanS cleanT
  have h' : ownOk o.t o.h o.d = true := h
  rw [if_pos h']
  cases spOk p
  · rfl
  · simp only [if_true]
    cases ownOk o.t o.h (cutS o.d p) <;> rfl
end Go.Ev

/- The law: unsaved writes are never dropped. -/
set_option linter.unusedSimpArgs false
set_option linter.unusedVariables false
set_option maxRecDepth 100000
set_option maxHeartbeats 4000000
namespace Go.Ev
open Go.Proofs
end Go.Ev

/- The law: unsaved work is kept. -/
set_option linter.unusedSimpArgs false
set_option linter.unusedVariables false
set_option maxRecDepth 100000
set_option maxHeartbeats 4000000
namespace Go.Ev
open Go.Proofs
theorem dirty_have {t : List UInt8} {h d : List Sp} (e : ownOk t h d = true) {j : Nat} (hj : j < 48) (hd : inF d j = true) : inF h j = true := by
  simp only [ownOk, Bool.and_eq_true] at e
  have := (allTo_iff _ 48 0).1 e.2 j (Nat.zero_le j) (by omega)
  simpa [okAt, hd] using this
theorem read_sub {t : List UInt8} {h d : List Sp} (e : ownOk t h d = true) {s : Sp} (hs : s ∈ d) : readS t h d s = (subS t s, true) := by
  obtain ⟨ht, hsh, hsd, _⟩ := ownOk_t e
  have hb := spsOk_sp hsd s hs
  have h1 : haveS h s = true := by
    simp only [haveS, hsh, spOk_iff.2 hb, Bool.true_and]
    rw [eqP_iff]
    intro j hj
    simp only [inF, List.any_cons, List.any_nil, Bool.or_false]
    cases e2 : inSp j s with
    | false => simp
    | true =>
      have := dirty_have e hj (inF_iff.2 ⟨s, hs, inSp_iff.1 e2⟩)
      simp only [inF] at this
      simp [this]
  simp only [readS, e, h1, if_true]
theorem drop_out {t : List UInt8} {h d : List Sp} (p : Sp) (e1 : ownOk t h d = true) : ∃ T H b', dropS t h d p = rOB T H d b' ∧ ownOk T H d = true ∧ ∀ j : Nat, inF d j = true → T[j]? = t[j]? := by
  cases e2 : spOk p
  · exact ⟨t, h, false, by simp [dropS, e1, e2], e1, fun _ _ => rfl⟩
  · cases e4 : ltI 0 (patF t p d).length
    · cases e3 : ownOk (overS t p (List.replicate (p.2 - p.1).toNat 46)) (cutS h p) d
      · exact ⟨t, h, false, by simp [dropS, e1, e2, e3, e4], e1, fun _ _ => rfl⟩
      · refine ⟨_, _, true, by simp [dropS, e1, e2, e3, e4], e3, fun j hj => ?_⟩
        have hp := spOk_iff.1 e2
        have hpat : patF t p d = [] := by
          have := ltI_not.1 e4
          exact List.length_eq_zero_iff.1 (by omega)
        obtain ⟨ht, hsh, hsd, _⟩ := ownOk_t e1
        obtain ⟨s, hs, hin⟩ := inF_iff.1 hj
        have hn := patF_nil t _ hp d hpat s hs (spsOk_sp hsd s hs) j (inSp_iff.2 hin)
        rw [← Bool.not_eq_true, inSp_iff] at hn
        obtain ⟨lo, hi, rfl, hp1, hp2⟩ := nat_sp hp
        have hn4 : ((hi : Int) - (lo : Int)).toNat = hi - lo := by omega
        dsimp only at hn
        simp only [hn4]
        rw [overS_get t (List.replicate (hi - lo) 46) lo hi (by omega) (by omega) (by simp) j, if_neg (by omega)]
    · exact ⟨t, h, false, by simp [dropS, e1, e2, e4], e1, fun _ _ => rfl⟩
theorem subS_keep {t t' : List UInt8} (s : Sp) (hs : 0 ≤ s.1) (h : ∀ j : Nat, inSp j s = true → t'[j]? = t[j]?) : subS t' s = subS t s := by
  refine List.ext_getElem? fun k => ?_
  simp only [subS, List.getElem?_drop]
  by_cases hk : s.1.toNat + k < s.2.toNat
  · rw [List.getElem?_take_of_lt hk, List.getElem?_take_of_lt hk]
    exact h _ (inSp_iff.2 ⟨by omega, by omega⟩)
  · rw [List.getElem?_eq_none (by simp; omega), List.getElem?_eq_none (by simp; omega)]
end Go.Ev

/- Answers: the program's writes into a cache. -/
set_option linter.unusedSimpArgs false
set_option linter.unusedVariables false
set_option maxRecDepth 100000
set_option maxHeartbeats 4000000
namespace Go.Ev
open Go.Proofs
theorem rows_over (s x : List UInt8) (k : Nat) : (rowsOfBytes s).take k ++ (rowsOfBytes x ++ (rowsOfBytes s).drop (k + x.length)) = rowsOfBytes (overS s ((k : Int), (k : Int) + x.length) x) := by
  have h2 : ((k : Int) + x.length).toNat = k + x.length := by omega
  simp [overS, rowsOfBytes, h2]
theorem rows_one (s : List UInt8) : ∀ x ∈ rowsOfBytes s, x.length = 1 := by
  intro x hx
  simp only [rowsOfBytes, List.mem_map] at hx
  obtain ⟨c, _, rfl⟩ := hx
  rfl
theorem wrOk_sp {k : Int} {x : List UInt8} (h : wrOk k x = true) : (0 ≤ k ∧ k < k + x.length ∧ k + x.length ≤ 48) ∧ x.all okB = true := by
  simp only [wrOk, Bool.and_eq_true, Bool.not_eq_true', ltI_not, eqS_not] at h
  have := List.length_pos_iff.2 h.1.2
  exact ⟨by omega, h.1.1.2.1⟩
theorem write_eq (t : List UInt8) (h d : List Sp) (k : Int) (x : List UInt8) : chgJ t h d (wrOk k x) (overS t (k, k + x.length) x) (fun j => if inF [(k, k + x.length)] j = true then true else inF h j) (fun j => if inF [(k, k + x.length)] j = true then true else inF d j) = writeS t h d k x := by
  unfold chgJ writeS
  rw [addS_spans, addS_spans]
def cutT (s : List UInt8) (n : Nat) : List UInt8 := sizedS s n
def manyN : List Sp → Int
  | [] => 0
  | s :: d => (s.2 - s.1) + manyN d
theorem manyN_bd : ∀ (d : List Sp), (∀ s ∈ d, 0 ≤ s.1 ∧ s.1 < s.2 ∧ s.2 ≤ 48) → 0 ≤ manyN d ∧ manyN d ≤ 48 * d.length
  | [], _ => by simp [manyN]
  | s :: d, h => by
    have h1 := h s (by simp)
    have h2 := manyN_bd d fun q hq => h q (by simp [hq])
    simp only [manyN, List.length_cons]
    omega
end Go.Ev

/- Plain laws of caches: what a write leaves; all is cleaned. -/
set_option linter.unusedSimpArgs false
set_option linter.unusedVariables false
namespace Go.Ev
open Go.Proofs
theorem patF_far (t : List UInt8) (q : Sp) (hq : 0 ≤ q.1 ∧ q.1 < q.2 ∧ q.2 ≤ 48) (d : List Sp) (h : ∀ s ∈ d, (0 ≤ s.1 ∧ s.1 < s.2 ∧ s.2 ≤ 48) ∧ q.2 ≤ s.1) : patF t q d = [] :=
  patF_cut t q hq d fun s hs => ⟨(h s hs).1, fun j h1 h2 => by
    rw [← Bool.not_eq_true, inSp_iff]
    have := (h s hs).2
    omega⟩
theorem patF_one (t : List UInt8) (q : Sp) (hq : 0 ≤ q.1 ∧ q.1 < q.2 ∧ q.2 ≤ 48) : ∀ (d : List Sp), Can 48 d → (∀ j : Nat, inSp j q = true → inF d j = true) → patF t q d = [(q.1, subS t q)]
  | [], _, h => by
    have := h q.1.toNat (inSp_iff.2 (by omega))
    cases this
  | s :: d, hc, h => by
    have hs := hc.ok s (by simp)
    have hpw := (List.pairwise_cons.1 hc.pw).1
    by_cases e : s.1 ≤ q.1 ∧ q.1 < s.2
    · have h2 : q.2 ≤ s.2 := by
        apply Classical.byContradiction
        intro hn
        have := h s.2.toNat (inSp_iff.2 (by omega))
        obtain ⟨u, hu, hj⟩ := inF_iff.1 this
        rcases List.mem_cons.1 hu with rfl | hu
        · omega
        · have := hpw u hu; omega
      have hm : meetS s q = q := by
        have a1 : ltI s.1 q.1 = true ∨ s.1 = q.1 := by rw [ltI_iff]; omega
        have : maxI s.1 q.1 = q.1 := by simp only [maxI, ltI, decide_eq_true_eq]; split <;> omega
        have : minI s.2 q.2 = q.2 := by simp only [minI, ltI, decide_eq_true_eq]; split <;> omega
        simp only [meetS, *]
      have hl : ltI q.1 q.2 = true := ltI_iff.2 (by omega)
      simp only [patF, hm, hl, if_true]
      rw [patF_far t q hq d fun u hu => ⟨hc.ok u (by simp [hu]), by have := hpw u hu; omega⟩]
    · have h0 := h q.1.toNat (inSp_iff.2 (by omega))
      obtain ⟨u, hu, hj⟩ := inF_iff.1 h0
      have hu : u ∈ d := by
        rcases List.mem_cons.1 hu with rfl | hu
        · exact absurd (by omega) e
        · exact hu
      have := hpw u hu
      have hl : ltI (meetS s q).1 (meetS s q).2 = false := by
        rw [ltI_not]
        have m1 := maxI_ge s.1 q.1
        have m2 := minI_le s.2 q.2
        simp only [meetS]
        omega
      simp only [patF, hl, Bool.false_eq_true, if_false]
      refine patF_one t q hq d hc.tail fun j hj => ?_
      have h1 := h j hj
      rw [inSp_iff] at hj
      obtain ⟨v, hv, hvj⟩ := inF_iff.1 h1
      rcases List.mem_cons.1 hv with rfl | hv
      · omega
      · exact inF_iff.2 ⟨v, hv, hvj⟩
theorem patF_self (t : List UInt8) : ∀ (d : List Sp), (∀ s ∈ d, 0 ≤ s.1 ∧ s.1 < s.2 ∧ s.2 ≤ 48) → patF t (0, 48) d = d.map fun s => (s.1, subS t s)
  | [], _ => rfl
  | s :: d, h => by
    have hs := h s (by simp)
    have hm : meetS s (0, 48) = s := by
      have : maxI s.1 0 = s.1 := by simp only [maxI, ltI, decide_eq_true_eq]; split <;> omega
      have : minI s.2 48 = s.2 := by simp only [minI, ltI, decide_eq_true_eq]; split <;> omega
      simp only [meetS, *]
    have hl : ltI s.1 s.2 = true := ltI_iff.2 (by omega)
    simp only [patF, hm, hl, if_true, List.map_cons]
    rw [patF_self t d fun q hq => h q (by simp [hq])]
theorem haveS_of {h : List Sp} {q : Sp} (hs : spsOk h = true) (hq : spOk q = true) (hin : ∀ j : Nat, inSp j q = true → inF h j = true) : haveS h q = true := by
  simp only [haveS, hs, hq, Bool.true_and]
  rw [eqP_iff]
  intro j hj
  simp only [inF, List.any_cons, List.any_nil, Bool.or_false]
  cases e : inSp j q with
  | false => simp
  | true =>
    have := hin j e
    simp only [inF] at this
    simp [this]
theorem addS_self {h : List Sp} {q : Sp} (hs : spsOk h = true) (hin : ∀ j : Nat, j < 48 → inSp j q = true → inF h j = true) : addS h q = h := by
  refine can_eq (of_can _).1 (spsOk_can hs) fun j hj => ?_
  show inF (addS h q) j = inF h j
  rw [addS_get h q j hj]
  cases e : inSp j q with
  | false => rfl
  | true => rw [hin j hj e]; rfl
theorem cutS_whole (d : List Sp) : cutS d (0, 48) = [] := by
  refine can_eq (of_can _).1 ⟨by simp, by simp⟩ fun j hj => ?_
  show inF (cutS d (0, 48)) j = inF [] j
  rw [cutS_get d (0, 48) j hj, show inSp j (0, 48) = true from inSp_iff.2 (by omega)]
  rfl
theorem subS_over {t x : List UInt8} {k : Nat} (ht : t.length = 48) (hk : k + x.length ≤ 48) : subS (overS t ((k : Int), (k : Int) + x.length) x) ((k : Int), (k : Int) + x.length) = x := by
  have h := overS_get t x k (k + x.length) (by omega) (by omega) (by omega)
  push_cast at h
  refine List.ext_getElem? fun i => ?_
  by_cases hi : i < x.length
  · rw [← Int.natCast_add, subS_get _ _ _ _ (by omega), Int.natCast_add, h, if_pos (by omega)]
    congr 1
    omega
  · rw [List.getElem?_eq_none (by simp [subS]; omega), List.getElem?_eq_none (by omega)]
theorem over_over {t x : List UInt8} {k : Nat} (ht : t.length = 48) (hk : k + x.length ≤ 48) : overS (overS t ((k : Int), (k : Int) + x.length) x) ((k : Int), (k : Int) + x.length) x = overS t ((k : Int), (k : Int) + x.length) x := by
  have h := overS_get t x k (k + x.length) (by omega) (by omega) (by omega)
  have hl := overS_len t x ((k : Int), (k : Int) + x.length) (by dsimp only; omega) (by dsimp only; omega) (by dsimp only; omega)
  push_cast at h
  dsimp only at hl
  have h2 := overS_get (overS t ((k : Int), (k : Int) + x.length) x) x k (k + x.length) (by omega) (by omega) (by omega)
  push_cast at h2
  refine List.ext_getElem? fun i => ?_
  rw [h2, h]
  split <;> rfl
theorem fillT_id {d : List Sp} {x : List UInt8} {lo hi : Nat} (h1 : lo ≤ hi) (h2 : hi ≤ 48) (hx : x.length = hi - lo) (t : List UInt8) (ht : t.length = 48) (hd : ∀ j : Nat, lo ≤ j → j < hi → inF d j = true) : fillT d x lo (hi - lo) lo t = t := by
  refine List.ext_getElem? fun j => ?_
  rw [fillT_get d x lo hi h1 h2 hx (hi - lo) lo t j (by omega) (by omega) ht]
  split
  · rename_i h
    rw [hd j h.1 (by omega)]
    simp
  · rfl
structure WrR (t : List UInt8) (h d : List Sp) (k : Int) (x : List UInt8) (T : List UInt8) (H D : List Sp) : Prop where
  ok : ownOk T H D = true
  res : writeS t h d k x = rOB T H D true
  read : readS T H D (k, k + x.length) = (x, true)
  pats : patI T H D (k, k + x.length) = [(k, x)]
  keep : ∀ i : Nat, i < 48 → ¬ ((k, k + (x.length : Int)).1 ≤ (i : Int) ∧ (i : Int) < (k, k + (x.length : Int)).2) → readS t h d ((i : Int), (i : Int) + 1) = readS T H D ((i : Int), (i : Int) + 1) ∧ inF d i = inF D i
  twice : writeS T H D k x = rOB T H D true
  fill : ∀ y : List UInt8, y.all okB = true → y.length = x.length → fillS T H D (k, k + x.length) y = rOB T H D true
theorem write_res {t : List UInt8} {h d : List Sp} {k : Int} {x : List UInt8} (e1 : ownOk t h d = true) (e2 : wrOk k x = true) (e3 : ownOk (overS t (k, k + x.length) x) (addS h (k, k + x.length)) (addS d (k, k + x.length)) = true) :
    WrR t h d k x (overS t (k, k + x.length) x) (addS h (k, k + x.length)) (addS d (k, k + x.length)) := by
  have hr : writeS t h d k x = rOB (overS t (k, k + x.length) x) (addS h (k, k + x.length)) (addS d (k, k + x.length)) true := by simp only [writeS, e1, e2, e3, if_true]
  obtain ⟨hk, hxo⟩ := wrOk_sp e2
  obtain ⟨n, rfl⟩ : ∃ n : Nat, k = n := ⟨k.toNat, by omega⟩
  have hq : spOk ((n : Int), (n : Int) + x.length) = true := spOk_iff.2 (by dsimp only; omega)
  obtain ⟨ht, hsh, hsd, _⟩ := ownOk_t e1
  obtain ⟨hT, hsH, hsD, _⟩ := ownOk_t e3
  have hget := overS_get t x n (n + x.length) (by omega) (by omega) (by omega)
  push_cast at hget
  have hsub := subS_over (x := x) ht (show n + x.length ≤ 48 by omega)
  have hoo := over_over (x := x) ht (show n + x.length ≤ 48 by omega)
  have hH : ∀ j : Nat, j < 48 → inF (addS h ((n : Int), (n : Int) + x.length)) j = (inSp j ((n : Int), (n : Int) + x.length) || inF h j) := fun j hj => addS_get h _ j hj
  have hD : ∀ j : Nat, j < 48 → inF (addS d ((n : Int), (n : Int) + x.length)) j = (inSp j ((n : Int), (n : Int) + x.length) || inF d j) := fun j hj => addS_get d _ j hj
  generalize overS t ((n : Int), (n : Int) + x.length) x = T at *
  generalize addS h ((n : Int), (n : Int) + x.length) = H at *
  generalize addS d ((n : Int), (n : Int) + x.length) = D at *
  have iH : ∀ j : Nat, inSp j ((n : Int), (n : Int) + x.length) = true → inF H j = true := fun j hj => by
    have hj' := inSp_iff.1 hj
    dsimp only at hj'
    rw [hH j (by omega), hj]; rfl
  have iD : ∀ j : Nat, inSp j ((n : Int), (n : Int) + x.length) = true → inF D j = true := fun j hj => by
    have hj' := inSp_iff.1 hj
    dsimp only at hj'
    rw [hD j (by omega), hj]; rfl
  have aH := addS_self hsH fun j _ hj => iH j hj
  have aD := addS_self hsD fun j _ hj => iD j hj
  refine ⟨e3, hr, ?_, ?_, fun i hi hn => ?_, ?_, fun y hy hl => ?_⟩
  · simp only [readS, e3, haveS_of hsH hq iH, if_true, hsub]
  · simp only [patI, e3, hq, if_true]
    rw [patF_one T _ (by dsimp only; omega) D (spsOk_can hsD) iD, hsub]
  · have hno : inSp i ((n : Int), (n : Int) + x.length) = false := by rw [← Bool.not_eq_true, inSp_iff]; exact hn
    refine ⟨read_keep e1 e3 hi (by rw [hH i hi, hno]; rfl) ?_, by rw [hD i hi, hno]; rfl⟩
    rw [hget i, if_neg (by dsimp only at hn; omega)]
  · simp only [writeS, e2, hoo, aH, aD, e3, if_true]
  · have hf : fillOk ((n : Int), (n : Int) + x.length) y = true := by
      simp only [fillOk, hq, hy, Bool.true_and, Bool.and_eq_true, Bool.not_eq_true', ltI_not, eqI_iff]
      omega
    have h4 : ((n : Int) + x.length - (n : Int)).toNat = (n + x.length) - n := by omega
    have hid := fillT_id (d := D) (x := y) (lo := n) (hi := n + x.length) (by omega) (by omega) (by omega) T hT fun j h1 h2 => iD j (inSp_iff.2 (by dsimp only; omega))
    simp only [fillS, e3, hf, if_true, wrap_i, h4, hid, aH]
end Go.Ev

/- The law: what is written is read, and is all that is to be saved there. -/
set_option linter.unusedSimpArgs false
set_option linter.unusedVariables false
set_option maxRecDepth 100000
set_option maxHeartbeats 4000000
namespace Go.Ev
open Go.Proofs
theorem writeS_not {t : List UInt8} {h d : List Sp} {k : Int} {x : List UInt8} (e1 : ownOk t h d = true) (hn : ¬ (wrOk k x = true ∧ ownOk (overS t (k, k + x.length) x) (addS h (k, k + x.length)) (addS d (k, k + x.length)) = true)) : writeS t h d k x = rOB t h d false := by
  unfold writeS
  rw [if_pos e1]
  split
  · rename_i e2
    rw [if_neg fun e3 => hn ⟨e2, e3⟩]
  · rfl
theorem ev_same_none (m m' : M) (hm : m.isOwn = false) (hm' : m'.isOwn = false) : ev E 33 [.v m true [.str [], .sl [], .sl []], .v m' true [.str [], .sl [], .sl []]] = some (rB true) :=
  (ev_OwnSame m m' hm hm' [] [] [] [] [] [] (by simp) (by simp)).trans (by simp)
end Go.Ev

/- Answers: a lock given: the program's. -/
set_option linter.unusedSimpArgs false
set_option linter.unusedVariables false
set_option maxRecDepth 100000
set_option maxHeartbeats 4000000
namespace Go.Ev
open Go.Proofs
abbrev rOT (o : OwnT) (b : Bool) : Out := rOB o.t o.h o.d b
theorem drop_T {o : OwnT} (h : o.ok = true) (p : Sp) : dropS o.t o.h o.d p = rOT (dropT o p).1 (dropT o p).2 := by
  unfold dropS dropT
  rw [if_pos (show ownOk o.t o.h o.d = true from h)]
  have hl : eqI (patF o.t p o.d).length 0 = !ltI 0 (patF o.t p o.d).length := by
    rw [Bool.eq_iff_iff, eqI_iff, Bool.not_eq_true', ltI_not]; omega
  rw [hl]
  cases spOk p
  · rfl
  · cases ltI 0 (patF o.t p o.d).length
    · simp only [if_true, Bool.false_eq_true, if_false, Bool.not_false, Bool.and_self]
      cases ownOk (overS o.t p (List.replicate (p.2 - p.1).toNat 46)) (cutS o.h p) o.d <;> rfl
    · rfl
theorem fill_T {o : OwnT} (h : o.ok = true) (p : Sp) (x : Bs) : fillS o.t o.h o.d p x = rOT (fillT1 o p x).1 (fillT1 o p x).2 := by
  unfold fillS fillT1
  rw [if_pos (show ownOk o.t o.h o.d = true from h)]
  cases fillOk p x
  · rfl
  · simp only [if_true]
    cases ownOk (fillT o.d x p.1.toNat (p.2 - p.1).toNat p.1.toNat o.t) (addS o.h p) o.d <;> rfl
theorem write_T {o : OwnT} (h : o.ok = true) (k : Int) (x : Bs) : writeS o.t o.h o.d k x = rOT (writeT1 o k x).1 (writeT1 o k x).2 := by
  unfold writeS writeT1
  rw [if_pos (show ownOk o.t o.h o.d = true from h)]
  cases wrOk k x
  · rfl
  · simp only [if_true]
    cases ownOk (overS o.t (k, k + x.length) x) (addS o.h (k, k + x.length)) (addS o.d (k, k + x.length)) <;> rfl
theorem OwnT.owB {o : OwnT} (h : o.ok = true) : OwB o.t o.h o.d := by
  have hb := ownOk_bd h
  have h1 := spsOk_len hb.2.1
  have h2 := spsOk_len hb.2.2.1
  exact ⟨by omega, by omega, by omega⟩
theorem give_bars {t : List HoldT} (P : LockP t) {i : Nat} (hi : i < 3) {write : Bool} {s : Sp} (hs : spOk s = true) (hg : (lockGive t i write s).2 = true) : lockBars t i write s = [] := by
  have hsp := spOk_iff.1 hs
  unfold lockBars
  rw [List.filter_eq_nil_iff]
  intro k hk
  have hk : k < 3 := List.mem_range.1 hk
  have h48 : ∀ j : Nat, inSp j s = true → j < 48 := fun j hj => by rw [inSp_iff] at hj; omega
  by_cases hne : k = i
  · simp [barsAt, hne]
  have hL : ∀ h' : HoldT, LockP (t.set i h') → (∀ j : Nat, inSp j s = true → inF h'.w j = true ∨ (write = false ∧ inF h'.r j = true)) → ¬ barsAt t i write s k = true := by
    intro h' L hin
    have e1 : (t.set i h').getD i noH = h' := by rw [lock_set t i i h' P.len hi, if_pos rfl]
    have e2 : (t.set i h').getD k noH = t.getD k noH := by rw [lock_set t i k h' P.len hk, if_neg (fun e => hne e.symm)]
    have a1 := L.ww i k hi hk hne
    have a2 := L.wr i k hi hk hne
    have a3 := L.wr k i hk hi (fun e => hne e.symm)
    rw [e1, e2] at a1 a2 a3
    have hone : ∀ p ∈ [s], 0 ≤ p.1 ∧ p.1 < p.2 ∧ p.2 ≤ 48 := fun p hp => by simp only [List.mem_singleton] at hp; subst hp; exact hsp
    have c1 : clearS (t.getD k noH).w [s] = true := (clearS_iff (spsOk_sp (P.w k hk)) hone).2 fun j hj => by
      rw [one_in] at hj
      rcases hin j hj.2 with q | ⟨_, q⟩
      · exact a1 j ⟨q, hj.1⟩
      · exact a3 j ⟨hj.1, q⟩
    have c2 : write = true → clearS (t.getD k noH).r [s] = true := fun hw => (clearS_iff (spsOk_sp (P.r k hk)) hone).2 fun j hj => by
      rw [one_in] at hj
      rcases hin j hj.2 with q | ⟨q, _⟩
      · exact a2 j ⟨q, hj.1⟩
      · rw [hw] at q; cases q
    unfold barsAt
    cases write
    · rw [c1]; simp
    · rw [c1, c2 rfl]; simp
  cases write
  · have hp := putL_ok (t := t) (i := i) (h := ⟨ofL (fun j => (inSp j s || inF (t.getD i noH).r j) && !inF (t.getD i noH).w j) 48 0 [], (t.getD i noH).w⟩) hg
    refine hL ⟨ofL (fun j => (inSp j s || inF (t.getD i noH).r j) && !inF (t.getD i noH).w j) 48 0 [], (t.getD i noH).w⟩ hp.1 fun j hj => ?_
    dsimp only
    rw [of_get _ (h48 j hj), hj]
    cases inF (t.getD i noH).w j
    · exact .inr ⟨rfl, rfl⟩
    · exact .inl rfl
  · have hp := putL_ok (t := t) (i := i) (h := ⟨cutS (t.getD i noH).r s, addS (t.getD i noH).w s⟩) hg
    refine hL ⟨cutS (t.getD i noH).r s, addS (t.getD i noH).w s⟩ hp.1 fun j hj => .inl ?_
    dsimp only
    rw [addS_get _ _ j (h48 j hj), hj]; rfl
theorem putL_no {t : List HoldT} {i : Nat} {h : HoldT} (e : (putL t i h).2 = false) : putL t i h = (t, false) := by
  unfold putL at e ⊢
  split at e
  · cases e
  · rename_i hn; rw [if_neg hn]
theorem give_no {t : List HoldT} {i : Nat} {write : Bool} {s : Sp} (e : (lockGive t i write s).2 = false) : lockGive t i write s = (t, false) := by
  unfold lockGive at e ⊢
  cases write
  · exact putL_no e
  · exact putL_no e
theorem give_I {t : List HoldT} (P : LockP t) {i : Nat} (hi : i < 3) (write : Bool) {s : Sp} (hs : spOk s = true) : giveI t i write s = rLk (lockGive t i write s).1 (lockGive t i write s).2 := by
  have hw : whoOk (i : Int) = true := by simp only [whoOk, Bool.and_eq_true, Bool.not_eq_true', ltI_not, ltI_iff]; omega
  unfold giveI barsL
  rw [if_pos (lockOk_iff.2 P), hw, hs, Int.toNat_natCast]
  cases e : (lockGive t i write s).2
  · rw [give_no e]
    cases eqI ((lockBars t i write s).map (fun k : Nat => (k : Int))).length 0 <;> rfl
  · rw [give_bars P hi hs e]
    simp [e]
/-! ### one makes way -/
def yieldI (w : WorldT) (k : Nat) (write : Bool) (s : Sp) : WorldT × Bool :=
  if backsB w k s = true then
    if write = true then
      if (lockDrop (backsW w k s).locks k s).2 = true then
        ({ backsW w k s with locks := (lockDrop (backsW w k s).locks k s).1, owns := (backsW w k s).owns.set k (dropT ((backsW w k s).own k) s).1 }, (dropT ((backsW w k s).own k) s).2)
      else ({ backsW w k s with locks := (lockDrop (backsW w k s).locks k s).1 }, false)
    else ({ backsW w k s with locks := (lockDown (backsW w k s).locks k s).1 }, (lockDown (backsW w k s).locks k s).2)
  else (backsW w k s, false)
theorem yield_I (w : WorldT) (k : Nat) (write : Bool) (s : Sp) : yieldW w k write s = if (yieldI w k write s).2 = true then some (yieldI w k write s).1 else none := by
  unfold yieldW yieldI
  rw [flush_backs]
  cases backsB w k s
  · rfl
  · simp only [if_true]
    cases write
    · simp only [Bool.false_eq_true, if_false]
    · simp only [if_true]
      cases e1 : (lockDrop (backsW w k s).locks k s).2
      · rfl
      · simp only [Bool.true_and, if_true]
def yieldsI (write : Bool) (s : Sp) : List Nat → WorldT → WorldT × Bool
  | [], w => (w, true)
  | k :: ks, w => if (yieldI w k write s).2 = true then yieldsI write s ks (yieldI w k write s).1 else ((yieldI w k write s).1, false)
theorem yields_I (write : Bool) (s : Sp) : ∀ (ks : List Nat) (w : WorldT), yieldsW write s ks w = if (yieldsI write s ks w).2 = true then some (yieldsI write s ks w).1 else none
  | [], w => rfl
  | k :: ks, w => by
    rw [yieldsW, yieldsI, yield_I]
    cases e : (yieldI w k write s).2
    · rfl
    · simp only [if_true]
      exact yields_I write s ks _
abbrev adp0 : AV := .ad (.p 0) 0 0 0 []
end Go.Ev

/- Answers: a lock given by the program. -/
set_option linter.unusedSimpArgs false
set_option linter.unusedVariables false
set_option maxRecDepth 100000
set_option maxHeartbeats 8000000
namespace Go.Ev
open Go.Proofs
theorem who_ok {k : Nat} (h : k < 3) : whoOk (k : Int) = true := by simp only [whoOk, Bool.and_eq_true, Bool.not_eq_true', ltI_not, ltI_iff]; omega
theorem down_I {t : List HoldT} (P : LockP t) {k : Nat} (hk : k < 3) {s : Sp} (hs : spOk s = true) : downI t k s = rLk (lockDown t k s).1 (lockDown t k s).2 := by
  unfold downI
  rw [if_pos (lockOk_iff.2 P), who_ok hk, hs, Int.toNat_natCast]; rfl
theorem drop_I {t : List HoldT} (P : LockP t) {k : Nat} (hk : k < 3) {s : Sp} (hs : spOk s = true) : dropI t k s = rLk (lockDrop t k s).1 (lockDrop t k s).2 := by
  unfold dropI
  rw [if_pos (lockOk_iff.2 P), who_ok hk, hs, Int.toNat_natCast]; rfl
theorem backs_ok {w : WorldT} (hw : WorldP w) {k : Nat} (hk : k < 3) (ha : w.live k = true) {s : Sp} (h : backsB w k s = true) : WorldP (backsW w k s) :=
  (flushW_ok hw hk ha (by rw [flush_backs, if_pos h])).ok
def locksI (w : WorldT) (i : Nat) (write : Bool) (s : Sp) : WorldT × Int :=
  if ((lockBars w.locks i write s).any fun k => !w.live k) = true then (w, 22)
  else if (yieldsI write s (lockBars w.locks i write s) w).2 = true then
    ({ (yieldsI write s (lockBars w.locks i write s) w).1 with locks := (lockGive (yieldsI write s (lockBars w.locks i write s) w).1.locks i write s).1 }, if (lockGive (yieldsI write s (lockBars w.locks i write s) w).1.locks i write s).2 = true then 0 else 24)
  else ((yieldsI write s (lockBars w.locks i write s) w).1, 24)
theorem locks_I (w : WorldT) (i : Nat) (write : Bool) (s : Sp) : (locksI w i write s).2 = (lockW w i write s).2 ∧ ((lockW w i write s).2 = 0 → (locksI w i write s).1 = (lockW w i write s).1) := by
  unfold locksI lockW
  rw [yields_I]
  cases (lockBars w.locks i write s).any fun k => !w.live k
  · simp only [Bool.false_eq_true, if_false]
    cases (yieldsI write s (lockBars w.locks i write s) w).2
    · exact ⟨rfl, fun h => by simp at h⟩
    · simp only [if_true]
      cases (lockGive (yieldsI write s (lockBars w.locks i write s) w).1.locks i write s).2
      · exact ⟨rfl, fun h => by simp at h⟩
      · exact ⟨rfl, fun _ => rfl⟩
  · exact ⟨rfl, fun _ => rfl⟩
end Go.Ev
