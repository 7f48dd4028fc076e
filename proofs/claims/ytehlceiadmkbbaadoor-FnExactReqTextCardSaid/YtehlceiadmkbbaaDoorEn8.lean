/- My texts joined: EvW3, EvW4, EvW5, EvW6. No condition. -/
import Derived.Test.YtehlceiadmkbbaaDoorEn7
/- Plain words: worlds, and what happens in them. No program in sight. -/
set_option linter.unusedSimpArgs false
set_option linter.unusedVariables false
namespace Go.Ev
structure OwnT where
  t : Bs
  h : List Sp
  d : List Sp
def noO : OwnT := ⟨List.replicate 48 46, [], []⟩
def OwnT.ok (o : OwnT) : Bool := ownOk o.t o.h o.d
def cleanT (o : OwnT) (p : Sp) : OwnT × Bool := if spOk p = true then (if ownOk o.t o.h (cutS o.d p) = true then (⟨o.t, o.h, cutS o.d p⟩, true) else (o, false)) else (o, false)
def dropT (o : OwnT) (p : Sp) : OwnT × Bool :=
  if (spOk p && eqI (patF o.t p o.d).length 0) = true then
    if ownOk (overS o.t p (List.replicate (p.2 - p.1).toNat 46)) (cutS o.h p) o.d = true then (⟨overS o.t p (List.replicate (p.2 - p.1).toNat 46), cutS o.h p, o.d⟩, true) else (o, false)
  else (o, false)
def fillT1 (o : OwnT) (p : Sp) (x : Bs) : OwnT × Bool :=
  if fillOk p x = true then
    if ownOk (fillT o.d x p.1.toNat (p.2 - p.1).toNat p.1.toNat o.t) (addS o.h p) o.d = true then (⟨fillT o.d x p.1.toNat (p.2 - p.1).toNat p.1.toNat o.t, addS o.h p, o.d⟩, true) else (o, false)
  else (o, false)
def writeT1 (o : OwnT) (k : Int) (x : Bs) : OwnT × Bool :=
  if wrOk k x = true then
    if ownOk (overS o.t (k, k + x.length) x) (addS o.h (k, k + x.length)) (addS o.d (k, k + x.length)) = true then (⟨overS o.t (k, k + x.length) x, addS o.h (k, k + x.length), addS o.d (k, k + x.length)⟩, true) else (o, false)
  else (o, false)
structure WorldT where
  size : Int
  many : Int
  st : StoreT
  locks : List HoldT
  owns : List OwnT
  epochs : List Int
  alive : List Bool
  kept : List ReqT
  late : List ReqT
structure EvT where
  kind : Int
  who : Int
  write : Bool
  span : Sp
  pos : Int
  data : Bs
def WorldT.own (w : WorldT) (i : Nat) : OwnT := w.owns.getD i noO
def WorldT.lock (w : WorldT) (i : Nat) : HoldT := w.locks.getD i noH
def WorldT.ep (w : WorldT) (i : Nat) : Int := w.epochs.getD i 0
def WorldT.live (w : WorldT) (i : Nat) : Bool := w.alive.getD i false
def WorldT.byte (w : WorldT) (j : Nat) : UInt8 := fileAt w.size.toNat w.many.toNat w.st.now j
def WorldT.file (w : WorldT) : Bs := (List.range 48).map w.byte
def whole : Sp := (0, 48)
def zeros (qs : List ReqT) : List Int := qs.map fun _ => 0
/-- Of a world that is right, for sure. -/
structure WorldP (w : WorldT) : Prop where
  lay : 1 ≤ w.size ∧ w.size ≤ 8 ∧ 1 ≤ w.many ∧ w.many ≤ 3
  st : StoreP w.st
  lk : LockP w.locks
  owns : w.owns.length = 3
  epochs : w.epochs.length = 3
  alive : w.alive.length = 3
  lateN : w.late.length ≤ 8
  own : ∀ i, i < 3 → (w.own i).ok = true
  ep : ∀ i, i < 3 → w.st.floors.getD i 0 ≤ w.ep i ∧ w.ep i ≤ 100
  dead : ∀ i, i < 3 → w.live i = false → w.own i = noO
  kept : storeAll (storeFall w.st) w.kept = (w.st, zeros w.kept)
  keptE : ∀ q ∈ w.kept, q.epoch = w.ep q.who.toNat
  late : ∀ q ∈ w.late, ReqP q ∧ q.epoch < w.st.floors.getD q.who.toNat 0
  held : ∀ i, i < 3 → ∀ j : Nat, j < 48 → inF (w.own i).h j = true → (inF (w.lock i).w j = true ∨ (inF (w.own i).d j = false ∧ inF (w.lock i).r j = true)) ∧ (inF (w.own i).d j = true ∨ (w.own i).t.getD j 0 = w.byte j)
/-! ### events -/
def WorldT.reqs (w : WorldT) (i : Nat) (s : Sp) : List ReqT := reqsAll w.size.toNat w.many.toNat i (w.ep i) (patF (w.own i).t s (w.own i).d) (w.st.last.getD i 0 + 1)
def flushW (w : WorldT) (i : Nat) (s : Sp) : Option WorldT :=
  if ((storeAll w.st (w.reqs i s)).2.all fun c => eqI c 0) = true then
    if (cleanT (w.own i) s).2 = true then some { w with st := (storeAll w.st (w.reqs i s)).1, owns := w.owns.set i (cleanT (w.own i) s).1, kept := w.kept ++ w.reqs i s } else none
  else none
def putL (t : List HoldT) (i : Nat) (h : HoldT) : List HoldT × Bool := if lockOk (t.set i h) = true then (t.set i h, true) else (t, false)
def lockDrop (t : List HoldT) (i : Nat) (s : Sp) : List HoldT × Bool := putL t i ⟨cutS (t.getD i noH).r s, cutS (t.getD i noH).w s⟩
def lockDown (t : List HoldT) (i : Nat) (s : Sp) : List HoldT × Bool := putL t i ⟨ofL (fun j => inF (t.getD i noH).r j || (inSp j s && inF (t.getD i noH).w j)) 48 0 [], cutS (t.getD i noH).w s⟩
def lockGive (t : List HoldT) (i : Nat) (write : Bool) (s : Sp) : List HoldT × Bool :=
  if write = true then putL t i ⟨cutS (t.getD i noH).r s, addS (t.getD i noH).w s⟩
  else putL t i ⟨ofL (fun j => (inSp j s || inF (t.getD i noH).r j) && !inF (t.getD i noH).w j) 48 0 [], (t.getD i noH).w⟩
def barsAt (t : List HoldT) (i : Nat) (write : Bool) (s : Sp) (k : Nat) : Bool := !(k == i) && (!clearS (t.getD k noH).w [s] || (write && !clearS (t.getD k noH).r [s]))
def lockBars (t : List HoldT) (i : Nat) (write : Bool) (s : Sp) : List Nat := (List.range 3).filter (barsAt t i write s)
def yieldW (w : WorldT) (k : Nat) (write : Bool) (s : Sp) : Option WorldT :=
  match flushW w k s with
  | none => none
  | some x =>
    if write = true then
      if ((lockDrop x.locks k s).2 && (dropT (x.own k) s).2) = true then some { x with owns := x.owns.set k (dropT (x.own k) s).1, locks := (lockDrop x.locks k s).1 } else none
    else if (lockDown x.locks k s).2 = true then some { x with locks := (lockDown x.locks k s).1 } else none
def yieldsW (write : Bool) (s : Sp) : List Nat → WorldT → Option WorldT
  | [], w => some w
  | k :: ks, w => match yieldW w k write s with | some x => yieldsW write s ks x | none => none
def lockW (w : WorldT) (i : Nat) (write : Bool) (s : Sp) : WorldT × Int :=
  if ((lockBars w.locks i write s).any fun k => !w.live k) = true then (w, 22)
  else match yieldsW write s (lockBars w.locks i write s) w with
    | none => (w, 24)
    | some x => if (lockGive x.locks i write s).2 = true then ({ x with locks := (lockGive x.locks i write s).1 }, 0) else (w, 24)
def mayAt (h : HoldT) (write : Bool) (j : Nat) : Bool := inF h.w j || (!write && inF h.r j)
def lockMay (h : HoldT) (write : Bool) (s : Sp) : Bool := allTo (mayAt h write) (s.2 - s.1).toNat s.1.toNat
def readW (w : WorldT) (i : Nat) (s : Sp) : WorldT × Bs × Int :=
  if lockMay (w.lock i) false s = true then
    if (fillT1 (w.own i) s (subS w.file s)).2 = true then ({ w with owns := w.owns.set i (fillT1 (w.own i) s (subS w.file s)).1 }, subS (fillT1 (w.own i) s (subS w.file s)).1.t s, 0) else (w, [], 24)
  else (w, [], 23)
def writeW (w : WorldT) (i : Nat) (k : Int) (x : Bs) : WorldT × Int :=
  if wrOk k x = true then
    if lockMay (w.lock i) true (k, k + x.length) = true then
      if (writeT1 (w.own i) k x).2 = true then ({ w with owns := w.owns.set i (writeT1 (w.own i) k x).1 }, 0) else (w, 24)
    else (w, 23)
  else (w, 20)
/-- What is late: of the requests, those that are right, as long as there is room. -/
def addLate : List ReqT → List ReqT → List ReqT
  | late, [] => late
  | late, q :: qs => if (reqOk q && ltI late.length 8) = true then addLate (late ++ [q]) qs else addLate late qs
def evictW (w : WorldT) (i : Nat) : WorldT × Int :=
  if ltI (w.ep i) 100 = true then
    ({ w with st := storeFence (storeSync w.st) i (w.ep i + 1), kept := [], epochs := w.epochs.set i (w.ep i + 1), locks := w.locks.set i noH, owns := w.owns.set i noO, alive := w.alive.set i true, late := addLate w.late (w.reqs i whole) }, 0)
  else (w, 24)
def giveW (w : WorldT) (k : Int) : WorldT × Int :=
  if (ltI k 0 || !ltI k w.late.length) = true then (w, 20)
  else ({ w with late := w.late.take k.toNat ++ w.late.drop (k.toNat + 1), st := (storeDo w.st (w.late.getD k.toNat ⟨0, 0, 0, 0, 0, []⟩)).1 }, (storeDo w.st (w.late.getD k.toNat ⟨0, 0, 0, 0, 0, []⟩)).2)
def dieW (w : WorldT) (i : Nat) : WorldT := { w with alive := w.alive.set i false, owns := w.owns.set i noO }
def formEv (e : EvT) : Bool := ltI e.kind 1 || ltI 9 e.kind || !whoOk e.who || ((eqI e.kind 1 || eqI e.kind 2) && !spOk e.span)
def whoW (w : WorldT) (e : EvT) : WorldT × Bs × Int :=
  if e.kind = 1 then ((lockW w e.who.toNat e.write e.span).1, [], (lockW w e.who.toNat e.write e.span).2)
  else if e.kind = 2 then readW w e.who.toNat e.span
  else if e.kind = 3 then ((writeW w e.who.toNat e.pos e.data).1, [], (writeW w e.who.toNat e.pos e.data).2)
  else if e.kind = 4 then (match flushW w e.who.toNat whole with | some x => (x, [], 0) | none => (w, [], 24))
  else (dieW w e.who.toNat, [], 0)
def doW (w : WorldT) (e : EvT) : WorldT × Bs × Int :=
  if e.kind = 5 then ({ w with st := storeSync w.st, kept := [] }, [], 0)
  else if e.kind = 6 then ({ w with st := (storeAll (storeFall w.st) w.kept).1 }, [], 0)
  else if e.kind = 9 then ((giveW w e.pos).1, [], (giveW w e.pos).2)
  else if formEv e = true then (w, [], 20)
  else if e.kind = 8 then ((evictW w e.who.toNat).1, [], (evictW w e.who.toNat).2)
  else if w.live e.who.toNat = false then (w, [], 21)
  else whoW w e
/-! ### what a cache's changes come to -/
theorem ownOk_have {o : OwnT} (h : o.ok = true) {j : Nat} (hj : j < 48) (hd : inF o.d j = true) : inF o.h j = true := by
  simp only [OwnT.ok, ownOk, Bool.and_eq_true] at h
  have := (allTo_iff _ 48 0).1 h.2 j (Nat.zero_le j) (by omega)
  simpa [okAt, hd] using this
theorem inF_lt {xs : List Sp} (h : spsOk xs = true) {j : Nat} (hj : inF xs j = true) : j < 48 := by
  obtain ⟨s, hs, _, h2⟩ := inF_iff.1 hj
  have := spsOk_sp h s hs
  omega
theorem cleanT_ok {o : OwnT} {p : Sp} (h : (cleanT o p).2 = true) : spOk p = true ∧ ownOk o.t o.h (cutS o.d p) = true ∧ (cleanT o p).1 = ⟨o.t, o.h, cutS o.d p⟩ := by
  unfold cleanT at h ⊢
  split at h
  · split at h
    · rename_i a b
      exact ⟨a, b, by rw [if_pos a, if_pos b]⟩
    · cases h
  · cases h
theorem dropT_ok {o : OwnT} {p : Sp} (h : (dropT o p).2 = true) : spOk p = true ∧ patF o.t p o.d = [] ∧ (dropT o p).1.ok = true ∧ (dropT o p).1 = ⟨overS o.t p (List.replicate (p.2 - p.1).toNat 46), cutS o.h p, o.d⟩ := by
  unfold dropT at h ⊢
  split at h
  · split at h
    · rename_i a b
      rw [if_pos a, if_pos b]
      simp only [Bool.and_eq_true, eqI_iff] at a
      exact ⟨a.1, List.length_eq_zero_iff.1 (by omega), b, rfl⟩
    · cases h
  · cases h
theorem fillT1_ok {o : OwnT} {p : Sp} {x : Bs} (h : (fillT1 o p x).2 = true) : fillOk p x = true ∧ (fillT1 o p x).1.ok = true ∧ (fillT1 o p x).1 = ⟨fillT o.d x p.1.toNat (p.2 - p.1).toNat p.1.toNat o.t, addS o.h p, o.d⟩ := by
  unfold fillT1 at h ⊢
  split at h
  · split at h
    · rename_i a b
      rw [if_pos a, if_pos b]
      exact ⟨a, b, rfl⟩
    · cases h
  · cases h
theorem writeT1_ok {o : OwnT} {k : Int} {x : Bs} (h : (writeT1 o k x).2 = true) : wrOk k x = true ∧ (writeT1 o k x).1.ok = true ∧ (writeT1 o k x).1 = ⟨overS o.t (k, k + x.length) x, addS o.h (k, k + x.length), addS o.d (k, k + x.length)⟩ := by
  unfold writeT1 at h ⊢
  split at h
  · split at h
    · rename_i a b
      rw [if_pos a, if_pos b]
      exact ⟨a, b, rfl⟩
    · cases h
  · cases h
theorem putL_ok {t : List HoldT} {i : Nat} {h : HoldT} (e : (putL t i h).2 = true) : LockP (t.set i h) ∧ (putL t i h).1 = t.set i h := by
  unfold putL at e ⊢
  split at e
  · rename_i a
    rw [if_pos a]
    exact ⟨lockOk_iff.1 a, rfl⟩
  · cases e
end Go.Ev

/- Plain words: what happens in a right world leaves a right world. No program in sight. -/
set_option linter.unusedSimpArgs false
set_option linter.unusedVariables false
namespace Go.Ev
theorem own_set (w : WorldT) (i k : Nat) (o : OwnT) (hl : w.owns.length = 3) (hk : k < 3) : (w.owns.set i o).getD k noO = if i = k then o else w.own k := by
  rw [getD_set]
  by_cases h : i = k
  · rw [if_pos ⟨h, by omega⟩, if_pos h]
  · rw [if_neg (fun q => h q.1), if_neg h]; rfl
theorem lock_set (t : List HoldT) (i k : Nat) (o : HoldT) (hl : t.length = 3) (hk : k < 3) : (t.set i o).getD k noH = if i = k then o else t.getD k noH := by
  rw [getD_set]
  by_cases h : i = k
  · rw [if_pos ⟨h, by omega⟩, if_pos h]
  · rw [if_neg (fun q => h q.1), if_neg h]
theorem ownOk_bd {o : OwnT} (h : o.ok = true) : o.t.length = 48 ∧ spsOk o.h = true ∧ spsOk o.d = true ∧ o.t.all okB = true := ownOk_t h
theorem noO_ok : noO.ok = true := by decide
theorem fine_all {cs : List Int} : (cs.all fun c => eqI c 0) = true ↔ fineAll cs := by
  simp only [List.all_eq_true, eqI_iff, fineAll]
/-- Where one has turned a place, nobody else keeps it. -/
theorem WorldP.sole {w : WorldT} (h : WorldP w) {i k j : Nat} (hi : i < 3) (hk : k < 3) (hne : k ≠ i) (hj : j < 48) (hd : inF (w.own i).d j = true) : inF (w.own k).h j = false := by
  rw [← Bool.not_eq_true]
  intro hh
  have h1 := ownOk_have (h.own i hi) hj hd
  have hw : inF (w.lock i).w j = true := by
    rcases (h.held i hi j hj h1).1 with q | ⟨q, _⟩
    · exact q
    · rw [hd] at q; cases q
  rcases (h.held k hk j hj hh).1 with q | ⟨_, q⟩
  · exact h.lk.ww i k hi hk hne j ⟨hw, q⟩
  · exact h.lk.wr i k hi hk hne j ⟨hw, q⟩
structure FlushR (w : WorldT) (i : Nat) (s : Sp) (x : WorldT) : Prop where
  ok : WorldP x
  size : x.size = w.size
  many : x.many = w.many
  locks : x.locks = w.locks
  epochs : x.epochs = w.epochs
  alive : x.alive = w.alive
  late : x.late = w.late
  own : ∀ k, k < 3 → x.own k = if i = k then ⟨(w.own i).t, (w.own i).h, cutS (w.own i).d s⟩ else w.own k
  byte : ∀ j, x.byte j = if (inSp j s && inF (w.own i).d j) = true then (w.own i).t.getD j 0 else w.byte j
  floors : x.st.floors = w.st.floors
  keptN : w.kept.length ≤ x.kept.length
theorem flushW_ok {w x : WorldT} {i : Nat} {s : Sp} (hw : WorldP w) (hi : i < 3) (ha : w.live i = true) (h : flushW w i s = some x) : FlushR w i s x := by
  unfold flushW at h
  split at h <;> try (cases h; done)
  rename_i hf
  split at h <;> cases h
  rename_i hc
  rw [fine_all] at hf
  obtain ⟨hs, hok, hce⟩ := cleanT_ok hc
  have hp := spOk_iff.1 hs
  obtain ⟨ht, hsh, hsd, hob⟩ := ownOk_bd (hw.own i hi)
  obtain ⟨l1, l2, l3, l4⟩ := hw.lay
  obtain ⟨k1, k2, k3⟩ := storeAll_keeps (w.reqs i s) w.st
  have hby : ∀ j, fileAt w.size.toNat w.many.toNat (storeAll w.st (w.reqs i s)).1.now j = if (inSp j s && inF (w.own i).d j) = true then (w.own i).t.getD j 0 else w.byte j := fun j =>
    reqsAll_file (by omega) (by omega) (by omega) (w.own i).t s ht hp (w.own i).d _ w.st hw.st (spsOk_sp hsd) hf j
  have hown : ∀ k, k < 3 → (w.owns.set i (cleanT (w.own i) s).1).getD k noO = if i = k then ⟨(w.own i).t, (w.own i).h, cutS (w.own i).d s⟩ else w.own k := fun k hk => by
    rw [own_set w i k _ hw.owns hk, hce]
  have hcd : ∀ j, j < 48 → inF (cutS (w.own i).d s) j = (!inSp j s && inF (w.own i).d j) := cutS_get (w.own i).d s
  refine ⟨⟨hw.lay, storeAll_ok (s := w.st) _ hw.st, hw.lk, by simpa using hw.owns, hw.epochs, hw.alive, hw.lateN, fun k hk => ?_, fun k hk => ?_, fun k hk hd => ?_, ?_, fun q hq => ?_, fun q hq => ?_, fun k hk j hj hh => ?_⟩, rfl, rfl, rfl, rfl, rfl, rfl, hown, hby, k3, by simp⟩
  · show OwnT.ok ((w.owns.set i (cleanT (w.own i) s).1).getD k noO) = true
    rw [hown k hk]
    split
    · exact hok
    · exact hw.own k hk
  · show (storeAll w.st (w.reqs i s)).1.floors.getD k 0 ≤ _ ∧ _
    rw [k3]; exact hw.ep k hk
  · show (w.owns.set i (cleanT (w.own i) s).1).getD k noO = noO
    rw [hown k hk]
    have hne : i ≠ k := fun e => by
      subst e
      rw [show w.live i = false from hd] at ha; cases ha
    rw [if_neg hne]
    exact hw.dead k hk hd
  · show storeAll (storeFall (storeAll w.st (w.reqs i s)).1) (w.kept ++ w.reqs i s) = ((storeAll w.st (w.reqs i s)).1, zeros (w.kept ++ w.reqs i s))
    rw [storeFall_all, storeAll_app, hw.kept]
    dsimp only
    congr 1
    simp only [zeros, List.map_append, List.append_cancel_left_eq]
    have hl := storeAll_len (w.reqs i s) w.st
    generalize (storeAll w.st (w.reqs i s)).2 = cs at hf hl
    refine List.ext_getElem (by simp [hl]) fun n h1 h2 => ?_
    rw [hf _ (List.getElem_mem h1)]
    simp
  · rcases List.mem_append.1 hq with hq | hq
    · exact hw.keptE q hq
    · obtain ⟨e1, e2⟩ := reqsAll_who _ _ _ _ _ _ q hq
      rw [e1, e2]
      rfl
  · show ReqP q ∧ q.epoch < (storeAll w.st (w.reqs i s)).1.floors.getD q.who.toNat 0
    rw [k3]; exact hw.late q hq
  · have hbk := hby j
    change inF ((w.owns.set i (cleanT (w.own i) s).1).getD k noO).h j = true at hh
    show (inF (w.lock k).w j = true ∨ (inF ((w.owns.set i (cleanT (w.own i) s).1).getD k noO).d j = false ∧ inF (w.lock k).r j = true)) ∧ (inF ((w.owns.set i (cleanT (w.own i) s).1).getD k noO).d j = true ∨ ((w.owns.set i (cleanT (w.own i) s).1).getD k noO).t.getD j 0 = fileAt w.size.toNat w.many.toNat (storeAll w.st (w.reqs i s)).1.now j)
    rw [hown k hk] at hh ⊢
    rw [hbk]
    by_cases hik : i = k
    · subst hik
      simp only [if_true] at hh ⊢
      obtain ⟨g1, g2⟩ := hw.held i hi j hj hh
      rw [hcd j hj]
      constructor
      · rcases g1 with g | ⟨g, g'⟩
        · exact .inl g
        · exact .inr ⟨by rw [g]; simp, g'⟩
      · cases e1 : inF (w.own i).d j
        · rw [e1] at g2
          simp only [Bool.false_eq_true, false_or] at g2
          right
          simp only [Bool.and_false, Bool.false_eq_true, if_false]
          exact g2
        · cases e2 : inSp j s
          · left; rfl
          · right; simp
    · rw [if_neg hik] at hh ⊢
      obtain ⟨g1, g2⟩ := hw.held k hk j hj hh
      refine ⟨g1, ?_⟩
      have : inF (w.own i).d j = false := by
        rw [← Bool.not_eq_true]
        intro hd
        have := hw.sole hi hk (fun e => hik e.symm) hj hd
        rw [hh] at this; cases this
      rw [this, Bool.and_false]
      exact g2
/-- A lock of one is turned, and what one keeps; nothing else. -/
theorem WorldP.turn {w : WorldT} (hw : WorldP w) {i : Nat} (hi : i < 3) (o : OwnT) (h : HoldT) (hl : LockP (w.locks.set i h)) (ho : o.ok = true) (ha : w.live i = true)
    (hh : ∀ j : Nat, j < 48 → inF o.h j = true → (inF h.w j = true ∨ (inF o.d j = false ∧ inF h.r j = true)) ∧ (inF o.d j = true ∨ o.t.getD j 0 = w.byte j)) :
    WorldP { w with owns := w.owns.set i o, locks := w.locks.set i h } := by
  have hown : ∀ k, k < 3 → (w.owns.set i o).getD k noO = if i = k then o else w.own k := fun k hk => own_set w i k _ hw.owns hk
  have hlk : ∀ k, k < 3 → (w.locks.set i h).getD k noH = if i = k then h else w.lock k := fun k hk => lock_set w.locks i k _ hw.lk.len hk
  refine ⟨hw.lay, hw.st, hl, by simpa using hw.owns, hw.epochs, hw.alive, hw.lateN, fun k hk => ?_, hw.ep, fun k hk hd => ?_, hw.kept, hw.keptE, hw.late, fun k hk j hj hhv => ?_⟩
  · show OwnT.ok ((w.owns.set i o).getD k noO) = true
    rw [hown k hk]
    split
    · exact ho
    · exact hw.own k hk
  · show (w.owns.set i o).getD k noO = noO
    rw [hown k hk]
    have hne : i ≠ k := fun e => by
      subst e
      rw [show w.live i = false from hd] at ha; cases ha
    rw [if_neg hne]
    exact hw.dead k hk hd
  · change inF ((w.owns.set i o).getD k noO).h j = true at hhv
    show (inF ((w.locks.set i h).getD k noH).w j = true ∨ (inF ((w.owns.set i o).getD k noO).d j = false ∧ inF ((w.locks.set i h).getD k noH).r j = true)) ∧ (inF ((w.owns.set i o).getD k noO).d j = true ∨ ((w.owns.set i o).getD k noO).t.getD j 0 = w.byte j)
    rw [hown k hk] at hhv ⊢
    rw [hlk k hk]
    by_cases hik : i = k
    · simp only [if_pos hik] at hhv ⊢
      exact hh j hj hhv
    · simp only [if_neg hik] at hhv ⊢
      exact hw.held k hk j hj hhv
theorem own_self (w : WorldT) {i : Nat} (h : w.owns.length = 3) (hi : i < 3) : w.owns.set i (w.own i) = w.owns := by
  have : i < w.owns.length := by omega
  rw [show w.own i = w.owns[i] by simp [WorldT.own, List.getD_eq_getElem?_getD, this]]
  exact List.set_getElem_self this
theorem lock_self (w : WorldT) {i : Nat} (h : w.locks.length = 3) (hi : i < 3) : w.locks.set i (w.lock i) = w.locks := by
  have : i < w.locks.length := by omega
  rw [show w.lock i = w.locks[i] by simp [WorldT.lock, List.getD_eq_getElem?_getD, this]]
  exact List.set_getElem_self this
theorem of_get (f : Nat → Bool) {j : Nat} (hj : j < 48) : inF (ofL f 48 0 []) j = f j := (of_can f).2 j hj
/-- What is kept of a world when one makes way. -/
structure YieldR (w : WorldT) (k : Nat) (write : Bool) (s : Sp) (x : WorldT) : Prop where
  ok : WorldP x
  size : x.size = w.size
  many : x.many = w.many
  epochs : x.epochs = w.epochs
  alive : x.alive = w.alive
  late : x.late = w.late
  lock : ∀ q, q < 3 → q ≠ k → x.lock q = w.lock q
  own : ∀ q, q < 3 → q ≠ k → x.own q = w.own q
  byte : ∀ j, x.byte j = if (inSp j s && inF (w.own k).d j) = true then (w.own k).t.getD j 0 else w.byte j
  dirty : ∀ j, j < 48 → inF (x.own k).d j = (!inSp j s && inF (w.own k).d j)
  text : ∀ j, inF (x.own k).d j = true → (x.own k).t.getD j 0 = (w.own k).t.getD j 0
  lw : ∀ j, j < 48 → inF (x.lock k).w j = (!inSp j s && inF (w.lock k).w j)
  lr : ∀ j, j < 48 → write = true → inF (x.lock k).r j = (!inSp j s && inF (w.lock k).r j)
  lr2 : ∀ j, j < 48 → inF (x.lock k).r j = true → inF (w.lock k).r j = true ∨ inF (w.lock k).w j = true
  floors : x.st.floors = w.st.floors
theorem yieldW_ok {w x : WorldT} {k : Nat} {write : Bool} {s : Sp} (hw : WorldP w) (hk : k < 3) (ha : w.live k = true) (h : yieldW w k write s = some x) : YieldR w k write s x := by
  unfold yieldW at h
  split at h <;> try (cases h; done)
  rename_i y hy
  have F := flushW_ok hw hk ha hy
  have hay : y.live k = true := by unfold WorldT.live at ha ⊢; rw [F.alive]; exact ha
  have hok := F.own k hk
  rw [if_pos rfl] at hok
  have hsp : spOk s = true := by
    unfold flushW at hy
    split at hy <;> try (cases hy; done)
    split at hy <;> cases hy
    rename_i hc
    exact (cleanT_ok hc).1
  have hcd : ∀ j, j < 48 → inF (cutS (w.own k).d s) j = (!inSp j s && inF (w.own k).d j) := cutS_get (w.own k).d s
  have hby : y.lock k = w.lock k := by unfold WorldT.lock; rw [F.locks]
  have hdlt : ∀ j, inF (w.own k).d j = true → j < 48 := fun j hj => inF_lt (ownOk_bd (hw.own k hk)).2.2.1 hj
  have hylen : y.owns.length = 3 := F.ok.owns
  have hllen : y.locks.length = 3 := F.ok.lk.len
  split at h
  · rename_i hwr
    split at h <;> cases h
    rename_i hc
    rw [Bool.and_eq_true] at hc
    obtain ⟨hl, hle⟩ := putL_ok hc.1
    obtain ⟨_, hpat, hdo, hde⟩ := dropT_ok hc.2
    have hld : (lockDrop y.locks k s).1 = y.locks.set k ⟨cutS (y.lock k).r s, cutS (y.lock k).w s⟩ := hle
    rw [hby] at hld
    rw [hld]
    have hl' : LockP (y.locks.set k ⟨cutS (w.lock k).r s, cutS (w.lock k).w s⟩) := by rw [← hby]; exact hl
    rw [hde] at hdo ⊢
    rw [hok] at hdo hpat ⊢
    dsimp only at hdo hpat ⊢
    have hp := spOk_iff.1 hsp
    obtain ⟨lo, hi, hs, hlo, hhi⟩ := nat_sp hp
    have ht48 := (ownOk_bd (hw.own k hk)).1
    have htx : ∀ j : Nat, inSp j s = false → (overS (w.own k).t s (List.replicate (s.2 - s.1).toNat 46)).getD j 0 = (w.own k).t.getD j 0 := fun j hj => by
      subst hs
      rw [List.getD_eq_getElem?_getD, overS_get _ _ lo hi (by omega) (by omega) (by simp), if_neg, List.getD_eq_getElem?_getD]
      rw [← Bool.not_eq_true, inSp_iff] at hj
      dsimp only at hj
      omega
    have W := F.ok.turn hk ⟨overS (w.own k).t s (List.replicate (s.2 - s.1).toNat 46), cutS (w.own k).h s, cutS (w.own k).d s⟩ ⟨cutS (w.lock k).r s, cutS (w.lock k).w s⟩ hl' hdo hay (fun j hj hh => by
      dsimp only at hh ⊢
      rw [cutS_get _ s j hj, Bool.and_eq_true, Bool.not_eq_true'] at hh
      have := F.ok.held k hk j hj (by rw [hok]; exact hh.2)
      rw [hby, hok] at this
      dsimp only at this
      rw [cutS_get _ s j hj, cutS_get _ s j hj, cutS_get _ s j hj] at *
      rw [hh.1] at this ⊢
      rw [htx j hh.1]
      simpa using this)
    refine ⟨W, F.size, F.many, F.epochs, F.alive, F.late, fun q hq hne => ?_, fun q hq hne => ?_, F.byte, fun j hj => ?_, fun j hj => ?_, fun j hj => ?_, fun j hj _ => ?_, fun j hj hh => ?_, F.floors⟩
    · show (y.locks.set k _).getD q noH = _
      rw [lock_set _ _ _ _ hllen hq, if_neg (fun e => hne e.symm)]
      show y.lock q = _
      unfold WorldT.lock; rw [F.locks]
    · show (y.owns.set k _).getD q noO = _
      rw [own_set _ _ _ _ hylen hq, if_neg (fun e => hne e.symm), F.own q hq, if_neg (fun e => hne e.symm)]
    · show inF ((y.owns.set k _).getD k noO).d j = _
      rw [own_set _ _ _ _ hylen hk, if_pos rfl]
      exact hcd j hj
    · change inF ((y.owns.set k _).getD k noO).d j = true at hj
      show ((y.owns.set k _).getD k noO).t.getD j 0 = _
      rw [own_set _ _ _ _ hylen hk, if_pos rfl] at hj ⊢
      dsimp only at hj ⊢
      have hlt := inF_lt (ownOk_bd hdo).2.2.1 hj
      rw [hcd j hlt, Bool.and_eq_true, Bool.not_eq_true'] at hj
      exact htx j hj.1
    · show inF ((y.locks.set k _).getD k noH).w j = _
      rw [lock_set _ _ _ _ hllen hk, if_pos rfl]
      exact cutS_get _ s j hj
    · show inF ((y.locks.set k _).getD k noH).r j = _
      rw [lock_set _ _ _ _ hllen hk, if_pos rfl]
      exact cutS_get _ s j hj
    · change inF ((y.locks.set k _).getD k noH).r j = true at hh
      rw [lock_set _ _ _ _ hllen hk, if_pos rfl] at hh
      dsimp only at hh
      rw [cutS_get _ s j hj, Bool.and_eq_true] at hh
      exact .inl hh.2
  · rename_i hwr
    split at h <;> cases h
    rename_i hc
    obtain ⟨hl, hle⟩ := putL_ok hc
    have hld : (lockDown y.locks k s).1 = y.locks.set k ⟨ofL (fun j => inF (y.lock k).r j || (inSp j s && inF (y.lock k).w j)) 48 0 [], cutS (y.lock k).w s⟩ := hle
    rw [hby] at hld
    rw [hld]
    have hl' : LockP (y.locks.set k ⟨ofL (fun j => inF (w.lock k).r j || (inSp j s && inF (w.lock k).w j)) 48 0 [], cutS (w.lock k).w s⟩) := by rw [← hby]; exact hl
    have W := F.ok.turn hk (y.own k) ⟨ofL (fun j => inF (w.lock k).r j || (inSp j s && inF (w.lock k).w j)) 48 0 [], cutS (w.lock k).w s⟩ hl' (F.ok.own k hk) hay (fun j hj hh => by
      have := F.ok.held k hk j hj hh
      rw [hby] at this
      refine ⟨?_, this.2⟩
      dsimp only
      rw [cutS_get _ s j hj, of_get _ hj]
      have hd : inF (y.own k).d j = (!inSp j s && inF (w.own k).d j) := by rw [hok]; exact hcd j hj
      rw [hd] at this ⊢
      cases e1 : inSp j s <;> cases e2 : inF (w.lock k).w j <;> cases e3 : inF (w.lock k).r j <;> simp [e1, e2, e3] at this ⊢
      all_goals first | exact this.1 | skip)
    rw [own_self y hylen hk] at W
    refine ⟨W, F.size, F.many, F.epochs, F.alive, F.late, fun q hq hne => ?_, fun q hq hne => ?_, F.byte, fun j hj => ?_, fun j hj => ?_, fun j hj => ?_, fun j hj hx => absurd hx hwr, fun j hj hh => ?_, F.floors⟩
    · show (y.locks.set k _).getD q noH = _
      rw [lock_set _ _ _ _ hllen hq, if_neg (fun e => hne e.symm)]
      show y.lock q = _
      unfold WorldT.lock; rw [F.locks]
    · show y.own q = _
      rw [F.own q hq, if_neg (fun e => hne e.symm)]
    · show inF (y.own k).d j = _
      rw [hok]
      exact hcd j hj
    · show (y.own k).t.getD j 0 = _
      rw [hok]
    · show inF ((y.locks.set k _).getD k noH).w j = _
      rw [lock_set _ _ _ _ hllen hk, if_pos rfl]
      exact cutS_get _ s j hj
    · change inF ((y.locks.set k _).getD k noH).r j = true at hh
      rw [lock_set _ _ _ _ hllen hk, if_pos rfl] at hh
      dsimp only at hh
      rw [of_get _ hj, Bool.or_eq_true, Bool.and_eq_true] at hh
      exact hh.imp id fun q => q.2
end Go.Ev

/- Plain words: what happens in a right world leaves a right world (second part). No program in sight. -/
set_option linter.unusedSimpArgs false
set_option linter.unusedVariables false
namespace Go.Ev
/-- What is kept of a world when some make way. -/
structure YieldsR (w : WorldT) (ks : List Nat) (write : Bool) (s : Sp) (x : WorldT) : Prop where
  ok : WorldP x
  size : x.size = w.size
  many : x.many = w.many
  epochs : x.epochs = w.epochs
  alive : x.alive = w.alive
  late : x.late = w.late
  lock : ∀ q, q < 3 → q ∉ ks → x.lock q = w.lock q
  own : ∀ q, q < 3 → q ∉ ks → x.own q = w.own q
  dirty : ∀ q, q < 3 → q ∈ ks → ∀ j, j < 48 → inF (x.own q).d j = (!inSp j s && inF (w.own q).d j)
  text : ∀ q, q < 3 → ∀ j, inF (x.own q).d j = true → (x.own q).t.getD j 0 = (w.own q).t.getD j 0
  byte : ∀ j, x.byte j = w.byte j ∨ ∃ q, q < 3 ∧ q ∈ ks ∧ inSp j s = true ∧ inF (w.own q).d j = true ∧ x.byte j = (w.own q).t.getD j 0
  put : ∀ q, q < 3 → q ∈ ks → ∀ j : Nat, j < 48 → inSp j s = true → inF (w.own q).d j = true → x.byte j = (w.own q).t.getD j 0
  lw : ∀ q, q < 3 → q ∈ ks → ∀ j, j < 48 → inF (x.lock q).w j = (!inSp j s && inF (w.lock q).w j)
  lr : write = true → ∀ q, q < 3 → q ∈ ks → ∀ j, j < 48 → inF (x.lock q).r j = (!inSp j s && inF (w.lock q).r j)
  lr2 : ∀ q, q < 3 → ∀ j, j < 48 → inF (x.lock q).r j = true → inF (w.lock q).r j = true ∨ inF (w.lock q).w j = true
  floors : x.st.floors = w.st.floors
theorem yieldsW_ok {write : Bool} {s : Sp} : ∀ (ks : List Nat) {w x : WorldT}, WorldP w → (∀ k ∈ ks, k < 3 ∧ w.live k = true) → ks.Nodup → yieldsW write s ks w = some x → YieldsR w ks write s x
  | [], w, x, hw, _, _, h => by
    simp only [yieldsW, Option.some.injEq] at h
    subst h
    exact ⟨hw, rfl, rfl, rfl, rfl, rfl, fun _ _ _ => rfl, fun _ _ _ => rfl, fun _ _ h => absurd h (by simp), fun _ _ _ _ => rfl, fun _ => .inl rfl, fun _ _ h => absurd h (by simp), fun _ _ h => absurd h (by simp), fun _ _ _ h => absurd h (by simp), fun _ _ _ _ h => .inl h, rfl⟩
  | k :: ks, w, x, hw, hk, hnd, h => by
    simp only [yieldsW] at h
    split at h <;> try (cases h; done)
    rename_i y hy
    obtain ⟨hk3, hka⟩ := hk k (by simp)
    have Y := yieldW_ok hw hk3 hka hy
    have hnk := (List.nodup_cons.1 hnd).1
    have X := yieldsW_ok ks Y.ok (fun q hq => ⟨(hk q (by simp [hq])).1, by have := (hk q (by simp [hq])).2; unfold WorldT.live at this ⊢; rw [Y.alive]; exact this⟩) (List.nodup_cons.1 hnd).2 h
    refine ⟨X.ok, X.size.trans Y.size, X.many.trans Y.many, X.epochs.trans Y.epochs, X.alive.trans Y.alive, X.late.trans Y.late, fun q hq hn => ?_, fun q hq hn => ?_, fun q hq hm j hj => ?_, fun q hq j hj => ?_, fun j => ?_, fun q hq hm j hj hs hd => ?_, fun q hq hm j hj => ?_, fun hwr q hq hm j hj => ?_, fun q hq j hj hh => ?_, X.floors.trans Y.floors⟩
    · simp only [List.mem_cons, not_or] at hn
      rw [X.lock q hq hn.2, Y.lock q hq hn.1]
    · simp only [List.mem_cons, not_or] at hn
      rw [X.own q hq hn.2, Y.own q hq hn.1]
    · rcases List.mem_cons.1 hm with rfl | hm
      · rw [X.own q hq hnk]; exact Y.dirty j hj
      · have hne : q ≠ k := fun e => hnk (e ▸ hm)
        rw [X.dirty q hq hm j hj, Y.own q hq hne]
    · rw [X.text q hq j hj]
      by_cases hqk : q = k
      · subst hqk
        rw [X.own q hq hnk] at hj
        exact Y.text j hj
      · rw [Y.own q hq hqk]
    · have hy := Y.byte j
      rcases X.byte j with e | ⟨q, hq, hm, h1, h2, h3⟩
      · rw [e, hy]
        by_cases hc : (inSp j s && inF (w.own k).d j) = true
        · rw [if_pos hc]
          rw [Bool.and_eq_true] at hc
          exact .inr ⟨k, hk3, by simp, hc.1, hc.2, rfl⟩
        · rw [if_neg hc]; exact .inl rfl
      · have hne : q ≠ k := fun e => hnk (e ▸ hm)
        rw [Y.own q hq hne] at h2 h3
        exact .inr ⟨q, hq, by simp [hm], h1, h2, h3⟩
    · rcases List.mem_cons.1 hm with rfl | hm
      · have hy := Y.byte j
        rw [hs, hd] at hy
        simp only [Bool.and_self, if_true] at hy
        rcases X.byte j with e | ⟨p, hp, hpm, _, h2, _⟩
        · rw [e, hy]
        · have hne : p ≠ q := fun e => hnk (e ▸ hpm)
          rw [Y.own p hp hne] at h2
          have := ownOk_have (hw.own p hp) hj h2
          rw [hw.sole hq hp hne hj hd] at this
          cases this
      · have hne : q ≠ k := fun e => hnk (e ▸ hm)
        have := X.put q hq hm j hj hs (by rw [Y.own q hq hne]; exact hd)
        rw [this, Y.own q hq hne]
    · rcases List.mem_cons.1 hm with rfl | hm
      · rw [X.lock q hq hnk]; exact Y.lw j hj
      · have hne : q ≠ k := fun e => hnk (e ▸ hm)
        rw [X.lw q hq hm j hj, Y.lock q hq hne]
    · rcases List.mem_cons.1 hm with rfl | hm
      · rw [X.lock q hq hnk]; exact Y.lr j hj hwr
      · have hne : q ≠ k := fun e => hnk (e ▸ hm)
        rw [X.lr hwr q hq hm j hj, Y.lock q hq hne]
    · by_cases hqk : q = k
      · subst hqk
        rw [X.lock q hq hnk] at hh
        exact Y.lr2 j hj hh
      · have := X.lr2 q hq j hj hh
        rw [Y.lock q hq hqk] at this
        exact this
theorem bars_mem {t : List HoldT} {i k : Nat} {write : Bool} {s : Sp} : k ∈ lockBars t i write s ↔ k < 3 ∧ barsAt t i write s k = true := by
  simp [lockBars]
theorem bars_nodup (t : List HoldT) (i : Nat) (write : Bool) (s : Sp) : (lockBars t i write s).Nodup := by
  unfold lockBars
  exact List.Nodup.sublist List.filter_sublist List.nodup_range
/-- A lock given. -/
theorem give_ok {x : WorldT} {i : Nat} {write : Bool} {s : Sp} (hx : WorldP x) (hi : i < 3) (ha : x.live i = true) (h : (lockGive x.locks i write s).2 = true) :
    WorldP { x with locks := (lockGive x.locks i write s).1 } ∧
    (lockGive x.locks i write s).1 = x.locks.set i (if write = true then ⟨cutS (x.lock i).r s, addS (x.lock i).w s⟩ else ⟨ofL (fun j => (inSp j s || inF (x.lock i).r j) && !inF (x.lock i).w j) 48 0 [], (x.lock i).w⟩) := by
  unfold lockGive at h ⊢
  cases hwr : write
  · rw [hwr] at h
    simp only [Bool.false_eq_true, if_false] at h ⊢
    obtain ⟨hl, hle⟩ := putL_ok h
    refine ⟨?_, hle⟩
    rw [hle]
    have W := hx.turn hi (x.own i) _ hl (hx.own i hi) ha (fun j hj hh => by
      have := hx.held i hi j hj hh
      refine ⟨?_, this.2⟩
      dsimp only
      rw [of_get _ hj]
      change inF (x.lock i).w j = true ∨ inF (x.own i).d j = false ∧ ((inSp j s || inF (x.lock i).r j) && !inF (x.lock i).w j) = true
      rcases this.1 with q | ⟨q1, q2⟩
      · exact .inl q
      · refine .inr ⟨q1, ?_⟩
        have : inF (x.lock i).w j = false := by
          rw [← Bool.not_eq_true]
          exact fun hw => hx.lk.rw i hi j ⟨q2, hw⟩
        rw [q2, this]; simp)
    rwa [own_self x hx.owns hi] at W
  · rw [hwr] at h
    simp only [if_true] at h ⊢
    obtain ⟨hl, hle⟩ := putL_ok h
    refine ⟨?_, hle⟩
    rw [hle]
    have W := hx.turn hi (x.own i) _ hl (hx.own i hi) ha (fun j hj hh => by
      have := hx.held i hi j hj hh
      refine ⟨?_, this.2⟩
      dsimp only
      rw [cutS_get _ s j hj, addS_get _ s j hj]
      change (inSp j s || inF (x.lock i).w j) = true ∨ inF (x.own i).d j = false ∧ (!inSp j s && inF (x.lock i).r j) = true
      rcases this.1 with q | ⟨q1, q2⟩
      · left; rw [q]; simp
      · cases e : inSp j s
        · right; exact ⟨q1, by rw [q2]; rfl⟩
        · left; rfl)
    rwa [own_self x hx.owns hi] at W
theorem lockW_ok {w : WorldT} {i : Nat} {write : Bool} {s : Sp} (hw : WorldP w) (hi : i < 3) (ha : w.live i = true) : WorldP (lockW w i write s).1 := by
  unfold lockW
  split
  · exact hw
  · rename_i hd
    split
    · exact hw
    · rename_i x hx
      split
      · rename_i hg
        have hall : ∀ k ∈ lockBars w.locks i write s, k < 3 ∧ w.live k = true := fun k hk => ⟨(bars_mem.1 hk).1, by
          simp only [List.any_eq_true, Bool.not_eq_true', not_exists, not_and, Bool.not_eq_false] at hd
          exact hd k hk⟩
        have Y := yieldsW_ok _ hw hall (bars_nodup _ _ _ _) hx
        exact (give_ok Y.ok hi (by unfold WorldT.live at ha ⊢; rw [Y.alive]; exact ha) hg).1
      · exact hw
theorem lockMay_iff {h : HoldT} {write : Bool} {s : Sp} (hs : 0 ≤ s.1 ∧ s.1 < s.2 ∧ s.2 ≤ 48) : lockMay h write s = true ↔ ∀ j : Nat, inSp j s = true → mayAt h write j = true := by
  rw [lockMay, allTo_iff]
  constructor
  · intro g j hj
    rw [inSp_iff] at hj
    exact g j (by omega) (by omega)
  · intro g j h1 h2
    exact g j (inSp_iff.2 (by omega))
theorem file_get (w : WorldT) {j : Nat} (hj : j < 48) : w.file[j]? = some (w.byte j) := by
  simp [WorldT.file, hj]
theorem file_len (w : WorldT) : w.file.length = 48 := by simp [WorldT.file]
theorem fillOk_of {p : Sp} {x : Bs} (h : fillOk p x = true) : spOk p = true ∧ x.length = p.2 - p.1 := by
  simp only [fillOk, Bool.and_eq_true, eqI_iff] at h
  exact ⟨h.1.1, h.2⟩
theorem fill_getD {o : OwnT} {lo hi : Nat} {x : Bs} (h1 : lo < hi) (h2 : hi ≤ 48) (ht : o.t.length = 48) (hx : x.length = hi - lo) (j : Nat) : (fillT o.d x lo (hi - lo) lo o.t).getD j 0 = if lo ≤ j ∧ j < hi ∧ inF o.d j = false then x.getD (j - lo) 0 else o.t.getD j 0 := by
  rw [List.getD_eq_getElem?_getD, fillT_get o.d x lo hi (by omega) h2 hx (hi - lo) lo o.t j (by omega) (by omega) ht]
  by_cases hc : lo ≤ j ∧ j < lo + (hi - lo)
  · rw [if_pos hc]
    cases e : inF o.d j
    · rw [if_neg (by simp), if_pos ⟨hc.1, by omega, rfl⟩, List.getD_eq_getElem?_getD]
    · rw [if_pos rfl, if_neg (by simp), List.getD_eq_getElem?_getD]
  · rw [if_neg hc, if_neg (by omega), List.getD_eq_getElem?_getD]
theorem over_getD {t x : Bs} {lo : Nat} (ht : lo + x.length ≤ t.length) (j : Nat) : (overS t ((lo : Int), (lo : Int) + x.length) x).getD j 0 = if lo ≤ j ∧ j < lo + x.length then x.getD (j - lo) 0 else t.getD j 0 := by
  have := overS_get t x lo (lo + x.length) (by omega) ht (by omega) j
  push_cast at this
  rw [List.getD_eq_getElem?_getD, this]
  split <;> rw [List.getD_eq_getElem?_getD]
theorem sub_getD {t : Bs} {lo hi j : Nat} (h : j < hi - lo) (d : UInt8) : (subS t ((lo : Int), (hi : Int))).getD j d = t.getD (lo + j) d := by
  rw [List.getD_eq_getElem?_getD, subS_get t lo hi j (by omega), List.getD_eq_getElem?_getD]
theorem file_getD (w : WorldT) {j : Nat} (hj : j < 48) (d : UInt8) : w.file.getD j d = w.byte j := by
  rw [List.getD_eq_getElem?_getD, file_get w hj]; rfl
theorem readW_ok {w : WorldT} {i : Nat} {s : Sp} (hw : WorldP w) (hi : i < 3) (ha : w.live i = true) : WorldP (readW w i s).1 := by
  unfold readW
  split
  · rename_i hm
    split
    · rename_i hf
      obtain ⟨hfo, hok, he⟩ := fillT1_ok hf
      obtain ⟨hsp, hxl⟩ := fillOk_of hfo
      have hp := spOk_iff.1 hsp
      rw [lockMay_iff hp] at hm
      obtain ⟨lo, hi', rfl, h1, h2⟩ := nat_sp hp
      have ht := (ownOk_bd (hw.own i hi)).1
      rw [he] at hok ⊢
      dsimp only at hxl
      have hn : ((hi' : Int) - (lo : Int)).toNat = hi' - lo := by omega
      simp only [Int.toNat_natCast, hn] at hok ⊢
      have W := hw.turn hi ⟨fillT (w.own i).d (subS w.file ((lo : Int), (hi' : Int))) lo (hi' - lo) lo (w.own i).t, addS (w.own i).h ((lo : Int), (hi' : Int)), (w.own i).d⟩ (w.lock i) (by rw [lock_self w hw.lk.len hi]; exact hw.lk) hok ha (fun j hj hh => by
        dsimp only at hh ⊢
        rw [addS_get _ _ j hj, Bool.or_eq_true] at hh
        rw [fill_getD h1 h2 ht (by omega)]
        have hab : inSp j ((lo : Int), (hi' : Int)) = true ↔ lo ≤ j ∧ j < hi' := by rw [inSp_iff]; dsimp only; omega
        by_cases hc : lo ≤ j ∧ j < hi'
        · have hmj := hm j (hab.2 hc)
          cases e : inF (w.own i).d j
          · rw [if_pos ⟨hc.1, hc.2, rfl⟩, sub_getD (by omega), show lo + (j - lo) = j by omega, file_getD w hj]
            simp only [mayAt, Bool.not_false, Bool.true_and, Bool.or_eq_true] at hmj
            exact ⟨hmj.imp id fun q => ⟨rfl, q⟩, .inr rfl⟩
          · have := hw.held i hi j hj (ownOk_have (hw.own i hi) hj e)
            rw [e] at this
            exact ⟨by simpa using this.1, .inl rfl⟩
        · have hf2 : inSp j ((lo : Int), (hi' : Int)) = false := by rw [← Bool.not_eq_true, hab]; exact hc
          rw [hf2] at hh
          rw [if_neg (fun q => hc ⟨q.1, q.2.1⟩)]
          exact hw.held i hi j hj (by simpa using hh))
      rwa [lock_self w hw.lk.len hi] at W
    · exact hw
  · exact hw
theorem writeW_ok {w : WorldT} {i : Nat} {k : Int} {x : Bs} (hw : WorldP w) (hi : i < 3) (ha : w.live i = true) : WorldP (writeW w i k x).1 := by
  unfold writeW
  split
  · rename_i hwr
    split
    · rename_i hm
      split
      · rename_i hf
        obtain ⟨_, hok, he⟩ := writeT1_ok hf
        obtain ⟨g1, g2, g3, g4⟩ := wrOk_len hwr
        obtain ⟨lo, rfl⟩ : ∃ lo : Nat, k = lo := ⟨k.toNat, by omega⟩
        have hp : 0 ≤ ((lo : Int), (lo : Int) + x.length).1 ∧ ((lo : Int), (lo : Int) + x.length).1 < ((lo : Int), (lo : Int) + x.length).2 ∧ ((lo : Int), (lo : Int) + x.length).2 ≤ 48 := by dsimp only; omega
        rw [lockMay_iff hp] at hm
        have ht := (ownOk_bd (hw.own i hi)).1
        rw [he] at hok ⊢
        have W := hw.turn hi _ (w.lock i) (by rw [lock_self w hw.lk.len hi]; exact hw.lk) hok ha (fun j hj hh => by
          dsimp only at hh ⊢
          rw [addS_get _ _ j hj, Bool.or_eq_true] at hh
          rw [addS_get _ _ j hj, over_getD (by omega)]
          have hab : inSp j ((lo : Int), (lo : Int) + x.length) = true ↔ lo ≤ j ∧ j < lo + x.length := by rw [inSp_iff]; dsimp only; omega
          by_cases hc : lo ≤ j ∧ j < lo + x.length
          · have hmj := hm j (hab.2 hc)
            rw [hab.2 hc]
            simp only [mayAt, Bool.not_true, Bool.false_and, Bool.or_false] at hmj
            exact ⟨.inl hmj, .inl rfl⟩
          · have hf2 : inSp j ((lo : Int), (lo : Int) + x.length) = false := by rw [← Bool.not_eq_true, hab]; exact hc
            rw [hf2] at hh ⊢
            rw [if_neg hc]
            simpa using hw.held i hi j hj (by simpa using hh))
        rwa [lock_self w hw.lk.len hi] at W
      · exact hw
    · exact hw
  · exact hw
theorem dieW_ok {w : WorldT} {i : Nat} (hw : WorldP w) (hi : i < 3) : WorldP (dieW w i) := by
  have hown : ∀ k, k < 3 → (w.owns.set i noO).getD k noO = if i = k then noO else w.own k := fun k hk => own_set w i k _ hw.owns hk
  refine ⟨hw.lay, hw.st, hw.lk, by simpa [dieW] using hw.owns, hw.epochs, by simpa [dieW] using hw.alive, hw.lateN, fun k hk => ?_, hw.ep, fun k hk hd => ?_, hw.kept, hw.keptE, hw.late, fun k hk j hj hhv => ?_⟩
  · show OwnT.ok ((w.owns.set i noO).getD k noO) = true
    rw [hown k hk]
    split
    · exact noO_ok
    · exact hw.own k hk
  · show (w.owns.set i noO).getD k noO = noO
    rw [hown k hk]
    by_cases e : i = k
    · rw [if_pos e]
    · rw [if_neg e]
      refine hw.dead k hk ?_
      change (w.alive.set i false).getD k false = false at hd
      rw [getD_set, if_neg (fun q => e q.1)] at hd
      exact hd
  · change inF ((w.owns.set i noO).getD k noO).h j = true at hhv
    show (inF (w.lock k).w j = true ∨ (inF ((w.owns.set i noO).getD k noO).d j = false ∧ inF (w.lock k).r j = true)) ∧ (inF ((w.owns.set i noO).getD k noO).d j = true ∨ ((w.owns.set i noO).getD k noO).t.getD j 0 = w.byte j)
    rw [hown k hk] at hhv ⊢
    by_cases e : i = k
    · rw [if_pos e] at hhv; cases hhv
    · rw [if_neg e] at hhv ⊢
      exact hw.held k hk j hj hhv
theorem addLate_ok (late0 : List ReqT) (P : ReqT → Prop) : ∀ (qs late : List ReqT), (∀ q ∈ late, P q) → (∀ q ∈ qs, reqOk q = true → P q) → late.length ≤ 8 → (∀ q ∈ addLate late qs, P q) ∧ (addLate late qs).length ≤ 8
  | [], late, h1, _, h3 => ⟨h1, h3⟩
  | q :: qs, late, h1, h2, h3 => by
    rw [addLate]
    split
    · rename_i hc
      rw [Bool.and_eq_true, ltI_iff] at hc
      refine addLate_ok late0 P qs _ (fun r hr => ?_) (fun r hr => h2 r (by simp [hr])) (by simp; omega)
      rcases List.mem_append.1 hr with hr | hr
      · exact h1 r hr
      · rw [List.mem_singleton] at hr
        subst hr
        exact h2 r (by simp) hc.1
    · exact addLate_ok late0 P qs late h1 (fun r hr => h2 r (by simp [hr])) h3
theorem noH_ok {t : List HoldT} (h : LockP t) (i : Nat) : LockP (t.set i noH) := by
  have g : ∀ k, k < 3 → (t.set i noH).getD k noH = if i = k then noH else t.getD k noH := fun k hk => lock_set t i k _ h.len hk
  have n1 : ∀ j, inF noH.r j = false := fun _ => rfl
  have n2 : ∀ j, inF noH.w j = false := fun _ => rfl
  refine ⟨by simpa using h.len, fun k hk => ?_, fun k hk => ?_, fun k hk => ?_, fun k q hk hq hne => ?_, fun k q hk hq hne => ?_⟩
  · rw [g k hk]; split; · rfl
    exact h.r k hk
  · rw [g k hk]; split; · rfl
    exact h.w k hk
  · rw [g k hk]; split
    · intro j hj; rw [n1] at hj; cases hj.1
    · exact h.rw k hk
  · rw [g k hk, g q hq]
    intro j hj
    by_cases e1 : i = k
    · rw [if_pos e1, n2] at hj; cases hj.1
    · by_cases e2 : i = q
      · rw [if_pos e2, n2] at hj; cases hj.2
      · rw [if_neg e1, if_neg e2] at hj; exact h.ww k q hk hq hne j hj
  · rw [g k hk, g q hq]
    intro j hj
    by_cases e1 : i = k
    · rw [if_pos e1, n2] at hj; cases hj.1
    · by_cases e2 : i = q
      · rw [if_pos e2, n1] at hj; cases hj.2
      · rw [if_neg e1, if_neg e2] at hj; exact h.wr k q hk hq hne j hj
theorem sync_ok {s : StoreT} (h : StoreP s) : StoreP (storeSync s) :=
  ⟨h.now, h.nowT, h.now, h.nowT, h.last, h.last, h.floors, fun i hi => by have := h.nums i hi; simp only [storeSync]; omega⟩
theorem evictW_ok {w : WorldT} {i : Nat} (hw : WorldP w) (hi : i < 3) : WorldP (evictW w i).1 := by
  unfold evictW
  split
  · rename_i he
    rw [ltI_iff] at he
    have hep := hw.ep i hi
    have hf0 := (hw.st.nums i hi).2.2.2
    have hown : ∀ k, k < 3 → (w.owns.set i noO).getD k noO = if i = k then noO else w.own k := fun k hk => own_set w i k _ hw.owns hk
    have hlk : ∀ k, k < 3 → (w.locks.set i noH).getD k noH = if i = k then noH else w.lock k := fun k hk => lock_set w.locks i k _ hw.lk.len hk
    have hmx : maxI (w.st.floors.getD i 0) (w.ep i + 1) = w.ep i + 1 := by simp only [maxI, ltI, decide_eq_true_eq]; split <;> omega
    have hfl : ∀ k, (storeFence (storeSync w.st) i (w.ep i + 1)).floors.getD k 0 = if i = k ∧ k < 3 then w.ep i + 1 else w.st.floors.getD k 0 := fun k => by
      show (w.st.floors.set i (maxI (w.st.floors.getD i 0) (w.ep i + 1))).getD k 0 = _
      rw [getD_set, hmx, hw.st.floors]
    have hepk : ∀ k, (w.epochs.set i (w.ep i + 1)).getD k 0 = if i = k ∧ k < 3 then w.ep i + 1 else w.ep k := fun k => by
      rw [getD_set, hw.epochs]; rfl
    have hS := sync_ok hw.st
    have hst : StoreP (storeFence (storeSync w.st) i (w.ep i + 1)) := ⟨hS.now, hS.nowT, hS.sure, hS.sureT, hS.last, hS.slast, by simpa [storeFence] using hS.floors, fun k hk => by
      have := hS.nums k hk
      rw [hfl k]
      refine ⟨this.1, this.2.1, this.2.2.1, ?_⟩
      split
      · omega
      · exact this.2.2.2⟩
    have hlate := addLate_ok [] (fun q => ReqP q ∧ q.epoch < (storeFence (storeSync w.st) i (w.ep i + 1)).floors.getD q.who.toNat 0) (w.reqs i whole) w.late (fun q hq => by
      obtain ⟨a1, a2⟩ := hw.late q hq
      refine ⟨a1, ?_⟩
      rw [hfl]
      split
      · rename_i e
        rw [← e.1] at a2
        omega
      · exact a2) (fun q hq hr => by
      have a1 := reqOk_iff.1 hr
      obtain ⟨b1, b2⟩ := reqsAll_who _ _ _ _ _ _ q hq
      refine ⟨a1, ?_⟩
      rw [hfl, b1, b2]
      simp only [Int.toNat_natCast, true_and]
      rw [if_pos hi]
      show w.ep i < _
      omega) hw.lateN
    refine ⟨hw.lay, hst, noH_ok hw.lk i, by simpa using hw.owns, by simpa using hw.epochs, by simpa using hw.alive, hlate.2, fun k hk => ?_, fun k hk => ?_, fun k hk hd => ?_, rfl, by simp, hlate.1, fun k hk j hj hhv => ?_⟩
    · show OwnT.ok ((w.owns.set i noO).getD k noO) = true
      rw [hown k hk]
      split
      · exact noO_ok
      · exact hw.own k hk
    · show (storeFence (storeSync w.st) i (w.ep i + 1)).floors.getD k 0 ≤ (w.epochs.set i (w.ep i + 1)).getD k 0 ∧ (w.epochs.set i (w.ep i + 1)).getD k 0 ≤ 100
      rw [hfl, hepk]
      split
      · omega
      · exact hw.ep k hk
    · show (w.owns.set i noO).getD k noO = noO
      rw [hown k hk]
      by_cases e : i = k
      · rw [if_pos e]
      · rw [if_neg e]
        refine hw.dead k hk ?_
        change (w.alive.set i true).getD k false = false at hd
        rw [getD_set, if_neg (fun q => e q.1)] at hd
        exact hd
    · change inF ((w.owns.set i noO).getD k noO).h j = true at hhv
      show (inF ((w.locks.set i noH).getD k noH).w j = true ∨ (inF ((w.owns.set i noO).getD k noO).d j = false ∧ inF ((w.locks.set i noH).getD k noH).r j = true)) ∧ (inF ((w.owns.set i noO).getD k noO).d j = true ∨ ((w.owns.set i noO).getD k noO).t.getD j 0 = w.byte j)
      rw [hown k hk] at hhv ⊢
      rw [hlk k hk]
      by_cases e : i = k
      · rw [if_pos e] at hhv; cases hhv
      · rw [if_neg e] at hhv ⊢
        rw [if_neg e]
        exact hw.held k hk j hj hhv
  · exact hw
theorem storeDo_late {s : StoreT} {q : ReqT} (h : ReqP q ∧ q.epoch < s.floors.getD q.who.toNat 0) : storeDo s q = (s, 2) := by
  unfold storeDo
  rw [if_pos (reqOk_iff.2 h.1), if_pos (ltI_iff.2 h.2)]
theorem giveW_ok {w : WorldT} {k : Int} (hw : WorldP w) : WorldP (giveW w k).1 := by
  unfold giveW
  split
  · exact hw
  · rename_i hc
    simp only [Bool.or_eq_true, Bool.not_eq_true', not_or, Bool.not_eq_true, Bool.not_eq_false, ltI_not, ltI_iff] at hc
    have hlt : k.toNat < w.late.length := by omega
    have hq := hw.late (w.late.getD k.toNat ⟨0, 0, 0, 0, 0, []⟩) (by
      rw [List.getD_eq_getElem?_getD, List.getElem?_eq_getElem hlt]
      exact List.getElem_mem hlt)
    rw [storeDo_late hq]
    have hlen := hw.lateN
    refine { hw with lateN := ?_, late := fun q hq => hw.late q ?_ }
    · simp; omega
    · rcases List.mem_append.1 hq with hq | hq
      · exact List.mem_of_mem_take hq
      · exact List.mem_of_mem_drop hq
theorem doW_ok {w : WorldT} (hw : WorldP w) (e : EvT) : WorldP (doW w e).1 := by
  unfold doW
  split
  · have hS := sync_ok hw.st
    exact { hw with st := hS, kept := rfl, keptE := by simp, ep := hw.ep, late := hw.late, held := hw.held }
  · split
    · rw [hw.kept]; exact hw
    · split
      · exact giveW_ok hw
      · split
        · exact hw
        · rename_i hf
          simp only [formEv, Bool.or_eq_true, not_or, Bool.not_eq_true, Bool.not_eq_true', Bool.not_eq_false, whoOk, Bool.and_eq_true, ltI_not, ltI_iff] at hf
          have hi : e.who.toNat < 3 := by omega
          split
          · exact evictW_ok hw hi
          · split
            · exact hw
            · rename_i hl
              rw [Bool.not_eq_false] at hl
              unfold whoW
              split
              · exact lockW_ok hw hi hl
              · split
                · exact readW_ok hw hi hl
                · split
                  · exact writeW_ok hw hi hl
                  · split
                    · split
                      · rename_i x hx
                        exact (flushW_ok hw hi hl hx).ok
                      · exact hw
                    · exact dieW_ok hw hi
end Go.Ev

/- Plain words: the file as all see it. No program in sight. -/
set_option linter.unusedSimpArgs false
set_option linter.unusedVariables false
namespace Go.Ev
/-- Parts of a text laid over another one. -/
def overAll (t : Bs) : List Sp → Bs → Bs
  | [], s => s
  | d :: ds, s => overAll t ds (overS s d (subS t d))
def textF : List OwnT → Bs → Bs
  | [], s => s
  | o :: os, s => textF os (overAll o.t o.d s)
def WorldT.text (w : WorldT) : Bs := textF w.owns w.file
theorem overAll_get (t : Bs) (ht : t.length = 48) : ∀ (ds : List Sp) (s : Bs), (∀ d ∈ ds, 0 ≤ d.1 ∧ d.1 < d.2 ∧ d.2 ≤ 48) → s.length = 48 → (overAll t ds s).length = 48 ∧ ∀ j, (overAll t ds s).getD j 0 = if inF ds j = true then t.getD j 0 else s.getD j 0
  | [], s, _, hs => ⟨hs, fun j => by simp [overAll, inF]⟩
  | d :: ds, s, hd, hs => by
    have h0 := hd d (by simp)
    obtain ⟨lo, hi, rfl, h1, h2⟩ := nat_sp h0
    have hl : (subS t ((lo : Int), (hi : Int))).length = hi - lo := by simp [subS]; omega
    have hlen : (overS s ((lo : Int), (hi : Int)) (subS t ((lo : Int), (hi : Int)))).length = 48 := by
      rw [overS_len _ _ _ (by omega) (by omega) (by dsimp only; omega), hl]
      dsimp only
      omega
    obtain ⟨g1, g2⟩ := overAll_get t ht ds _ (fun q hq => hd q (by simp [hq])) hlen
    refine ⟨g1, fun j => ?_⟩
    rw [overAll, g2 j]
    have e4 : inF (((lo : Int), (hi : Int)) :: ds) j = (inSp j ((lo : Int), (hi : Int)) || inF ds j) := rfl
    have hab : inSp j ((lo : Int), (hi : Int)) = true ↔ lo ≤ j ∧ j < hi := by rw [inSp_iff]; dsimp only; omega
    rw [e4]
    cases e : inF ds j
    · simp only [Bool.or_false, Bool.false_eq_true, if_false]
      rw [List.getD_eq_getElem?_getD, overS_get s _ lo hi (by omega) (by omega) hl j]
      by_cases hc : lo ≤ j ∧ j < hi
      · rw [if_pos hc, if_pos (hab.2 hc), subS_get t lo hi _ (by omega), show lo + (j - lo) = j by omega, List.getD_eq_getElem?_getD]
      · rw [if_neg hc, if_neg (fun q => hc (hab.1 q)), List.getD_eq_getElem?_getD]
    · simp
/-- The byte of a place, as all see it. -/
def WorldT.see (w : WorldT) (j : Nat) : UInt8 := if inF (w.own 2).d j = true then (w.own 2).t.getD j 0 else if inF (w.own 1).d j = true then (w.own 1).t.getD j 0 else if inF (w.own 0).d j = true then (w.own 0).t.getD j 0 else w.byte j
theorem list3 {α : Type} {xs : List α} (d : α) (h : xs.length = 3) : xs = [xs.getD 0 d, xs.getD 1 d, xs.getD 2 d] := by
  match xs, h with
  | [a, b, c], _ => rfl
theorem WorldP.textGet {w : WorldT} (h : WorldP w) : w.text.length = 48 ∧ ∀ j, j < 48 → w.text.getD j 0 = w.see j := by
  have e : w.owns = [w.own 0, w.own 1, w.own 2] := list3 noO h.owns
  have b := fun i (hi : i < 3) => ownOk_bd (h.own i hi)
  have g0 := overAll_get (w.own 0).t (b 0 (by omega)).1 (w.own 0).d w.file (spsOk_sp (b 0 (by omega)).2.2.1) (file_len w)
  have g1 := overAll_get (w.own 1).t (b 1 (by omega)).1 (w.own 1).d _ (spsOk_sp (b 1 (by omega)).2.2.1) g0.1
  have g2 := overAll_get (w.own 2).t (b 2 (by omega)).1 (w.own 2).d _ (spsOk_sp (b 2 (by omega)).2.2.1) g1.1
  have et : w.text = overAll (w.own 2).t (w.own 2).d (overAll (w.own 1).t (w.own 1).d (overAll (w.own 0).t (w.own 0).d w.file)) := by
    unfold WorldT.text
    rw [e]; rfl
  rw [et]
  refine ⟨g2.1, fun j hj => ?_⟩
  rw [g2.2, g1.2, g0.2, file_getD w hj]
  rfl
theorem WorldP.see_own {w : WorldT} (h : WorldP w) {i j : Nat} (hi : i < 3) (hj : j < 48) (hd : inF (w.own i).d j = true) : w.see j = (w.own i).t.getD j 0 := by
  have hno : ∀ k, k < 3 → k ≠ i → inF (w.own k).d j = false := fun k hk hne => by
    rw [← Bool.not_eq_true]
    intro hk2
    have := ownOk_have (h.own k hk) hj hk2
    rw [h.sole hi hk hne hj hd] at this
    cases this
  unfold WorldT.see
  match i, hi with
  | 0, _ => rw [hno 2 (by omega) (by omega), hno 1 (by omega) (by omega), hd]; rfl
  | 1, _ => rw [hno 2 (by omega) (by omega), hd]; rfl
  | 2, _ => rw [hd]; rfl
theorem see_none {w : WorldT} {j : Nat} (hd : ∀ i, i < 3 → inF (w.own i).d j = false) : w.see j = w.byte j := by
  unfold WorldT.see
  rw [hd 2 (by omega), hd 1 (by omega), hd 0 (by omega)]
  rfl
/-- A way to say what all see. -/
theorem WorldP.see_of {w : WorldT} (h : WorldP w) {j : Nat} (hj : j < 48) {v : UInt8} (h1 : ∀ i, i < 3 → inF (w.own i).d j = true → (w.own i).t.getD j 0 = v) (h2 : (∀ i, i < 3 → inF (w.own i).d j = false) → w.byte j = v) : w.see j = v := by
  by_cases hc : ∃ i, i < 3 ∧ inF (w.own i).d j = true
  · obtain ⟨i, hi, hd⟩ := hc
    rw [h.see_own hi hj hd, h1 i hi hd]
  · have hn : ∀ i, i < 3 → inF (w.own i).d j = false := fun i hi => by
      rw [← Bool.not_eq_true]
      exact fun q => hc ⟨i, hi, q⟩
    rw [see_none hn, h2 hn]
theorem text_eq {w x : WorldT} (hw : WorldP w) (hx : WorldP x) (h : ∀ j, j < 48 → x.see j = w.see j) : x.text = w.text := by
  obtain ⟨a1, a2⟩ := hw.textGet
  obtain ⟨b1, b2⟩ := hx.textGet
  refine List.ext_getElem (b1.trans a1.symm) fun j g1 g2 => ?_
  have := (b2 j (by omega)).trans ((h j (by omega)).trans (a2 j (by omega)).symm)
  rwa [List.getD_eq_getElem?_getD, List.getD_eq_getElem?_getD, List.getElem?_eq_getElem g1, List.getElem?_eq_getElem g2] at this
theorem file_eq {w x : WorldT} (h : ∀ j, j < 48 → x.byte j = w.byte j) : x.file = w.file := by
  unfold WorldT.file
  exact List.map_congr_left fun j hj => h j (List.mem_range.1 hj)
theorem FlushR.see {w x : WorldT} {i : Nat} {s : Sp} (hw : WorldP w) (hi : i < 3) (F : FlushR w i s x) {j : Nat} (hj : j < 48) : x.see j = w.see j := by
  have hcd := cutS_get (w.own i).d s j hj
  refine F.ok.see_of hj (fun k hk hd => ?_) (fun hn => ?_)
  · rw [F.own k hk] at hd ⊢
    by_cases e : i = k
    · subst e
      rw [if_pos rfl] at hd ⊢
      dsimp only at hd ⊢
      rw [hcd, Bool.and_eq_true] at hd
      exact (hw.see_own hi hj hd.2).symm
    · rw [if_neg e] at hd ⊢
      exact (hw.see_own hk hj hd).symm
  · rw [F.byte j]
    by_cases hc : (inSp j s && inF (w.own i).d j) = true
    · rw [if_pos hc]
      rw [Bool.and_eq_true] at hc
      exact (hw.see_own hi hj hc.2).symm
    · rw [if_neg hc]
      refine (see_none fun k hk => ?_).symm
      have := hn k hk
      rw [F.own k hk] at this
      by_cases e : i = k
      · subst e
        rw [if_pos rfl] at this
        dsimp only at this
        rw [hcd] at this
        cases e1 : inSp j s <;> cases e2 : inF (w.own i).d j <;> simp [e1, e2] at this hc ⊢
      · rwa [if_neg e] at this
theorem YieldsR.see {w x : WorldT} {ks : List Nat} {write : Bool} {s : Sp} (hw : WorldP w) (Y : YieldsR w ks write s x) {j : Nat} (hj : j < 48) : x.see j = w.see j := by
  have hdd : ∀ q, q < 3 → inF (x.own q).d j = true → inF (w.own q).d j = true := fun q hq hd => by
    by_cases hm : q ∈ ks
    · rw [Y.dirty q hq hm j hj, Bool.and_eq_true] at hd; exact hd.2
    · rwa [Y.own q hq hm] at hd
  refine Y.ok.see_of hj (fun k hk hd => ?_) (fun hn => ?_)
  · rw [Y.text k hk j hd]
    exact (hw.see_own hk hj (hdd k hk hd)).symm
  · rcases Y.byte j with e | ⟨q, hq, hm, h1, h2, h3⟩
    · by_cases hc : ∃ i, i < 3 ∧ inF (w.own i).d j = true
      · obtain ⟨i, hi, hd⟩ := hc
        have hx := hn i hi
        by_cases hm : i ∈ ks
        · rw [Y.dirty i hi hm j hj, hd] at hx
          have hjs : inSp j s = true := by cases e1 : inSp j s <;> simp [e1] at hx ⊢
          -- the place was put into the file
          have hk := ownOk_have (hw.own i hi) hj hd
          rw [hw.see_own hi hj hd]
          -- by the invariant of x at an owner that still keeps it, or by the byte itself
          exact (Y.put i hi hm j hj hjs hd)
        · rw [Y.own i hi hm, hd] at hx; cases hx
      · rw [e]
        refine (see_none fun i hi => ?_).symm
        rw [← Bool.not_eq_true]
        exact fun q => hc ⟨i, hi, q⟩
    · rw [h3]
      exact (hw.see_own hq hj h2).symm
end Go.Ev
