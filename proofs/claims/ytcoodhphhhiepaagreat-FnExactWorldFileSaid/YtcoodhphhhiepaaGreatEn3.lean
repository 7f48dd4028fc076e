/- My texts joined: EvS33, EvS34, EvS35, EvS36, EvS39, EvS37, EvS40, EvS41. No condition. -/
import Derived.Test.YtcoodhphhhiepaaGreatEn2
import Derived.Laws.Cover3
import Derived.DataReads
import Derived.Below
import Derived.Lib.Repeat
import Derived.Lib.ItoaNum
import Derived.Lib.LaidTab
import Derived.Lib.Join
import Derived.Lib.AppendIntMem
/- Framing of an operation: what it looks at, what it writes. -/
set_option linter.unusedVariables false
set_option linter.unusedSimpArgs false
namespace Go.Ev

/-- Operations that may make a root. -/
def opNew (o : Oper) : Bool :=
  match o.op with
  | .alloc .. | .box .. | .build .. | .buildSlice .. | .makeSlice .. | .convert .. => true
  | .call { callee := .builtin .append, .. } => true
  | .call { callee := .value _, .. } => true
  | _ => false
def FrS (E : Env) (o : Oper) (s s' : St) (g : St → Option St) : Prop :=
  ∃ d x, s' = (s.plus d).put o.dst x ∧ (∀ p ∈ d, p.1 ∈ opWr E s o ∨ (opNew o = true ∧ ∃ j, p.1 = .f (o.dst.getD 0) j)) ∧
    ∀ t : St, (∀ x ∈ o.op.operands.toList, opnd E t x = opnd E s x) → SameOn (fun r => r ∈ opTouch E s o ∨ ∃ j, r = .f (o.dst.getD 0) j) s t → g t = some ((t.plus d).put o.dst x)
section
variable {E : Env} {K : Fns} {o : Oper} {fz : List Nat} {s s' : St}
theorem touch_of {x : Operand} (hx : x ∈ o.op.operands.toList) {r : Root} (hr : r ∈ rootsAV (opnd E s x)) (hl : opLooks o = true := by simp only [opLooks, *]) : r ∈ opTouch E s o := by
  simp only [opTouch, hl, if_true, List.mem_flatMap]
  exact ⟨x, hx, hr⟩
theorem touch1 {x : Operand} (hx : x ∈ o.op.operands.toList) {r : Root} (hr : r ∈ root1 (opnd E s x)) (hl : opLooks o = true := by simp only [opLooks, *]) : r ∈ opTouch E s o := touch_of hx (root1_sub hr) hl
theorem fr_pure {x : AV} {g : St → Option St} (h : s' = s.put o.dst x) (ht : ∀ t : St, (∀ x ∈ o.op.operands.toList, opnd E t x = opnd E s x) → SameOn (fun r => r ∈ opTouch E s o ∨ ∃ j, r = .f (o.dst.getD 0) j) s t → g t = some (t.put o.dst x)) : FrS E o s s' g :=
  ⟨[], x, h, by simp, ht⟩
theorem rootsArgs_imm (m : M) (caps : List L) : ∀ (ms : List Mode), rootsArgs ms (caps.map fun l => AV.v m false [l]) = [] := by
  induction caps with
  | nil => intro ms; rfl
  | cons l caps ih =>
    intro ms
    simp only [List.map_cons, rootsArgs, ih, List.append_nil]
    split <;> rfl
theorem rootsArgs_app (vs : List AV) (hv : ∀ ms, rootsArgs ms vs = []) : ∀ (as : List AV) (ms : List Mode), rootsArgs ms (as ++ vs) = rootsArgs ms as
  | [], ms => by simp [hv, rootsArgs]
  | a :: as, ms => by simp only [List.cons_append, rootsArgs, rootsArgs_app vs hv as]
theorem asRoots_imm (m : M) (as : List AV) (caps : List L) {r : Root} (h : r ∈ asRoots (as ++ caps.map fun l => AV.v m false [l])) : r ∈ asRoots as := by
  simp only [asRoots, List.flatMap_append, List.mem_append, List.mem_flatMap, List.mem_map] at h ⊢
  rcases h with h | ⟨x, ⟨l, _, rfl⟩, hr⟩
  · exact h
  · simp [rootsAV, root1] at hr
theorem args_mem {as : Array Operand} {x : AV} {f : Operand → AV} (h : x ∈ as.toList.map f) : ∃ y ∈ as.toList, f y = x := by simpa using h
theorem evOp_fr (hst : E.strict = true) (h : evOp E K fz o s = some s') : FrS E o s s' (evOp E K fz o) := by
  unfold evOp at h
  simp only at h
  split at h
  · rename_i x ho
    simp only [Option.some.injEq] at h
    subst h
    refine fr_pure rfl fun t he _ => ?_
    have e := he x (by simp [ho, Op.operands])
    simp only [evOp, ho, e]
  · rename_i x ho
    simp only [Option.some.injEq] at h
    subst h
    refine fr_pure rfl fun t he _ => ?_
    have e := he x (by simp [ho, Op.operands])
    simp only [evOp, ho, e]
  · rename_i c x y ho
    split at h <;> try (cases h; done)
    rename_i m q hq
    split at h <;> try (cases h; done)
    rename_i m2 agg ls hv
    simp only [Option.some.injEq] at h
    subst h
    refine fr_pure rfl fun t he _ => ?_
    have e1 := he c (by simp [ho, Op.operands])
    have e2 := he x (by simp [ho, Op.operands])
    have e3 := he y (by simp [ho, Op.operands])
    simp only [evOp, ho, e1, e2, e3, hq, hv]
  · rename_i t ho
    simp only [Option.map_eq_some_iff] at h
    obtain ⟨ti, ht, rfl⟩ := h
    obtain ⟨d, e, w, f⟩ := mkBox_fr (.f (o.dst.getD 0) 1) .own ti.zero s
    refine ⟨d, (s.mkBox (.f (o.dst.getD 0) 1) .own ti.zero).1, ?_, fun p hp => .inr ⟨by simp [opNew, ho], 1, w p hp⟩, fun t he hs => ?_⟩
    · rw [show (s.mkBox (.f (o.dst.getD 0) 1) .own ti.zero).2 = s.plus d from congrArg Prod.snd e]
    · have e2 := f t (hs _ (.inr ⟨1, rfl⟩))
      simp only [evOp, ho, ht, Option.map_some, e2]
  · rename_i ty x ho
    split at h <;> try (cases h; done)
    rename_i ti m agg ls s1 ht hem
    split at h <;> try (cases h; done)
    rename_i hl
    obtain ⟨d1, rfl, w1, f1⟩ := embed_fr' hem
    obtain ⟨d, e, w, f⟩ := mkBox_fr (.f (o.dst.getD 0) 1) m ls (s.plus d1)
    have hx : x ∈ o.op.operands.toList := by simp [ho, Op.operands]
    split at h
    · rename_i hbf
      simp only [Option.map_eq_some_iff] at h
      obtain ⟨⟨l, s3⟩, hc, rfl⟩ := h
      obtain ⟨d2, e3, w2, f2⟩ := cap1_fr hc
      have hr1 : ∀ r ∈ root1 ((s.plus d1).mkBox (.f (o.dst.getD 0) 1) m ls).1, r = .f (o.dst.getD 0) 1 := fun r hr => by
        unfold St.mkBox at hr
        split at hr <;> simp [root1] at hr
        exact hr
      have e2 : ((s.plus d1).mkBox (.f (o.dst.getD 0) 1) m ls).2 = (s.plus d1).plus d := congrArg Prod.snd e
      refine ⟨d2 ++ (d ++ d1), .v .ro false [l], ?_, fun p hp => ?_, fun t he hs => ?_⟩
      · rw [e3, e2]
        simp only [plus_plus, List.append_assoc]
      · rcases List.mem_append.1 hp with hp | hp
        · exact .inr ⟨by simp [opNew, ho], 1, hr1 _ (w2 p hp)⟩
        · rcases List.mem_append.1 hp with hp | hp
          · exact .inr ⟨by simp [opNew, ho], 1, w p hp⟩
          · left; simp only [opWr, ho]; exact root1_sub (w1 p hp)
      · have e1 := f1 t fun r hr => hs r (.inl (touch1 hx hr))
        have e4 := f (t.plus d1) ((hs.plus d1) _ (.inr ⟨1, rfl⟩))
        have e5 := f2 ((t.plus d1).plus d) (fun r hr => by
          rw [e2, hr1 r hr]
          exact ((hs.plus d1).plus d) _ (.inr ⟨1, rfl⟩))
        unfold evOp
        simp only [ho, he x hx, ht]
        rw [e1]
        simp only [if_pos hl, e4, if_pos hbf]
        rw [e5]
        simp only [Option.map_some, plus_plus, List.append_assoc]
    · rename_i hbf
      simp only [Option.some.injEq] at h
      refine ⟨d ++ d1, ((s.plus d1).mkBox (.f (o.dst.getD 0) 1) m ls).1, ?_, fun p hp => ?_, fun t he hs => ?_⟩
      · rw [← plus_plus, ← h, show ((s.plus d1).mkBox (.f (o.dst.getD 0) 1) m ls).2 = (s.plus d1).plus d from congrArg Prod.snd e]
      · rcases List.mem_append.1 hp with hp | hp
        · exact .inr ⟨by simp [opNew, ho], 1, w p hp⟩
        · left; simp only [opWr, ho]; exact root1_sub (w1 p hp)
      · have e1 := f1 t fun r hr => hs r (.inl (touch1 hx hr))
        have e2 := f (t.plus d1) ((hs.plus d1) _ (.inr ⟨1, rfl⟩))
        rw [← plus_plus]
        unfold evOp
        simp only [ho, he x hx, ht]
        rw [e1]
        simp only [if_pos hl, if_neg hbf, e2]
  · rename_i ty parts ho
    split at h <;> try (cases h; done)
    rename_i ti ht
    split at h <;> try (cases h; done)
    rename_i m ls s1 hf
    simp only [Option.some.injEq] at h
    have hops : ∀ p ∈ parts.toList, p.2 ∈ o.op.operands.toList := fun p hp => by
      simp only [ho, Op.operands, List.mem_map]
      exact ⟨p, hp, rfl⟩
    have key : ∃ pl, fillCells E pl fz ti.zero .own parts.toList s = some (m, ls, s1) ∧ ∀ (t t1 : St), fillCells E pl fz ti.zero .own parts.toList t = some (m, ls, t1) → evOp E K fz o t = some ((t1.new (.f (o.dst.getD 0) 1) m true ls).2.put o.dst (t1.new (.f (o.dst.getD 0) 1) m true ls).1) := by
      split at hf
      · rename_i fs htd
        split at hf <;> try (cases hf; done)
        rename_i hall
        exact ⟨fieldPl E.P fs, hf, fun t t1 h1 => by simp only [evOp, ho, ht, htd, hall, if_true, h1]⟩
      · rename_i n e htd
        split at hf <;> try (cases hf; done)
        rename_i ei hei
        exact ⟨fun i => some (i * ei.size, ei.size), hf, fun t t1 h1 => by simp only [evOp, ho, ht, htd, hei, h1]⟩
      · cases hf
    obtain ⟨pl, hf, hpl⟩ := key
    obtain ⟨d1, rfl, w1, f1⟩ := fill_fr (T := fun r => r ∈ opWr E s o) parts.toList _ _ s s1 m ls (fun p hp r hr => by
      simp only [opWr, ho, List.mem_flatMap]
      exact ⟨p, hp, root1_sub hr⟩) hf
    obtain ⟨d, e, w, f⟩ := new_fr (.f (o.dst.getD 0) 1) m true ls (s.plus d1)
    refine ⟨d ++ d1, ((s.plus d1).new (.f (o.dst.getD 0) 1) m true ls).1, ?_, fun p hp => ?_, fun t he hs => ?_⟩
    · rw [← plus_plus, ← h, show ((s.plus d1).new (.f (o.dst.getD 0) 1) m true ls).2 = (s.plus d1).plus d from congrArg Prod.snd e]
    · rcases List.mem_append.1 hp with hp | hp
      · exact .inr ⟨by simp [opNew, ho], 1, w p hp⟩
      · exact .inl (w1 p hp)
    · have hw : ∀ r, r ∈ opWr E s o → r ∈ opTouch E s o := fun r hr => by
        simp only [opWr, ho, List.mem_flatMap] at hr
        obtain ⟨p, hp, hr⟩ := hr
        exact touch_of (hops p hp) hr
      have e1 := f1 t (fun p hp => fun u hu => by have := he p.2 (hops p hp); rw [hu] at this; exact this) fun r hr => hs r (.inl (hw r hr))
      have e2 := f (t.plus d1) ((hs.plus d1) _ (.inr ⟨1, rfl⟩))
      rw [← plus_plus]
      rw [hpl t _ e1, e2]
  · rename_i ty n parts ho
    split at h <;> try (cases h; done)
    rename_i ti ht
    split at h <;> try (cases h; done)
    rename_i e0 htd
    split at h <;> try (cases h; done)
    rename_i ei hei
    split at h <;> try (cases h; done)
    rename_i hn
    split at h <;> try (cases h; done)
    rename_i m ls s1 hf
    simp only [Option.some.injEq] at h
    have hops : ∀ p ∈ parts.toList, p.2 ∈ o.op.operands.toList := fun p hp => by
      simp only [ho, Op.operands, List.mem_map]
      exact ⟨p, hp, rfl⟩
    obtain ⟨d1, rfl, w1, f1⟩ := fill_fr (T := fun r => r ∈ opWr E s o) parts.toList _ _ s s1 m ls (fun p hp r hr => by
      simp only [opWr, ho, List.mem_flatMap]
      exact ⟨p, hp, root1_sub hr⟩) hf
    have hw : ∀ r, r ∈ opWr E s o → r ∈ opTouch E s o := fun r hr => by
      simp only [opWr, ho, List.mem_flatMap] at hr
      obtain ⟨p, hp, hr⟩ := hr
      exact touch_of (hops p hp) hr
    cases hm : m.isOwn with
    | true =>
      rw [hm] at h
      simp only [if_true] at h
      obtain ⟨d, e, w, f⟩ := new_fr (.f (o.dst.getD 0) 1) .own false [.sl (chunk ei.size n ls)] (s.plus d1)
      refine ⟨d ++ d1, ((s.plus d1).new (.f (o.dst.getD 0) 1) .own false [.sl (chunk ei.size n ls)]).1, ?_, fun p hp => ?_, fun t he hs => ?_⟩
      · rw [← plus_plus, ← h, show ((s.plus d1).new (.f (o.dst.getD 0) 1) .own false [.sl (chunk ei.size n ls)]).2 = (s.plus d1).plus d from congrArg Prod.snd e]
      · rcases List.mem_append.1 hp with hp | hp
        · exact .inr ⟨by simp [opNew, ho], 1, w p hp⟩
        · exact .inl (w1 p hp)
      · have e1 := f1 t (fun p hp => fun u hu => by have := he p.2 (hops p hp); rw [hu] at this; exact this) fun r hr => hs r (.inl (hw r hr))
        have e2 := f (t.plus d1) ((hs.plus d1) _ (.inr ⟨1, rfl⟩))
        rw [← plus_plus]
        simp only [evOp, ho, ht, htd, hei, if_pos hn, e1, hm, if_true, e2]
    | false =>
      rw [hm] at h
      simp only [Bool.false_eq_true, if_false] at h
      refine ⟨d1, _, h.symm, fun p hp => .inl (w1 p hp), fun t he hs => ?_⟩
      have e1 := f1 t (fun p hp => fun u hu => by have := he p.2 (hops p hp); rw [hu] at this; exact this) fun r hr => hs r (.inl (hw r hr))
      simp only [evOp, ho, ht, htd, hei, if_pos hn, e1, hm, Bool.false_eq_true, if_false]
  · rename_i ty x ho
    simp only [Option.map_eq_some_iff] at h
    obtain ⟨y, hy, rfl⟩ := h
    refine fr_pure rfl fun t he hs => ?_
    have hx : x ∈ o.op.operands.toList := by simp [ho, Op.operands]
    have e2 : evLoad E ty (opnd E s x) t = _ := evLoad_same fun r hr => hs r (.inl (touch1 hx hr))
    simp only [evOp, ho, he x hx, e2, hy, Option.map_some]
  · rename_i ty x y ho
    simp only [Option.map_eq_some_iff] at h
    obtain ⟨z, hz, rfl⟩ := h
    have hx : x ∈ o.op.operands.toList := by simp [ho, Op.operands]
    have hy : y ∈ o.op.operands.toList := by simp [ho, Op.operands]
    obtain ⟨d, rfl, w, f⟩ := store_fr hz
    refine ⟨d, .dead, rfl, fun p hp => ?_, fun t he hs => ?_⟩
    · left
      simp only [opWr, ho]
      exact (List.mem_append.1 (w p hp)).elim (fun q => List.mem_append.2 (.inl (root1_sub q))) fun q => List.mem_append.2 (.inr (root1_sub q))
    · have e2 := f t fun r hr => hs r (.inl ((List.mem_append.1 hr).elim (touch1 hx) (touch1 hy)))
      unfold evOp
      simp only [ho, he x hx, he y hy]
      rw [e2]
      rfl
  · rename_i x ho
    have hx : x ∈ o.op.operands.toList := by simp [ho, Op.operands]
    split at h <;> try (cases h; done)
    · rename_i r k0 k1 off hops hv
      simp only [Option.map_eq_some_iff] at h
      obtain ⟨z, hz, rfl⟩ := h
      refine fr_pure rfl fun t he hs => ?_
      have e2 := getAd_same (k0 := k0) (k1 := k1) (off := off) (hops := hops) (hs r (.inl (touch1 hx (by simp [hv, root1]))))
      simp only [evOp, ho, he x hx, hv, e2, hz, Option.map_some]
    · rename_i m ls hv
      simp only [Option.some.injEq] at h
      subst h
      refine fr_pure rfl fun t he hs => ?_
      simp only [evOp, ho, he x hx, hv]
  · rename_i op ty x y ty' ho
    simp only [Option.map_eq_some_iff] at h
    obtain ⟨z, hz, rfl⟩ := h
    refine fr_pure rfl fun t he hs => ?_
    simp only [evOp, ho, he x (by simp [ho, Op.operands]), he y (by simp [ho, Op.operands]), hz, Option.map_some]
  · rename_i op ty x ho
    simp only [Option.map_eq_some_iff] at h
    obtain ⟨z, hz, rfl⟩ := h
    refine fr_pure rfl fun t he hs => ?_
    simp only [evOp, ho, he x (by simp [ho, Op.operands]), hz, Option.map_some]
  · rename_i ty ty' x ho
    simp only [Option.map_eq_some_iff] at h
    obtain ⟨⟨y, s1⟩, hz, rfl⟩ := h
    have hx : x ∈ o.op.operands.toList := by simp [ho, Op.operands]
    obtain ⟨d, rfl, w, f⟩ := conv_fr hz
    refine ⟨d, y, rfl, fun p hp => .inr ⟨by simp [opNew, ho], 1, w p hp⟩, fun t he hs => ?_⟩
    have e2 := f t fun r hr => hs r (hr.elim (fun q => .inl (touch1 hx q)) fun q => .inr ⟨1, q⟩)
    simp only [evOp, ho, he x hx, e2, Option.map_some]
  · rename_i g first cs ho
    split at h <;> try (cases h; done)
    rename_i hfirst
    simp only [Option.map_eq_some_iff] at h
    obtain ⟨⟨ls, s1⟩, hz, rfl⟩ := h
    obtain ⟨d, rfl, w, f⟩ := caps_fr _ _ _ _ hz
    have hops : ∀ y ∈ cs.toList, y ∈ o.op.operands.toList := fun y hy => by
      simp only [ho, Op.operands, Array.toList_append, List.mem_append]
      exact .inr hy
    refine ⟨d, _, rfl, fun p hp => ?_, fun t he hs => ?_⟩
    · left
      obtain ⟨x, hx, hr⟩ := w p hp
      obtain ⟨y, hy, rfl⟩ := args_mem hx
      simp only [opWr, ho, List.mem_flatMap]
      exact ⟨y, hy, root1_sub hr⟩
    · have e1 : cs.toList.map (opnd E t) = cs.toList.map (opnd E s) := List.map_congr_left fun y hy => he y (hops y hy)
      have e2 := f t fun r ⟨x, hx, hr⟩ => by
        obtain ⟨y, hy, rfl⟩ := args_mem hx
        exact hs r (.inl (touch1 (hops y hy) hr))
      simp only [evOp, ho, if_pos hfirst, e1, e2, Option.map_some]
  · rename_i ty l c ho
    simp only [Option.map_eq_some_iff] at h
    obtain ⟨⟨y, s1⟩, hz, rfl⟩ := h
    have hl := fun t (he : ∀ x ∈ o.op.operands.toList, opnd E t x = opnd E s x) => he l (by simp [ho, Op.operands])
    have hc := fun t (he : ∀ x ∈ o.op.operands.toList, opnd E t x = opnd E s x) => he c (by simp [ho, Op.operands])
    unfold evMakeSlice at hz
    split at hz <;> try (cases hz; done)
    rename_i ti n n' hti hn hn'
    split at hz <;> try (cases hz; done)
    rename_i e0 htd
    split at hz <;> try (cases hz; done)
    rename_i ei hei
    split at hz <;> try (cases hz; done)
    rename_i hcond
    simp only [Option.some.injEq] at hz
    obtain ⟨d, e, w, f⟩ := new_fr (.f (o.dst.getD 0) 1) .own false [.sl (List.replicate n.toNat ei.zero)] s
    rw [hz] at e f
    refine ⟨d, y, by rw [(Prod.mk.inj e).2], fun p hp => .inr ⟨by simp [opNew, ho], 1, w p hp⟩, fun t he hs => ?_⟩
    have e2 := f t (hs _ (.inr ⟨1, rfl⟩))
    simp only [evOp, ho, hl t he, hc t he, evMakeSlice, hti, hn, hn', htd, hei, if_pos hcond, e2, Option.map_some]
  · rename_i ty x lo hi ho
    have hx : x ∈ o.op.operands.toList := by simp [ho, Op.operands]
    have el : ∀ t : St, (∀ x ∈ o.op.operands.toList, opnd E t x = opnd E s x) → lo.map (opnd E t) = lo.map (opnd E s) := fun t he => by
      cases lo with
      | none => rfl
      | some l => simp only [Option.map_some, he l (by simp [ho, Op.operands])]
    have eh : ∀ t : St, (∀ x ∈ o.op.operands.toList, opnd E t x = opnd E s x) → hi.map (opnd E t) = hi.map (opnd E s) := fun t he => by
      cases hi with
      | none => rfl
      | some l => simp only [Option.map_some, he l (by simp [ho, Op.operands])]
    split at h
    · rename_i hbf
      simp only [Option.map_eq_some_iff] at h
      obtain ⟨y, hz, rfl⟩ := h
      refine fr_pure rfl fun t he hs => ?_
      have e2 := evWin_same (t := t) (fun r hr => hs r (.inl (touch1 hx hr))) hz
      simp only [evOp, ho, he x hx, el t he, eh t he, e2, hbf, if_true, Option.map_some]
    · rename_i hbf
      simp only [Option.map_eq_some_iff] at h
      obtain ⟨⟨y, s1⟩, hz, rfl⟩ := h
      obtain ⟨d, rfl, w, f⟩ := slice_fr hz
      refine ⟨d, y, rfl, fun p hp => ?_, fun t he hs => ?_⟩
      · left; simp only [opWr, ho]; exact root1_sub (w p hp)
      · have e2 := f t fun r hr => hs r (.inl (touch1 hx hr))
        simp only [evOp, ho, he x hx, el t he, eh t he, e2, if_neg hbf, Option.map_some]
  · rename_i ty x i ho
    simp only [Option.map_eq_some_iff] at h
    obtain ⟨y, hy, rfl⟩ := h
    refine fr_pure rfl fun t he hs => ?_
    have hx : x ∈ o.op.operands.toList := by simp [ho, Op.operands]
    have e2 : evFieldAddr E ty (opnd E s x) i t = _ := evFieldAddr_same fun r hr => hs r (.inl (touch1 hx hr))
    simp only [evOp, ho, he x hx, e2, hy, Option.map_some]
  · rename_i ty x i ho
    simp only [Option.map_eq_some_iff] at h
    obtain ⟨y, hy, rfl⟩ := h
    refine fr_pure rfl fun t he hs => ?_
    have hx : x ∈ o.op.operands.toList := by simp [ho, Op.operands]
    have e2 : evField E ty (opnd E s x) i t = _ := evField_same fun r hr => hs r (.inl (touch1 hx hr))
    simp only [evOp, ho, he x hx, e2, hy, Option.map_some]
  · rename_i ty x i ho
    simp only [Option.map_eq_some_iff] at h
    obtain ⟨y, hy, rfl⟩ := h
    refine fr_pure rfl fun t he hs => ?_
    have hx : x ∈ o.op.operands.toList := by simp [ho, Op.operands]
    have e2 : evIndexAddr E ty (opnd E s x) (opnd E s i) t = _ := evIndexAddr_same fun r hr => hs r (.inl (touch1 hx hr))
    simp only [evOp, ho, he x hx, he i (by simp [ho, Op.operands]), e2, hy, Option.map_some]
  · rename_i ty x i ho
    simp only [Option.map_eq_some_iff] at h
    obtain ⟨y, hy, rfl⟩ := h
    refine fr_pure rfl fun t he hs => ?_
    simp only [evOp, ho, he x (by simp [ho, Op.operands]), he i (by simp [ho, Op.operands]), hy, Option.map_some]
  · rename_i x k ho
    split at h <;> try (cases h; done)
    rename_i xs hxs
    simp only [Option.map_eq_some_iff] at h
    obtain ⟨y, hy, rfl⟩ := h
    refine fr_pure rfl fun t he hs => ?_
    simp only [evOp, ho, he x (by simp [ho, Op.operands]), hxs, hy, Option.map_some]
  · rename_i c ho
    obtain ⟨callee, args, argTypes⟩ := c
    have hargs : ∀ y ∈ args.toList, y ∈ o.op.operands.toList := fun y hy => by
      simp only [ho, Op.operands, Call.operands, Array.toList_append, List.mem_append]
      exact .inr hy
    have hmap : ∀ t : St, (∀ x ∈ o.op.operands.toList, opnd E t x = opnd E s x) → args.toList.map (opnd E t) = args.toList.map (opnd E s) := fun t he => List.map_congr_left fun y hy => he y (hargs y hy)
    have hroots : ∀ {x : AV} {r : Root}, x ∈ args.toList.map (opnd E s) → r ∈ rootsAV x → r ∈ opTouch E s o := fun {x r} hx hr => by
      obtain ⟨y, hy, rfl⟩ := args_mem hx
      exact touch_of (hargs y hy) hr
    unfold evCallOp at h
    simp only at h
    split at h
    · rename_i f
      have hf : f ∈ o.op.operands.toList := by simp [ho, Op.operands, Call.operands]
      split at h <;> try (cases h; done)
      rename_i m g caps hfv
      obtain ⟨d, x, rfl, w, fr⟩ := callFn_fr hst h
      refine ⟨d, x, rfl, fun p hp => ?_, fun t he hs => ?_⟩
      · rcases w p hp with q | q
        · left
          rw [rootsArgs_app _ (rootsArgs_imm m caps)] at q
          simp only [opWr, ho, hfv]
          exact q
        · exact .inr ⟨by simp [opNew, ho], q⟩
      · have e2 := fr t fun r hr => hs r (hr.elim (fun q => .inl (by
          have := asRoots_imm m _ _ q
          simp only [asRoots, List.mem_flatMap] at this
          obtain ⟨x, hx, hr⟩ := this
          exact hroots hx hr)) .inr)
        simp only [evOp, ho, evCallOp, he f hf, hfv, hmap t he, e2]
    · split at h <;> try (cases h; done)
      rename_i x ty tl hx hty
      simp only [Option.map_eq_some_iff] at h
      obtain ⟨y, hy, rfl⟩ := h
      refine fr_pure rfl fun t he hs => ?_
      have e2 : evLen E ty x t = _ := evLen_same fun r hr => hs r (.inl (hroots (by rw [hx]; simp) (root1_sub hr)))
      simp only [evOp, ho, evCallOp, hmap t he, hx, hty, e2, hy, Option.map_some]
    · split at h <;> try (cases h; done)
      rename_i x y hxy
      simp only [Option.map_eq_some_iff] at h
      obtain ⟨⟨z, s1⟩, hz, rfl⟩ := h
      obtain ⟨d, rfl, w, f⟩ := append_fr hz
      have hin : ∀ r, r ∈ root1 x ++ root1 y → ∃ v ∈ args.toList.map (opnd E s), r ∈ rootsAV v := fun r hr => by
        rw [hxy]
        exact (List.mem_append.1 hr).elim (fun q => ⟨x, by simp, root1_sub q⟩) fun q => ⟨y, by simp, root1_sub q⟩
      refine ⟨d, z, rfl, fun p hp => ?_, fun t he hs => ?_⟩
      · rcases w p hp with q | q
        · left
          obtain ⟨v, hv, hr⟩ := hin _ q
          obtain ⟨u, hu, rfl⟩ := args_mem hv
          simp only [opWr, ho, List.mem_flatMap]
          exact ⟨u, hu, hr⟩
        · exact .inr ⟨by simp [opNew, ho], 1, q⟩
      · have e2 := f t fun r hr => hs r (hr.elim (fun q => by
          obtain ⟨v, hv, hr⟩ := hin _ q
          exact .inl (hroots hv hr)) fun q => .inr ⟨1, q⟩)
        simp only [evOp, ho, evCallOp, hmap t he, hxy, e2, Option.map_some]
    · split at h <;> try (cases h; done)
      rename_i x y hxy
      simp only [Option.map_eq_some_iff] at h
      obtain ⟨⟨z, s1⟩, hz, rfl⟩ := h
      obtain ⟨d, rfl, w, f⟩ := copy_fr hz
      refine ⟨d, z, rfl, fun p hp => ?_, fun t he hs => ?_⟩
      · left
        have hv : x ∈ args.toList.map (opnd E s) := by rw [hxy]; simp
        obtain ⟨u, hu, rfl⟩ := args_mem hv
        simp only [opWr, ho, List.mem_flatMap]
        exact ⟨u, hu, root1_sub (w p hp)⟩
      · have e2 := f t fun r hr => hs r (.inl (hroots (by rw [hxy]; simp) (root1_sub hr)))
        simp only [evOp, ho, evCallOp, hmap t he, hxy, e2, Option.map_some]
    · simp only [Option.map_eq_some_iff] at h
      obtain ⟨y, hy, rfl⟩ := h
      refine fr_pure rfl fun t he hs => ?_
      simp only [evOp, ho, evCallOp, hmap t he, hy, Option.map_some]
    · simp only [Option.map_eq_some_iff] at h
      obtain ⟨y, hy, rfl⟩ := h
      refine fr_pure rfl fun t he hs => ?_
      simp only [evOp, ho, evCallOp, hmap t he, hy, Option.map_some]
    · cases h
  · cases h
/-- Under its guard. -/
theorem evG_fr (hst : E.strict = true) {ops : Array Oper} (h : evG E K ops fz o s = some s') :
    ∃ d x, s' = (s.plus d).put o.dst x ∧ (∀ p ∈ d, p.1 ∈ opWr E s o ∨ (opNew o = true ∧ ∃ j, p.1 = .f (o.dst.getD 0) j)) ∧
    ∀ t : St, (∀ u ∈ o.looksAt ops, look t.V u = look s.V u) → SameOn (fun r => r ∈ opTouch E s o ∨ ∃ j, r = .f (o.dst.getD 0) j) s t → evG E K ops fz o t = some ((t.plus d).put o.dst x) := by
  have hop : ∀ t : St, (∀ u ∈ o.looksAt ops, look t.V u = look s.V u) → ∀ x ∈ o.op.operands.toList, opnd E t x = opnd E s x := fun t ht x hx => opnd_same fun u hu => ht u (by
    subst hu
    exact List.mem_append_left _ (List.mem_filterMap.2 ⟨.tmp u, hx, rfl⟩))
  unfold evG at h
  split at h
  · rename_i hg
    obtain ⟨d, x, e, w, f⟩ := evOp_fr hst h
    refine ⟨d, x, e, w, fun t ht hs => ?_⟩
    unfold evG
    simp only [hg]
    exact f t (hop t ht) hs
  · rename_i j want hg
    split at h <;> try (cases h; done)
    rename_i u hu
    split at h <;> try (cases h; done)
    rotate_left
    · rename_i hl
      simp only [Option.some.injEq] at h
      subst h
      refine ⟨[], .tup [], rfl, by simp, fun t ht hs => ?_⟩
      have := ht u (by simp [Oper.looksAt, hg, hu])
      unfold evG
      simp only [hg, hu, this, hl]
      rfl
    rename_i m b hl
    have hgu : ∀ t : St, (∀ u ∈ o.looksAt ops, look t.V u = look s.V u) → look t.V u = look s.V u := fun t ht => ht u (by simp [Oper.looksAt, hg, hu])
    split at h
    · rename_i hw
      obtain ⟨d, x, e, w, f⟩ := evOp_fr hst h
      refine ⟨d, x, e, w, fun t ht hs => ?_⟩
      unfold evG
      simp only [hg, hu, hgu t ht, hl, if_pos hw]
      exact f t (hop t ht) hs
    · rename_i hw
      simp only [Option.some.injEq] at h
      subst h
      refine ⟨[], .tup [], rfl, by simp, fun t ht hs => ?_⟩
      unfold evG
      simp only [hg, hu, hgu t ht, hl, if_neg hw]
      rfl
end
end Go.Ev

/- A region whose order is open: every order comes to what the text's order comes to. -/
set_option linter.unusedVariables false
set_option linter.unusedSimpArgs false
namespace Go.Ev

/-- The same to every look. -/
def Sim (s t : St) : Prop := (∀ u, look t.V u = look s.V u) ∧ (∀ r, lookH t.H r = lookH s.H r) ∧ t.ps = s.ps
theorem Sim.refl (s : St) : Sim s s := ⟨fun _ => rfl, fun _ => rfl, rfl⟩
theorem Sim.symm {s t : St} (h : Sim s t) : Sim t s := ⟨fun u => (h.1 u).symm, fun r => (h.2.1 r).symm, h.2.2.symm⟩
theorem Sim.trans {s t u : St} (h : Sim s t) (k : Sim t u) : Sim s u := ⟨fun x => (k.1 x).trans (h.1 x), fun r => (k.2.1 r).trans (h.2.1 r), k.2.2.trans h.2.2⟩
theorem Sim.step {s t : St} (h : Sim s t) (d : List (Root × HC)) (dst : Option Nat) (x : AV) : Sim ((s.plus d).put dst x) ((t.plus d).put dst x) := by
  cases dst with
  | none =>
    refine ⟨h.1, fun r => ?_, h.2.2⟩
    show lookH (d ++ t.H) r = lookH (d ++ s.H) r
    rw [lookH_append, lookH_append, h.2.1 r]
  | some y =>
    refine ⟨fun u => ?_, fun r => ?_, h.2.2⟩
    · show look ((y, x) :: t.V) u = look ((y, x) :: s.V) u
      simp only [look]
      rw [h.1 u]
    · show lookH (d ++ t.H) r = lookH (d ++ s.H) r
      rw [lookH_append, lookH_append, h.2.1 r]
theorem Sim.inv {C : Cf} {s t : St} {a : Act} {w : World} (h : Sim s t) (I : InvX C s a w) : InvX C t a w := by
  obtain ⟨R, loc, fp, I⟩ := I
  obtain ⟨h1, h2, h3⟩ := h
  refine ⟨R, loc, fp, { I with
    rep := fun r hh e => I.rep r hh ((h2 r).symm.trans e)
    held := fun r hh e => I.held r hh ((h2 r).symm.trans e)
    nd := fun r hh e => I.nd r hh ((h2 r).symm.trans e)
    dj := fun r hh r' hh' e e' => I.dj r hh r' hh' ((h2 r).symm.trans e) ((h2 r').symm.trans e')
    fdj := fun r hh e => I.fdj r hh ((h2 r).symm.trans e)
    av := fun u => by rw [h1 u]; exact (I.av u).lookH h2
    pl := fun i b e => by
      obtain ⟨p1, p2, hh, p3, p4⟩ := I.pl i b e
      exact ⟨p1, by rw [h3]; exact p2, hh, (h2 _).trans p3, p4⟩ }⟩

abbrev Tr := List Root × List Root × Nat
def trOf (E : Env) (s : St) (o : Oper) : Tr := (opTouch E s o, opWr E s o, o.dst.getD 0)
theorem wr_touch {E : Env} {s : St} {o : Oper} {r : Root} (h : r ∈ opWr E s o) : r ∈ opTouch E s o := by
  have hlo : opLooks o = true := by
    obtain ⟨dst, op, type, pos, after, guard⟩ := o
    cases op <;> first | rfl | simp [opWr] at h
  have key : ∀ (xs : List Operand), (∀ x ∈ xs, x ∈ o.op.operands.toList) → ∀ r, r ∈ xs.flatMap (fun x => rootsAV (opnd E s x)) → r ∈ opTouch E s o := fun xs hx r hr => by
    simp only [List.mem_flatMap] at hr
    obtain ⟨x, hx', hr⟩ := hr
    exact touch_of (hx x hx') hr hlo
  unfold opWr at h
  split at h
  · rename_i t a x ho
    refine key [a, x] (by simp [ho, Op.operands]) r (by simpa using h)
  · rename_i t x ho
    exact key [x] (by simp [ho, Op.operands]) r (by simpa using h)
  · rename_i t ps ho
    exact key (ps.toList.map (·.2)) (by simp [ho, Op.operands]) r (by simpa [List.flatMap_map] using h)
  · rename_i t n ps ho
    exact key (ps.toList.map (·.2)) (by simp [ho, Op.operands]) r (by simpa [List.flatMap_map] using h)
  · rename_i t x lo hi m ho
    exact key [x] (by simp [ho, Op.operands]) r (by simpa using h)
  · rename_i f first cs ho
    exact key cs.toList (fun x hx => by simp only [ho, Op.operands, Array.toList_append, List.mem_append]; exact .inr hx) r h
  · rename_i args ts ho
    exact key args.toList (fun x hx => by simp only [ho, Op.operands, Call.operands, Array.toList_append, List.mem_append]; exact .inr hx) r h
  · rename_i args ts ho
    exact key args.toList (fun x hx => by simp only [ho, Op.operands, Call.operands, Array.toList_append, List.mem_append]; exact .inr hx) r h
  · rename_i f args ts ho
    split at h
    · rename_i m agg g caps hf
      have := args_sub _ _ _ h
      refine key args.toList (fun x hx => by simp only [ho, Op.operands, Call.operands, Array.toList_append, List.mem_append]; exact .inr hx) r ?_
      simpa [asRoots, List.flatMap_map] using this
    · simp at h
  · simp at h
theorem touch_same {E : Env} {s t : St} {o : Oper} (h : ∀ x ∈ o.op.operands.toList, opnd E t x = opnd E s x) : opTouch E t o = opTouch E s o := by
  unfold opTouch
  split <;> try rfl
  generalize o.op.operands.toList = xs at h
  induction xs with
  | nil => rfl
  | cons x xs ih =>
    simp only [List.flatMap_cons]
    rw [h x (by simp), ih fun y hy => h y (by simp [hy])]
theorem flat_same {E : Env} {s t : St} {α : Type} (g : α → Operand) : ∀ (xs : List α), (∀ x ∈ xs, opnd E t (g x) = opnd E s (g x)) → xs.flatMap (fun x => rootsAV (opnd E t (g x))) = xs.flatMap (fun x => rootsAV (opnd E s (g x)))
  | [], _ => rfl
  | x :: xs, h => by
    simp only [List.flatMap_cons]
    rw [h x (by simp), flat_same g xs fun y hy => h y (by simp [hy])]
theorem wr_same {E : Env} {s t : St} {o : Oper} (h : ∀ x ∈ o.op.operands.toList, opnd E t x = opnd E s x) : opWr E t o = opWr E s o := by
  unfold opWr
  split
  · rename_i ty a x ho
    rw [h a (by simp [ho, Op.operands]), h x (by simp [ho, Op.operands])]
  · rename_i ty x ho
    rw [h x (by simp [ho, Op.operands])]
  · rename_i ty ps ho
    exact flat_same (Prod.snd : Nat × Operand → Operand) _ fun p hp => h _ (by simp only [ho, Op.operands, List.mem_map]; exact ⟨p, hp, rfl⟩)
  · rename_i ty n ps ho
    exact flat_same (Prod.snd : Nat × Operand → Operand) _ fun p hp => h _ (by simp only [ho, Op.operands, List.mem_map]; exact ⟨p, hp, rfl⟩)
  · rename_i ty x lo hi m ho
    rw [h x (by simp [ho, Op.operands])]
  · rename_i f first cs ho
    exact flat_same id _ fun p hp => h _ (by simp only [ho, Op.operands, Array.toList_append, List.mem_append]; exact .inr hp)
  · rename_i args ts ho
    exact flat_same id _ fun p hp => h _ (by simp only [ho, Op.operands, Call.operands, Array.toList_append, List.mem_append]; exact .inr hp)
  · rename_i args ts ho
    exact flat_same id _ fun p hp => h _ (by simp only [ho, Op.operands, Call.operands, Array.toList_append, List.mem_append]; exact .inr hp)
  · rename_i f args ts ho
    rw [h f (by simp [ho, Op.operands, Call.operands])]
    have : args.toList.map (opnd E t) = args.toList.map (opnd E s) := List.map_congr_left fun y hy => h y (by simp only [ho, Op.operands, Call.operands, Array.toList_append, List.mem_append]; exact .inr hy)
    rw [this]
  · rfl
theorem opnd_looks {E : Env} {ops : Array Oper} {s t : St} {o : Oper} (ht : ∀ u ∈ o.looksAt ops, look t.V u = look s.V u) : ∀ x ∈ o.op.operands.toList, opnd E t x = opnd E s x := fun x hx => opnd_same fun u hu => ht u (by
  subst hu
  exact List.mem_append_left _ (List.mem_filterMap.2 ⟨.tmp u, hx, rfl⟩))
theorem tr_same {E : Env} {ops : Array Oper} {s t : St} {o : Oper} (ht : ∀ u ∈ o.looksAt ops, look t.V u = look s.V u) : trOf E t o = trOf E s o := by
  unfold trOf
  rw [touch_same (opnd_looks ht), wr_same (opnd_looks ht)]

section
variable (E : Env) (K : Fns) (ops : Array Oper) (fz : List Nat)
/-- A run of these operations, whose traces are known. -/
def RunT (τ : Nat → Tr) : List Nat → St → St → Prop
  | [], s, s' => Sim s s'
  | i :: is, s, s' => ∃ o s1, ops[i]? = some o ∧ trOf E s o = τ i ∧ evG E K ops fz o s = some s1 ∧ RunT τ is s1 s'
end
section
variable {E : Env} {K : Fns} {ops : Array Oper} {fz : List Nat} {τ : Nat → Tr}
theorem g_sim (hst : E.strict = true) {o : Oper} {s s' t : St} (h : evG E K ops fz o s = some s') (hs : Sim s t) : ∃ t', evG E K ops fz o t = some t' ∧ Sim s' t' := by
  obtain ⟨d, x, e, w, f⟩ := evG_fr hst h
  exact ⟨_, f t (fun u _ => hs.1 u) (fun r _ => hs.2.1 r), e ▸ hs.step d o.dst x⟩
theorem RunT.sim (hst : E.strict = true) : ∀ (is : List Nat) (s s' t : St), RunT E K ops fz τ is s s' → Sim s t → RunT E K ops fz τ is t s'
  | [], s, s', t, h, hs => hs.symm.trans h
  | i :: is, s, s', t, h, hs => by
    obtain ⟨o, s1, e1, e2, e3, e4⟩ := h
    obtain ⟨t1, f1, f2⟩ := g_sim hst e3 hs
    exact ⟨o, t1, e1, (tr_same (ops := ops) fun u _ => hs.1 u).trans e2, f1, RunT.sim hst is s1 s' t1 e4 f2⟩
/-- Two operations of which neither minds the other. -/
structure Indep (τ : Nat → Tr) (ops : Array Oper) (i j : Nat) (o p : Oper) : Prop where
  t1 : ∀ d, o.dst = some d → d ∉ p.looksAt ops
  t2 : ∀ d, o.dst = some d → p.dst ≠ some d
  t3 : ∀ d, p.dst = some d → d ∉ o.looksAt ops
  r1 : ∀ r, (r ∈ (τ i).2.1 ∨ (opNew o = true ∧ ∃ k, r = .f (o.dst.getD 0) k)) → ¬ (r ∈ (τ j).1 ∨ ∃ k, r = .f (p.dst.getD 0) k)
  r2 : ∀ r, (r ∈ (τ j).2.1 ∨ (opNew p = true ∧ ∃ k, r = .f (p.dst.getD 0) k)) → ¬ (r ∈ (τ i).1 ∨ ∃ k, r = .f (o.dst.getD 0) k)
theorem lookH_none : ∀ (d : List (Root × HC)) (r : Root), (∀ p ∈ d, p.1 ≠ r) → lookH d r = none
  | [], r, _ => rfl
  | (u, h) :: d, r, hp => by
    simp only [lookH]
    rw [if_neg (hp (u, h) (by simp))]
    exact lookH_none d r fun p hq => hp p (by simp [hq])
theorem plusH (s : St) (d : List (Root × HC)) (dst : Option Nat) (x : AV) : ((s.plus d).put dst x).H = d ++ s.H := by cases dst <;> rfl
theorem plusV (s : St) (d : List (Root × HC)) (dst : Option Nat) (x : AV) {u : Nat} (h : dst ≠ some u) : look ((s.plus d).put dst x).V u = look s.V u := by
  cases dst with
  | none => rfl
  | some y =>
    show look ((y, x) :: s.V) u = _
    simp only [look]
    rw [if_neg fun e => h (by rw [e])]
theorem plusPs (s : St) (d : List (Root × HC)) (dst : Option Nat) (x : AV) : ((s.plus d).put dst x).ps = s.ps := by cases dst <;> rfl
theorem swap_ok (hst : E.strict = true) {i j : Nat} {o p : Oper} {s s1 s2 : St} (hi : Indep τ ops i j o p) (e1 : evG E K ops fz o s = some s1) (t1 : trOf E s o = τ i) (e2 : evG E K ops fz p s1 = some s2) (t2 : trOf E s1 p = τ j) :
    ∃ s1', evG E K ops fz p s = some s1' ∧ trOf E s p = τ j ∧ ∃ s2', evG E K ops fz o s1' = some s2' ∧ trOf E s1' o = τ i ∧ Sim s2 s2' := by
  obtain ⟨d, x, rfl, w, f⟩ := evG_fr hst e1
  obtain ⟨d', x', rfl, w', f'⟩ := evG_fr hst e2
  have hw : ∀ q ∈ d, q.1 ∈ (τ i).2.1 ∨ (opNew o = true ∧ ∃ k, q.1 = .f (o.dst.getD 0) k) := fun q hq => by rw [← t1]; exact w q hq
  have hw' : ∀ q ∈ d', q.1 ∈ (τ j).2.1 ∨ (opNew p = true ∧ ∃ k, q.1 = .f (p.dst.getD 0) k) := fun q hq => by rw [← t2]; exact w' q hq
  have l1 : ∀ u ∈ p.looksAt ops, look ((s.plus d).put o.dst x).V u = look s.V u := fun u hu => plusV s d o.dst x fun e => hi.t1 u e hu
  have tp : trOf E s p = τ j := (tr_same (ops := ops) fun u hu => (l1 u hu).symm).trans t2
  have g1 := f' s (fun u hu => (l1 u hu).symm) fun r hr => by
    rw [plusH, lookH_append, lookH_none d r]
    intro q hq e
    refine hi.r1 q.1 (hw q hq) ?_
    rw [e, ← t2]
    exact hr
  have l2 : ∀ u ∈ o.looksAt ops, look ((s.plus d').put p.dst x').V u = look s.V u := fun u hu => plusV s d' p.dst x' fun e => hi.t3 u e hu
  have g2 := f ((s.plus d').put p.dst x') l2 fun r hr => by
    rw [plusH, lookH_append, lookH_none d' r]
    intro q hq e
    refine hi.r2 q.1 (hw' q hq) ?_
    rw [e, ← t1]
    exact hr
  refine ⟨_, g1, tp, _, g2, (tr_same (ops := ops) l2).trans t1, fun u => ?_, fun r => ?_, ?_⟩
  · by_cases ho : o.dst = some u
    · have hp : p.dst ≠ some u := hi.t2 u ho
      rw [plusV _ d' p.dst x' hp, ho]
      show look ((u, x) :: _) u = look ((u, x) :: _) u
      simp [look]
    · rw [plusV _ d o.dst x ho]
      by_cases hp : p.dst = some u
      · rw [hp]
        show look ((u, x') :: _) u = look ((u, x') :: _) u
        simp [look]
      · rw [plusV _ d' p.dst x' hp, plusV _ d' p.dst x' hp, plusV _ d o.dst x ho]
  · simp only [plusH, lookH_append]
    cases h1 : lookH d r with
    | none => rfl
    | some h0 =>
      have : ∃ q ∈ d, q.1 = r := by
        apply Classical.byContradiction
        intro hn
        rw [lookH_none d r fun q hq e => hn ⟨q, hq, e⟩] at h1
        cases h1
      obtain ⟨q, hq, rfl⟩ := this
      have : lookH d' q.1 = none := lookH_none d' _ fun q' hq' e => by
        refine hi.r2 q'.1 (hw' q' hq') ?_
        rw [e]
        rcases hw q hq with z | z
        · left; rw [← t1] at z ⊢; exact wr_touch z
        · exact .inr z.2
      rw [this]
  · simp only [plusPs]
theorem bubble (hst : E.strict = true) {i : Nat} {o : Oper} (ho : ops[i]? = some o) (post : List Nat) : ∀ (pre : List Nat) (s s' : St), (∀ p ∈ pre, ∀ op, ops[p]? = some op → Indep τ ops p i op o) → RunT E K ops fz τ (pre ++ i :: post) s s' →
    ∃ s1, evG E K ops fz o s = some s1 ∧ trOf E s o = τ i ∧ RunT E K ops fz τ (pre ++ post) s1 s'
  | [], s, s', _, h => by
    obtain ⟨o', s1, e1, e2, e3, e4⟩ := h
    rw [ho] at e1
    cases e1
    exact ⟨s1, e3, e2, e4⟩
  | p :: pre, s, s', hp, h => by
    obtain ⟨op, sp, e1, e2, e3, e4⟩ := h
    obtain ⟨s1, f1, f2, f3⟩ := bubble hst ho post pre sp s' (fun q hq => hp q (by simp [hq])) e4
    obtain ⟨s1', g1, g2, s2', g3, g4, g5⟩ := swap_ok hst (hp p (by simp) op e1) e3 e2 f1 f2
    exact ⟨s1', g1, g2, op, s2', e1, g4, g3, RunT.sim hst _ _ _ _ f3 g5⟩
theorem run_of : ∀ (n k : Nat) (s s' : St) (tr : List Tr), n + k = ops.size → evOpsT E K ops fz (ops.toList.drop k) s = some (tr, s') → (∀ i, i < n → τ (k + i) = tr.getD i ([], [], 0)) → tr.length = n ∧ ((∀ i, i < n → τ (k + i) = tr.getD i ([], [], 0)) → RunT E K ops fz τ (List.range' k n) s s')
  | 0, k, s, s', tr, hk, h, hτ => by
    rw [List.drop_eq_nil_of_le (by simp; omega)] at h
    simp only [evOpsT, Option.some.injEq, Prod.mk.injEq] at h
    obtain ⟨rfl, rfl⟩ := h
    exact ⟨rfl, fun _ => Sim.refl s⟩
  | n + 1, k, s, s', tr, hk, h, hτ => by
    have hlt : k < ops.toList.length := by simp; omega
    rw [List.drop_eq_getElem_cons hlt] at h
    simp only [evOpsT] at h
    split at h <;> try (cases h; done)
    rename_i s1 hg
    split at h <;> try (cases h; done)
    rename_i tr1 s2 h1
    simp only [Option.some.injEq, Prod.mk.injEq] at h
    obtain ⟨rfl, rfl⟩ := h
    have hτ' : ∀ i, i < n → τ (k + 1 + i) = tr1.getD i ([], [], 0) := fun i hi => by
      have := hτ (i + 1) (by omega)
      rw [show k + (i + 1) = k + 1 + i by omega] at this
      simpa using this
    obtain ⟨l1, r1⟩ := run_of n (k + 1) s1 s2 tr1 (by omega) h1 hτ'
    refine ⟨by simp [l1], fun _ => ?_⟩
    rw [List.range'_succ]
    refine ⟨ops.toList[k], s1, by rw [← Array.getElem?_toList]; exact List.getElem?_eq_getElem hlt, ?_, hg, r1 hτ'⟩
    have := hτ 0 (by omega)
    simpa [trOf] using this.symm
end
end Go.Ev

/- Regions whose order is open are sound. -/
set_option linter.unusedVariables false
set_option linter.unusedSimpArgs false
namespace Go.Ev

/-- Operations that write nothing and make nothing. -/
def pureOp (o : Oper) : Bool :=
  match o.op with
  | .alloc .. | .box .. | .build .. | .buildSlice .. | .makeSlice .. | .convert .. | .store .. | .slice .. | .makeFunc .. => false
  | .call { callee := .builtin .append, .. } => false
  | .call { callee := .builtin .copy, .. } => false
  | .call { callee := .value _, .. } => false
  | _ => true
theorem pure_wr {E : Env} {s : St} {o : Oper} (h : pureOp o = true) : opWr E s o = [] ∧ opNew o = false := by
  obtain ⟨dst, op, type, pos, after, guard⟩ := o
  cases op with
  | call c =>
    obtain ⟨callee, args, ts⟩ := c
    cases callee with
    | value f => simp [pureOp] at h
    | builtin b => cases b <;> simp_all [pureOp, opWr, opNew]
    | invoke r m => simp [opWr, opNew]
  | _ => simp_all [pureOp, opWr, opNew]
def okPair (ops : Array Oper) (anc : List Nat) (i j : Nat) : Bool :=
  match ops[i]?, ops[j]? with
  | some o, some p => (anc.getD j 0).testBit i || (o.apart ops p && pureOp o && pureOp p)
  | _, _ => true
def mustPair (ops : Array Oper) (i j : Nat) : Bool :=
  match ops[i]?, ops[j]? with
  | some o, some p => o.apart ops p && (o.dst.getD 0 != p.dst.getD 0)
  | _, _ => true
def pairsOk (ops : Array Oper) (anc : List Nat) : List (Nat × Nat) → List (Nat × Nat) → Bool
  | [], _ => true
  | q :: qs, [] => okPair ops anc q.1 q.2 && pairsOk ops anc qs []
  | q :: qs, c :: cs => if q.1 == c.1 && q.2 == c.2 then mustPair ops q.1 q.2 && pairsOk ops anc qs cs else okPair ops anc q.1 q.2 && pairsOk ops anc qs (c :: cs)
def ancOr (anc : List Nat) : List Edge → Nat
  | [] => 0
  | e :: es => if Region.binds .any e then ((1 <<< e.on) ||| anc.getD e.on 0) ||| ancOr anc es else ancOr anc es
def ancOk (ops : Array Oper) (anc : List Nat) (j : Nat) : Bool :=
  match ops[j]? with
  | some o => (o.after.toList.all fun e => !Region.binds .any e || decide (e.on < j)) && anc.getD j 0 == ancOr anc o.after.toList
  | none => true
def drawChk (ops : Array Oper) (conf : List (Nat × Nat)) (anc : List Nat) : Bool :=
  (List.range ops.size).all (ancOk ops anc) && pairsOk ops anc ((List.range ops.size).flatMap fun j => (List.range j).map fun i => (i, j)) conf
theorem pairsOk_spec {ops : Array Oper} {anc : List Nat} : ∀ (qs cs : List (Nat × Nat)), pairsOk ops anc qs cs = true → ∀ q ∈ qs, okPair ops anc q.1 q.2 = true ∨ (q ∈ cs ∧ mustPair ops q.1 q.2 = true)
  | [], _, _, q, hq => by simp at hq
  | p :: qs, [], h, q, hq => by
    simp only [pairsOk, Bool.and_eq_true] at h
    rcases List.mem_cons.1 hq with rfl | hq
    · exact .inl h.1
    · exact pairsOk_spec qs [] h.2 q hq
  | p :: qs, c :: cs, h, q, hq => by
    simp only [pairsOk] at h
    split at h
    · rename_i hc
      simp only [Bool.and_eq_true, beq_iff_eq] at h hc
      rcases List.mem_cons.1 hq with rfl | hq
      · exact .inr ⟨by rw [show q = c from Prod.ext hc.1 hc.2]; simp, h.1⟩
      · exact (pairsOk_spec qs cs h.2 q hq).imp id fun k => ⟨by simp [k.1], k.2⟩
    · simp only [Bool.and_eq_true] at h
      rcases List.mem_cons.1 hq with rfl | hq
      · exact .inl h.1
      · exact pairsOk_spec qs (c :: cs) h.2 q hq
theorem ancOr_spec {anc : List Nat} {p : Nat} : ∀ (es : List Edge), (ancOr anc es).testBit p = true → ∃ e ∈ es, Region.binds .any e = true ∧ (e.on = p ∨ (anc.getD e.on 0).testBit p = true)
  | [], h => by simp [ancOr] at h
  | e :: es, h => by
    simp only [ancOr] at h
    split at h
    · rename_i hb
      rw [Nat.testBit_or, Nat.testBit_or, Nat.one_shiftLeft, Nat.testBit_two_pow] at h
      simp only [Bool.or_eq_true, decide_eq_true_eq] at h
      rcases h with (h | h) | h
      · exact ⟨e, by simp, hb, .inl h⟩
      · exact ⟨e, by simp, hb, .inr h⟩
      · obtain ⟨e', h1, h2⟩ := ancOr_spec es h
        exact ⟨e', by simp [h1], h2⟩
    · obtain ⟨e', h1, h2⟩ := ancOr_spec es h
      exact ⟨e', by simp [h1], h2⟩

section
variable {E : Env} {K : Fns} {ops : Array Oper} {fz : List Nat} {τ : Nat → Tr} {conf : List (Nat × Nat)} {anc : List Nat}
def Closed (ops : Array Oper) (listed : Array Bool) : Prop :=
  listed.size = ops.size ∧ ∀ j o, ops[j]? = some o → listed.getD j false = true → ∀ e ∈ o.after, Region.binds .any e = true → listed.getD e.on false = true
theorem ancs_listed (hk : drawChk ops conf anc = true) {listed : Array Bool} (hc : Closed ops listed) :
    ∀ (j : Nat) (o : Oper), ops[j]? = some o → (∀ e ∈ o.after, Region.binds .any e = true → listed.getD e.on false = true) → ∀ p, (anc.getD j 0).testBit p = true → listed.getD p false = true := by
  intro j
  induction j using Nat.strongRecOn with
  | _ j ih =>
    intro o ho hl p hp
    have hlt : j < ops.size := (Array.getElem?_eq_some_iff.1 ho).1
    simp only [drawChk, Bool.and_eq_true, List.all_eq_true, List.mem_range] at hk
    have hj := hk.1 j hlt
    simp only [ancOk, ho, Bool.and_eq_true, beq_iff_eq, List.all_eq_true, Bool.or_eq_true, Bool.not_eq_true', decide_eq_true_eq] at hj
    rw [hj.2] at hp
    obtain ⟨e, he, hb, h⟩ := ancOr_spec _ hp
    have he' : e ∈ o.after := Array.mem_toList_iff.1 he
    have h1 := hl e he' hb
    rcases h with rfl | h
    · exact h1
    · have hlt' : e.on < j := (hj.1 e he).resolve_left (by simp [hb])
      have hsz : e.on < ops.size := by omega
      have ho' : ops[e.on]? = some ops[e.on] := Array.getElem?_eq_getElem hsz
      exact ih e.on hlt' _ ho' (hc.2 _ _ ho' h1) p h
def remL (n : Nat) (listed : Array Bool) : List Nat := (List.range n).filter fun i => !listed.getD i true
theorem mem_rem {n i : Nat} {listed : Array Bool} : i ∈ remL n listed ↔ i < n ∧ listed.getD i true = false := by
  simp [remL]
theorem rem_set {n i : Nat} {listed : Array Bool} {pre post : List Nat} (hs : listed.size = n) (h : remL n listed = pre ++ i :: post) : remL n (listed.setIfInBounds i true) = pre ++ post := by
  have hi : i ∈ remL n listed := by rw [h]; simp
  have hlt := (mem_rem.1 hi).1
  have e : remL n (listed.setIfInBounds i true) = (remL n listed).filter fun j => decide (j ≠ i) := by
    unfold remL
    rw [List.filter_filter]
    refine List.filter_congr fun j hj => ?_
    by_cases hij : i = j
    · subst hij
      simp [Array.getElem?_setIfInBounds, hs, hlt]
    · rw [getD_set_ne true hij]
      simp [Ne.symm hij]
  have nd : (remL n listed).Nodup := List.Pairwise.filter _ List.nodup_range
  rw [h, List.nodup_append] at nd
  obtain ⟨n1, n2, n3⟩ := nd
  rw [e, h, List.filter_append, List.filter_cons_of_neg (by simp), List.filter_eq_self.2 fun a ha => ?_, List.filter_eq_self.2 fun a ha => ?_]
  · have := (List.nodup_cons.1 n2).1
    simp only [decide_eq_true_eq]
    rintro rfl
    exact this ha
  · simp only [decide_eq_true_eq]
    exact n3 a ha i (by simp)
theorem rem_lt {n i : Nat} {listed : Array Bool} {pre post : List Nat} (h : remL n listed = pre ++ i :: post) : (∀ p ∈ pre, p < i) ∧ ∀ p ∈ post, i < p := by
  have : (remL n listed).Pairwise (· < ·) := List.Pairwise.filter _ List.pairwise_lt_range
  rw [h, List.pairwise_append] at this
  exact ⟨fun p hp => this.2.2 p hp i (by simp), fun p hp => (List.pairwise_cons.1 this.2.1).1 p hp⟩
theorem run_tr : ∀ (is : List Nat) (s s' : St), RunT E K ops fz τ is s s' → ∀ i ∈ is, ∃ s o, ops[i]? = some o ∧ trOf E s o = τ i
  | [], _, _, _, i, hi => by simp at hi
  | j :: is, s, s', h, i, hi => by
    obtain ⟨o, s1, e1, e2, e3, e4⟩ := h
    rcases List.mem_cons.1 hi with rfl | hi
    · exact ⟨s, o, e1, e2⟩
    · exact run_tr is s1 s' e4 i hi
theorem indep_of {i j : Nat} {o p : Oper} {s t : St} (ho : ops[i]? = some o) (hp : ops[j]? = some p) (ti : trOf E s o = τ i) (tj : trOf E t p = τ j)
    (h : (o.apart ops p = true ∧ pureOp o = true ∧ pureOp p = true) ∨ (apart2 (τ i) (τ j) = true ∧ mustPair ops i j = true)) : Indep τ ops i j o p := by
  rcases h with ⟨h1, h2, h3⟩ | ⟨h1, h2⟩
  · obtain ⟨a1, a2, a3⟩ := Oper.apart_spec h1
    have p1 := pure_wr (E := E) (s := s) h2
    have p2 := pure_wr (E := E) (s := t) h3
    refine ⟨a1, a2, a3, fun r hr => ?_, fun r hr => ?_⟩
    · rw [← ti, p1.2] at hr
      simp [trOf, p1.1] at hr
    · rw [← tj, p2.2] at hr
      simp [trOf, p2.1] at hr
  · simp only [mustPair, ho, hp, Bool.and_eq_true, bne_iff_ne, ne_eq] at h2
    obtain ⟨a1, a2, a3⟩ := Oper.apart_spec h2.1
    rw [← ti, ← tj] at h1
    simp only [trOf, apart2, Bool.and_eq_true, List.all_eq_true, Bool.not_eq_true', List.contains_eq_mem, decide_eq_false_iff_not] at h1
    obtain ⟨⟨⟨b1, b2⟩, b3⟩, b4⟩ := h1
    have nf : ∀ d k, notF d (.f d k) = false := fun d k => by simp [notF]
    refine ⟨a1, a2, a3, fun r hr => ?_, fun r hr => ?_⟩
    · rw [← ti] at hr
      rw [← tj]
      simp only [trOf] at hr ⊢
      rintro (q | ⟨k, rfl⟩)
      · rcases hr with hr | ⟨_, k, rfl⟩
        · exact b1 r hr q
        · have := b4 _ q; rw [nf] at this; cases this
      · rcases hr with hr | ⟨_, k', e⟩
        · have := b3 _ (wr_touch hr); rw [nf] at this; cases this
        · exact h2.2 (by first | exact (Root.f.inj e).1 | exact (Root.f.inj e).1.symm)
    · rw [← tj] at hr
      rw [← ti]
      simp only [trOf] at hr ⊢
      rintro (q | ⟨k, rfl⟩)
      · rcases hr with hr | ⟨_, k, rfl⟩
        · exact b2 r hr q
        · have := b3 _ q; rw [nf] at this; cases this
      · rcases hr with hr | ⟨_, k', e⟩
        · have := b4 _ (wr_touch hr); rw [nf] at this; cases this
        · exact h2.2 (by first | exact (Root.f.inj e).1 | exact (Root.f.inj e).1.symm)
theorem getD_same {listed : Array Bool} {i : Nat} (h : i < listed.size) : listed.getD i true = listed.getD i false := by
  simp [Array.getD_eq_getD_getElem?, h]
theorem any_ok {C : Cf} {s' : St} {Q : Exit → Act → World → Prop} (hst : E.strict = true) (gk : GlobOk E C) (hc : Cons' E K) (he : EqOk E.P) (hd : ∀ o ∈ ops.toList, ∀ y, o.dst = some y → y < C.N)
    (hk : drawChk ops conf anc = true) (hap : ∀ q ∈ conf, apart2 (τ q.1) (τ q.2) = true) (hn : ∀ a w, InvX C s' a w → Q .normal a w) :
    ∀ (fuel : Nat) (listed : Array Bool) (s : St) (a : Act) (w : World), Closed ops listed → (remL ops.size listed).length = fuel → RunT E K ops fz τ (remL ops.size listed) s s' → InvX C s a w → wpAny E.P .any ops Q fuel listed a w := by
  intro fuel
  induction fuel with
  | zero =>
    intro listed s a w hcl hl hr I
    rw [List.length_eq_zero_iff] at hl
    refine ⟨?_, ?_⟩
    · rw [List.eq_nil_iff_forall_not_mem]
      intro j hj
      obtain ⟨h1, o, h2, _⟩ := mem_ready.1 hj
      have : j ∈ remL ops.size listed := mem_rem.2 ⟨(Array.getElem?_eq_some_iff.1 h2).1, h1⟩
      rw [hl] at this
      simp at this
    · rw [hl] at hr
      exact hn a w (Sim.inv hr I)
  | succ fuel ih =>
    intro listed s a w hcl hl hr I
    have hk' := hk
    simp only [drawChk, Bool.and_eq_true, List.all_eq_true, List.mem_range] at hk'
    obtain ⟨ka, kp⟩ := hk'
    refine ⟨fun hnil => ?_, fun i hi => ?_⟩
    · exfalso
      match hrem : remL ops.size listed with
      | [] => rw [hrem] at hl; simp at hl
      | i0 :: rest =>
        have hi0 : i0 ∈ remL ops.size listed := by rw [hrem]; simp
        obtain ⟨l1, l2⟩ := mem_rem.1 hi0
        have ho : ops[i0]? = some ops[i0] := Array.getElem?_eq_getElem l1
        have hk0 := ka i0 l1
        simp only [ancOk, ho, Bool.and_eq_true, List.all_eq_true, Bool.or_eq_true, Bool.not_eq_true', decide_eq_true_eq] at hk0
        have : i0 ∈ Region.ready .any ops listed := mem_ready.2 ⟨l2, _, ho, fun e hE hb => by
          have hlt := (hk0.1 e (Array.mem_toList_iff.2 hE)).resolve_left (by simp [hb])
          rw [← getD_same (by rw [hcl.1]; omega)]
          apply Classical.byContradiction
          intro hne
          have hm : e.on ∈ remL ops.size listed := mem_rem.2 ⟨by omega, by simpa using hne⟩
          rw [hrem] at hm
          rcases List.mem_cons.1 hm with hm | hm
          · omega
          · have := (rem_lt (pre := []) hrem).2 _ hm
            omega⟩
        rw [hnil] at this
        simp at this
    · obtain ⟨h1, o, ho, hall⟩ := mem_ready.1 hi
      have hlt : i < ops.size := (Array.getElem?_eq_some_iff.1 ho).1
      have hmem : i ∈ remL ops.size listed := mem_rem.2 ⟨hlt, h1⟩
      obtain ⟨pre, post, hrem⟩ := List.append_of_mem hmem
      have hor := rem_lt hrem
      have htr := run_tr _ _ _ hr
      rw [hrem] at hr
      have hind : ∀ p ∈ pre, ∀ op, ops[p]? = some op → Indep τ ops p i op o := fun p hp op hop => by
        have hpm : p ∈ remL ops.size listed := by rw [hrem]; simp [hp]
        obtain ⟨sp, op', e1, e2⟩ := htr p hpm
        rw [hop] at e1
        cases e1
        obtain ⟨si, o', f1, f2⟩ := htr i hmem
        rw [ho] at f1
        cases f1
        have hq : (p, i) ∈ (List.range ops.size).flatMap fun j => (List.range j).map fun i => (i, j) := by
          simp only [List.mem_flatMap, List.mem_range, List.mem_map, Prod.mk.injEq]
          exact ⟨i, hlt, p, hor.1 p hp, rfl, rfl⟩
        refine indep_of hop ho e2 f2 ?_
        rcases pairsOk_spec _ _ kp (p, i) hq with h | ⟨h, h'⟩
        · simp only [okPair, hop, ho, Bool.or_eq_true, Bool.and_eq_true] at h
          rcases h with h | h
          · exfalso
            have := ancs_listed hk hcl i o ho hall p h
            have hp2 := (mem_rem.1 hpm)
            rw [getD_same (by rw [hcl.1]; exact hp2.1)] at hp2
            rw [this] at hp2
            exact absurd hp2.2 (by simp)
          · exact .inl ⟨h.1.1, h.1.2, h.2⟩
        · exact .inr ⟨hap _ h, h'⟩
      obtain ⟨s1, g1, g2, g3⟩ := bubble hst ho post pre s s' hind hr
      have hset := rem_set hcl.1 hrem
      refine g_ok gk hc he I ho (hd o (Array.mem_toList_iff.2 (Array.mem_of_getElem? ho))) g1 fun a w J => ih _ s1 a w ⟨?_, ?_⟩ ?_ ?_ J
      · simp [hcl.1]
      · intro j oj hj hlj e hE hb
        by_cases hij : i = j
        · subst hij
          rw [ho] at hj
          cases hj
          exact getD_set_true (hall e hE hb)
        · rw [getD_set_ne false hij] at hlj
          exact getD_set_true (hcl.2 j oj hj hlj e hE hb)
      · rw [hset]
        rw [hrem] at hl
        simp at hl ⊢
        omega
      · rw [hset]
        exact g3
theorem apart_all {tr : List Tr} : ∀ (conf : List (Nat × Nat)), apartOk tr conf = true → ∀ q ∈ conf, apart2 (tr.getD q.1 ([], [], 0)) (tr.getD q.2 ([], [], 0)) = true
  | [], _, q, hq => by simp at hq
  | (i, j) :: rest, h, q, hq => by
    simp only [apartOk, Bool.and_eq_true] at h
    rcases List.mem_cons.1 hq with rfl | hq
    · have h1 := h.1
      split at h1
      · rename_i x y hx hy
        rw [List.getD_eq_getElem?_getD, List.getD_eq_getElem?_getD, hx, hy]
        exact h1
      · cases h1
    · exact apart_all rest h.2 q hq
end
theorem draw_ok {E : Env} {K : Fns} {fz : List Nat} {conf : List (Nat × Nat)} {anc : List Nat} {id : Nat} {ops : Array Oper} (hc : Cons' E K) (he : EqOk E.P) (hm : E.P.follows .mixedOrders = true) (hk : drawChk ops conf anc = true) : DrawOk E K fz conf id ops := by
  intro C s s' a w Q gk0 hd I h hn
  have gk : GlobOk E.st C := { gk0 with }
  unfold evDraw at h
  split at h <;> try (cases h; done)
  rename_i tr s2 ht
  split at h <;> try (cases h; done)
  rename_i hap
  simp only [Option.some.injEq] at h
  subst h
  have hrun := run_of (E := E.st) (K := K) (ops := ops) (fz := fz) (τ := fun i => tr.getD i ([], [], 0)) ops.size 0 s s2 tr (by omega) (by simpa using ht) (fun i hi => by simp)
  have hr := hrun.2 fun i hi => by simp
  refine wp_region_any hm ?_
  have hrem : remL ops.size (Array.replicate ops.size false) = List.range' 0 ops.size := by
    rw [← List.range_eq_range']
    exact List.filter_eq_self.2 fun i hi => by simp [List.mem_range.1 hi]
  refine any_ok (E := E.st) (K := K) (fz := fz) (τ := fun i => tr.getD i ([], [], 0)) rfl gk hc he hd hk (apart_all conf hap) hn ops.size _ s a _ ⟨by simp, fun j o ho hl => ?_⟩ (by rw [hrem]; simp) (by rw [hrem]; exact hr) I.drawn
  exfalso
  have := (Array.getElem?_eq_some_iff.1 ho).1
  simp [this] at hl
end Go.Ev

/- What is asked of a program, as a check. -/
set_option linter.unusedVariables false
set_option linter.unusedSimpArgs false
namespace Go.Ev

def okBody (P : Program) (conf : Nat → List (Nat × Nat)) (anc : Nat → List Nat) (f : FuncId) : Bool :=
  match P.funcs[f]? with
  | some fn =>
    match fn.body with
    | some c => !(fn.name == "runtime.NumGoroutine") && codeOk fn.ntmps (fun id ops => drawChk ops (conf id) (anc id)) c
    | none => true
  | none => true
theorem envOk_of {E : Env} {anc : FuncId → Nat → List Nat} (hm : E.P.follows .mixedOrders = true) (hb : ∀ f, E.ext f = none → okBody E.P (E.conf f) (anc f) f = true)
    (hx : ∀ f k args out, E.ext f = some k → k args = some out → Con E f args out) : EnvOk E fun f id ops => drawChk ops (E.conf f id) (anc f id) where
  eq := eq_ok E
  draw := fun K hc f id ops hk => draw_ok hc (eq_ok E) hm hk
  body := fun f fn c h1 h2 h3 => by
    have := hb f h1
    simp only [okBody, h2, h3, Bool.and_eq_true, Bool.not_eq_true'] at this
    exact this
  ext := hx
end Go.Ev

/- 'slices.Clone', whatever its elements: a nil slice stays nil. -/
set_option linter.unusedVariables false
set_option linter.unusedSimpArgs false
namespace Go.Ev

def cloneCode (T Tb : TypeId) (p0 p1 p2 p3 p4 : String) (g1 g2 g3 : Array Edge) : Code :=
  (Code.region 0 #[{ dst := some 2, op := .assign (.const (.slice none 0 0)), type := T, pos := p0, after := #[], guard := none }] false).seq
    (((Code.region 1 #[{ dst := some 3, op := .move (.tmp 0), type := T, pos := p1, after := #[], guard := none },
        { dst := some 4, op := .binOp .eql T (.tmp 3) (.const (.slice none 0 0)) T, type := Tb, pos := p2, after := g1, guard := none }] false).seq
      (.cond (.tmp 4) ((Code.region 2 #[{ dst := some 2, op := .assign (.const (.slice none 0 0)), type := T, pos := p3, after := #[], guard := none }] false).seq .ret) .skip)).seq
    ((Code.region 3 #[{ dst := some 5, op := .buildSlice T 0 #[], type := T, pos := p4, after := #[], guard := none },
        { dst := some 6, op := .move (.tmp 0), type := T, pos := p4, after := #[], guard := none },
        { dst := some 7, op := .call { callee := .builtin .append, args := #[.tmp 5, .tmp 6], argTypes := #[T, T] }, type := T, pos := p4, after := g2, guard := none },
        { dst := some 2, op := .assign (.tmp 7), type := T, pos := p4, after := g3, guard := none }] false).seq .ret))
def cloneK (sz by' : Nat) : List Arg → Option Out
  | [.v m false [.sl xs]] => if (xs.all fun r => r.all L.flat) = true ∧ (xs.all fun r => decide (r.length = sz)) = true ∧ xs.length * by' ≤ 17592186044416 ∧ xs.length ≤ 17592186044416 then some { rs := [.v .own false [.sl xs]], outs := [] } else none
  | _ => none
theorem sl_of {w : World} {R B : Nat → Prop} {H : List (Root × HC)} {loc : Root → Loc} {v : Value} {m : M} {xs : List (List L)} (h : AVRep w R B H loc v (.v m false [.sl xs])) : ∃ a n c, v = .slice a n c ∧ (a = none → xs = []) := by
  obtain ⟨S, h1, h2, h3, h4⟩ := h
  have hc : v.cells.toList = [v] := by cases v <;> first | rfl | simp [isAgg] at h2
  rw [hc] at h1
  cases h1 with
  | cons _ _ _ _ _ _ _ g1 g2 =>
    cases g1 with
    | sle _ a cap _ => exact ⟨a, 0, cap, rfl, fun _ => rfl⟩
    | sl => exact ⟨_, _, _, rfl, fun e => by cases e⟩
theorem clone_con {E : Env} {f : FuncId} {fn : Func} {T Tb e : TypeId} {ti ei : TI} {p0 p1 p2 p3 p4 : String} {g1 g2 g3 : Array Edge} (hf : E.P.funcs[f]? = some fn) (hb : fn.body = some (cloneCode T Tb p0 p1 p2 p3 p4 g1 g2 g3)) (hname : (fn.name == "runtime.NumGoroutine") = false)
    (hres : fn.results.toList = [.tmp 2]) (hp : fn.params.size + fn.nfree = 1) (hnt : fn.ntmps = 8) (hl0 : E.live f 0 = [0]) (hl1 : E.live f 1 = [0, 4]) (hl2 : E.live f 2 = [2]) (hl3 : E.live f 3 = [2]) (hfz : E.fz f = [])
    (ht : tiOf E.P T = some ti) (htd : ti.td = .slice e) (hei : tiOf E.P e = some ei) (hz : ei.size ≠ 0) (args : List Arg) (out : Out) (h : cloneK ei.size ei.bytes args = some out) : Con E f args out := by
  unfold cloneK at h
  split at h <;> try (cases h; done)
  rename_i m xs
  split at h <;> cases h
  rename_i hc
  obtain ⟨q1, q2, q3, q4⟩ := hc
  have hgC : Cons' E fun _ _ => none := fun _ _ _ h => by cases h
  have he := eq_ok E
  refine body_con2 hf hb hname (by rw [hp]; rfl) (by rw [hnt]; exact Nat.le_of_ble_eq_true rfl) (fun e s => e = .ret ∧ (match evResults E (E.fz f) fn.results.toList s with | some (rs, s') => (outsOf s' [.v m false [.sl xs]] 0).map fun outs => ({ rs, outs } : Out) | none => none) = some { rs := [.v .own false [.sl xs]], outs := [] }) (fun e s h => ⟨.inr h.1, h.2⟩) ?_
  intro C a w vs Q gk hN hT hlen I hq
  have hN8 : C.N = 8 := hN.trans hnt
  unfold cloneCode
  refine wp_seq (region_ok (K := fun _ _ => none) (fz := []) gk hgC he (fun o ho y hy => ?_) I (s' := { V := [(2, .nil), (0, .v m false [.sl xs])], H := [], ps := [] }) rfl fun a1 w1 I1 => ?_)
  · simp only [List.mem_cons, List.not_mem_nil, or_false] at ho
    subst ho
    cases hy
    rw [hN8]; decide
  have I1 := canon_ok [0] I1
  refine wp_seq (wp_seq (wp_region ?_))
  show wpOps E.P _ _ [0, 1] a1 w1
  rw [wpOps_cons]
  refine g_ok (K := fun _ _ => none) (fz := []) gk hgC he I1 rfl (fun y hy => by cases hy; rw [hN8]; decide) (s' := { V := [(3, .v m false [.sl xs]), (0, .v m false [.sl xs])], H := [], ps := [] }) rfl fun a2 w2 I2 => ?_
  rw [wpOps_cons]
  obtain ⟨R, loc, fp, I2⟩ := I2
  obtain ⟨ad, n, c, hv, hnil⟩ := sl_of (I2.av 3)
  have hrun : (execOp a2.eval { dst := some 4, op := .binOp .eql T (.tmp 3) (.const (.slice none 0 0)) T, type := Tb, pos := p2, after := g1, guard := none }).run E.P w2 = .ok (.value (.bool ad.isNone)) w2 := by
    obtain ⟨i, d, zz, hi, hdd, hzz, hzs, hz1, hn, h0, e1, e2, e3, e4, e5⟩ := tiOf_spec ht
    have hds : d = .slice e := by rw [e5] at htd; cases d <;> simp [tdOf] at htd; rw [htd]
    subst hds
    have hv3 : a2.eval (.tmp 3) = .slice ad n c := hv
    have ee : (do eqGuard .eql T (.tmp 3) (.const (.slice none 0 0)) (.slice ad n c) (.slice none 0 0); binOp .eql T (.slice ad n c) (.slice none 0 0) : Sem Value).run E.P w2 = .ok (.bool ad.isNone) w2 := by
      have e1 : (eqGuard .eql T (.tmp 3) (.const (.slice none 0 0)) (.slice ad n c) (.slice none 0 0)).run E.P w2 = .ok () w2 := rfl
      have e2 : binOp .eql T (.slice ad n c) (.slice none 0 0) = (do pure (.bool (← Op.equal T (.slice ad n c) (.slice none 0 0)))) := rfl
      simp only [Sem.run_bind, e1, e2, Result.andThen_ok, run_equal_slice_nil w2 T e ad n c hdd]; rfl
    have hk : a2.eval (.const (.slice none 0 0)) = .slice none 0 0 := rfl
    simp only [execOp, hv3, hk]
    rw [Sem.run_bind, ee]; rfl
  unfold wpOp
  show (if Region.wanted _ _ = true then _ else _)
  rw [if_pos (by simp [Region.wanted])]
  refine .inl (opVal hrun ?_)
  have I3 : InvX C { V := [(4, .v .ro false [.bool ad.isNone]), (3, .v m false [.sl xs]), (0, .v m false [.sl xs])], H := [], ps := [] } (a2.put (some 4) (.bool ad.isNone)) w2 := InvX.put I2 (d := some 4) (fun y hy => by cases hy; rw [hN8]; decide) (mkFlat (.bool _ _) rfl)
  have I4 := canon_ok [0, 4] I3
  have hcv : (a2.put (some 4) (.bool ad.isNone)).eval (.tmp 4) = .bool ad.isNone := by
    obtain ⟨R, loc, fp, I4⟩ := I4
    have := I4.av 4
    obtain ⟨S, g1, _⟩ := scal this
    show (a2.put (some 4) (.bool ad.isNone)).tmps.getD 4 undef = _
    generalize (a2.put (some 4) (.bool ad.isNone)).tmps.getD 4 undef = v at g1
    cases g1
    rfl
  have I4 : InvX C { V := [(0, .v m false [.sl xs]), (4, .v .ro false [.bool ad.isNone])], H := [], ps := [] } (a2.put (some 4) (.bool ad.isNone)) w2 := I4
  show Code.wp E.P _ _ (a2.put (some 4) (.bool ad.isNone)) w2
  generalize a2.put (some 4) (.bool ad.isNone) = a3 at I4 hcv
  refine wp_cond hcv ?_
  cases had : ad.isNone with
  | true =>
    have hx : xs = [] := hnil (by simpa using had)
    subst hx
    rw [had] at I4
    refine wp_seq (region_ok (K := fun _ _ => none) (fz := []) (s := { V := [(0, .v m false [.sl []]), (4, .v .ro false [.bool true])], H := [], ps := [] }) (s' := { V := [(2, .nil), (0, .v m false [.sl []]), (4, .v .ro false [.bool true])], H := [], ps := [] }) gk hgC he (fun o ho y hy => ?_) I4 rfl fun a5 w5 I5 => ?_)
    · simp only [List.mem_cons, List.not_mem_nil, or_false] at ho
      subst ho
      cases hy
      rw [hN8]; decide
    refine wp_ret ?_
    refine hq .ret _ a5 w5 ⟨rfl, ?_⟩ (canon_ok [2] I5)
    simp [hres, hfz, evResults, evResult, canon, St.norm, renOf, AV.ren, keepH, St.embed, outsOf, look]
  | false =>
    rw [had] at I4
    have q5 : 0 < ei.size := by omega
    refine wp_skip ?_
    refine wp_seq (region_ok (K := fun _ _ => none) (fz := []) (s := { V := [(0, .v m false [.sl xs]), (4, .v .ro false [.bool false])], H := [], ps := [] }) (s' := { V := [(2, .at (.f 7 1) 0 0 0 [] 1 false), (7, .at (.f 7 1) 0 0 0 [] 1 false), (6, .v m false [.sl xs]), (5, .at (.f 5 1) 0 0 0 [] 1 false), (0, .v m false [.sl xs]), (4, .v .ro false [.bool false])], H := [(.f 7 1, { box := false, wr := true, m := .own, ls := [.sl xs], e0 := 0, e1 := 0 }), (.f 5 1, { box := false, wr := true, m := .own, ls := [.dead], e0 := 1, e1 := 0, lz := some (0, 1) }), (.f 5 1, { box := false, wr := true, m := .own, ls := [.sl []], e0 := 0, e1 := 0 })], ps := [] }) gk hgC he (fun o ho y hy => ?_) I4 ?_ fun a5 w5 I5 => ?_)
    · simp only [List.mem_cons, List.not_mem_nil, or_false] at ho
      rcases ho with rfl | rfl | rfl | rfl <;> cases hy <;> rw [hN8] <;> decide
    · simp only [List.all_eq_true] at q1 q2
      have hsl : ∀ ys, (L.sl ys).flat = false := fun _ => rfl
      have q1' : ∀ x ∈ xs, ∀ y ∈ x, y.flat = true := q1
      have q2' : ∀ x ∈ xs, x.length = ei.size := fun x hx => by simpa using q2 x hx
      simp [evOps, evG, evOp, ht, htd, hei, q5, q3, q4, q2', fillCells, St.new, hsl, lookH, St.putH, St.put, opnd, look, evCallOp, evAppend, St.embed, St.getAt, place, HC.okAt, HC.keeps, HC.set, HC.bump, setPlace, setRange, deadened, srcRows, St.peek, flatRows, rowsOk, isRowTy, chunk, M.isOwn, M.join, modeOf]
      simp only [if_pos q1']
      simp [hsl, q3, q4, q5, lookH, M.isOwn, M.join]
      simp only [if_pos q2']
      simp [look]
    refine wp_ret ?_
    refine hq .ret _ a5 w5 ⟨rfl, ?_⟩ (canon_ok [2] I5)
    simp [hres, hfz, evResults, evResult, canon, St.norm, renOf, addRen, ren1, inPs, AV.ren, keepH, St.embed, outsOf, look, lookH, HC.okAt, HC.keeps, HC.reset, St.getAt, place, M.isOwn, HC.set, HC.bump]
end Go.Ev

/- From a contract to a call over slices of bytes that came in. -/
set_option linter.unusedVariables false
set_option linter.unusedSimpArgs false
namespace Go.Ev

def IsRow (k : IntKind) (w : World) (a : Option Addr) (len cap : Nat) (zs : List Int) : Prop :=
  (a = none ∧ len = 0 ∧ cap = 0 ∧ zs = []) ∨
  ∃ x, a = some x ∧ len ≤ cap ∧ cap ≤ maxLen ∧ zs.length = cap ∧ (∀ i, i < zs.length → w.cell? (x.add i) = some (.int k (zs.getD i 0))) ∧ ∀ n ∈ zs, (Lit.int k n).wf = true
def codeOf (zs : List Int) (len : Nat) : List UInt8 := (zs.take len).map fun z => UInt8.ofNat z.toNat
theorem wf_u8 {z : Int} (h : (Lit.int .u8 z).wf = true) : 0 ≤ z ∧ z < 256 := by
  have h : IntKind.u8.min ≤ z ∧ z ≤ IntKind.u8.max := by simpa [Lit.wf] using h
  have h1 : IntKind.u8.min = 0 := by decide
  have h2 : IntKind.u8.max = 255 := by decide
  omega
theorem rows_code {zs : List Int} {len : Nat} (h : ∀ n ∈ zs, (Lit.int .u8 n).wf = true) : rowsOfBytes (codeOf zs len) = (zs.take len).map fun z => [L.int .u8 z] := by
  unfold rowsOfBytes codeOf
  rw [List.map_map]
  refine List.map_congr_left fun z hz => ?_
  have := wf_u8 (h z (List.mem_of_mem_take hz))
  simp only [Function.comp]
  congr 2
  rw [UInt8.toNat_ofNat']
  omega
theorem ints_rep {w : World} {k : IntKind} (o : Bool) : ∀ (zs : List Int), RepLs w o (zs.map fun z => Value.int k z) (zs.map fun z => L.int k z) []
  | [] => .nil o
  | z :: zs => .cons o _ _ _ _ [] [] (.int o k z) (ints_rep o zs)
theorem isRow_rep {w : World} {a : Option Addr} {len cap : Nat} {zs : List Int} (h : IsRow .u8 w a len cap zs) :
    ∃ S, RepLs w false [.slice a len cap] [.sl (rowsOfBytes (codeOf zs len))] S := by
  rcases h with ⟨rfl, rfl, rfl, rfl⟩ | ⟨x, rfl, hl, hm, hz, hc, hw⟩
  · exact ⟨[] ++ [], .cons _ _ _ _ _ _ _ (.sle _ _ _ (by simp)) (.nil _)⟩
  · rw [rows_code hw]
    by_cases h0 : len = 0
    · subst h0
      exact ⟨[] ++ [], .cons _ _ _ _ _ _ _ (.sle _ _ _ (by simp)) (.nil _)⟩
    · obtain ⟨b, off, spot⟩ := x
      have c0 := hc 0 (by omega)
      have hsp : spot = none := World.cell?_spot (a := ⟨b, off, spot⟩) (by simpa [Addr.add] using c0)
      subst hsp
      have hb : ∃ cs T fr, w.heap[b]? = some (.cells cs T fr) := by
        simp only [Addr.add, if_pos, World.cell?] at c0
        split at c0
        · exact ⟨_, _, _, by assumption⟩
        · cases c0
      obtain ⟨cs, T, fr, hb⟩ := hb
      have hcell : ∀ i, i < zs.length → cs[off + i]? = some (.int .u8 (zs.getD i 0)) := fun i hi => by
        have := hc i hi
        by_cases hi0 : i = 0
        · subst hi0
          simpa [World.cell?, Addr.add, hb] using this
        · simpa [World.cell?, Addr.add, hi0, hb] using this
      have hsz : off + cap ≤ cs.size := by
        have := (Array.getElem?_eq_some_iff.1 (hcell (cap - 1) (by omega))).1
        omega
      have htake : (cs.toList.drop off).take len = (zs.take len).map fun z => Value.int .u8 z := by
        refine List.ext_getElem? fun i => ?_
        by_cases hi : i < len
        · rw [List.getElem?_take_of_lt hi, List.getElem?_drop, Array.getElem?_toList, hcell i (by omega), List.getElem?_map, List.getElem?_take_of_lt hi]
          rw [List.getD_eq_getElem?_getD, List.getElem?_eq_getElem (by omega)]
          rfl
        · rw [List.getElem?_eq_none (by simp; omega), List.getElem?_eq_none (by simp; omega)]
      have hlen : ((zs.take len).map fun z => [L.int IntKind.u8 z]).length = len := by simp; omega
      have hflat : ((zs.take len).map fun z => [L.int IntKind.u8 z]).flatten = (zs.take len).map fun z => L.int .u8 z := by
        generalize zs.take len = ys
        induction ys with
        | nil => rfl
        | cons y ys ih => simp only [List.map_cons, List.flatten_cons, ih]; rfl
      have := RepL.sl (w := w) false b off cap cs T fr ((zs.take len).map fun z => [L.int IntKind.u8 z]) 1 [] hb (by
        intro e
        rw [e] at hlen
        simp at hlen
        omega) (by decide) (fun x hx => by
        simp only [List.mem_map] at hx
        obtain ⟨z, _, rfl⟩ := hx
        rfl) (by omega) (by omega) (by
        rw [hlen, Nat.mul_one, htake, hflat]
        exact ints_rep false _)
      rw [hlen] at this
      exact ⟨_, .cons _ _ _ _ _ _ _ this (.nil _)⟩
/-- What a law's call does that only reads what came in. -/
theorem law_calls {E : Env} {f : FuncId} {args : List Arg} {m : M} {vs : List Value} {W : World} (hc : Con E f args { rs := [.v m false [.bool true]], outs := [] }) (hg : ∀ g, E.glob g = none)
    (hen : (callFunc f ⟨vs⟩).run E.P W = .ok (.enter f ⟨vs⟩) W) (ha : ArgsRep W (fun b => b < W.heap.size) (fun _ => False) args vs (vs.map fun _ => [])) :
    Calls E.P f ⟨vs⟩ W fun e w' => e = .returned (.bool true) ∧ RowKit.Below W.heap.size W w' := by
  have hfl : (vs.map fun _ => ([] : List Nat)).flatten = [] := by
    induction vs with
    | nil => rfl
    | cons v vs ih => simp
  have := hc W (fun b => b < W.heap.size) (fun _ => False) vs _ ha (fun g ls h => by rw [hg] at h; cases h) (fun b hb => hb.elim id False.elim) (by rw [hfl]; simp) (by rw [hfl]; simp)
  rcases this with ⟨_, h⟩ | ⟨v, w', h, _⟩
  · refine h.mono fun e w' q => ?_
    cases e with
    | returned v =>
      obtain ⟨A⟩ := q
      have hv := A.hv
      have hr := A.rs
      generalize hvs : A.vs = vs1 at hv hr
      generalize A.fps = fps1 at hr
      cases hr with
      | cons h1 h2 =>
        cases h2
        obtain ⟨hag, S, hrep, h5, h6⟩ := h1
        rename_i u fp
        have hrep := hrep.weak
        have hu : u = .bool true := by
          cases u with
          | agg fs => simp [isAgg] at hag
          | bool b =>
            simp only [Value.cells] at hrep
            cases hrep with
            | cons _ _ _ _ _ _ _ g1 g2 => cases g1; rfl
          | _ =>
            simp only [Value.cells] at hrep
            cases hrep with
            | cons _ _ _ _ _ _ _ g1 g2 => cases g1
        subst hu
        refine ⟨by rw [hv]; rfl, A.kp.os, A.kp.tape, A.kp.output, A.kp.size, fun k hk => A.kp.block k hk ?_⟩
        rw [hfl]
        simp
    | _ => exact q.elim
  · rw [hen] at h
    cases h
theorem enters {P : Program} {f : FuncId} {fn : Func} {vs : Array Value} {W : World} (hf : P.funcs[f]? = some fn) (hb : fn.body.isSome = true) (hn : (fn.name == "runtime.NumGoroutine") = false) : (callFunc f vs).run P W = .ok (.enter f vs) W := by
  obtain ⟨c, hc⟩ := Option.isSome_iff_exists.1 hb
  have hne : ¬ fn.name = "runtime.NumGoroutine" := by simpa using hn
  simp [callFunc, hf, hne, hc]
theorem arg_ro {w : World} {v : Value} {ls : List L} {S : List Nat} (hr : RepLs w false v.cells.toList ls S) (ha : isAgg v = false) : ArgRep w (fun b => b < w.heap.size) (fun _ => False) v [] (.v .ro false ls) :=
  ⟨rfl, S, hr, ha, fun b hb => RepLs.lt hr b hb, fun h => by cases h⟩
end Go.Ev

/- Library functions of plain values: a contract of the shelf is an answer. -/
set_option linter.unusedVariables false
set_option linter.unusedSimpArgs false
namespace Go.Ev
open Go.RowKit
def L.leaf : L → Bool
  | .int .. => true
  | .bool _ => true
  | .str _ => true
  | _ => false
def leafV : L → Value
  | .int k n => .int k n
  | .bool b => .bool b
  | .str s => .string ⟨s.toArray⟩
  | _ => undef
theorem leafV_of {w : World} {o : Bool} {v : Value} {l : L} {S : List Nat} (h : RepL w o v l S) (hl : l.leaf = true) : v = leafV l := by
  cases h <;> first | rfl | simp [L.leaf] at hl
theorem leafV_rep (w : World) (o : Bool) {l : L} (hl : l.leaf = true) : RepL w o (leafV l) l [] := by
  cases l with
  | int k n => exact .int o k n
  | bool b => exact .bool o b
  | str s => exact .str o ⟨s.toArray⟩
  | _ => simp [L.leaf] at hl
theorem leafV_cells {l : L} (hl : l.leaf = true) : (leafV l).cells.toList = [leafV l] ∧ isAgg (leafV l) = false := by
  cases l <;> first | exact ⟨rfl, rfl⟩ | simp [L.leaf] at hl
def argLeaf : Arg → Option L
  | .v _ false [l] => if l.leaf then some l else none
  | _ => none
theorem argsLeaf {w : World} {R B : Nat → Prop} : ∀ (xs : List Arg) (ls : List L) (vs : List Value) (fps : List (List Nat)), ArgsRep w R B xs vs fps → xs.map argLeaf = ls.map some → vs = ls.map leafV ∧ boxesOf xs vs = []
  | _, ls, _, _, .nil, h => by
    cases ls with
    | nil => exact ⟨rfl, rfl⟩
    | cons l ls => simp at h
  | _, ls, _, _, .cons (x := x) (v := v) h1 h2, h => by
    cases ls with
    | nil => simp at h
    | cons l ls =>
      simp only [List.map_cons, List.cons.injEq] at h
      obtain ⟨e, h⟩ := h
      obtain ⟨g1, g2⟩ := argsLeaf _ ls _ _ h2 h
      unfold argLeaf at e
      split at e <;> try (cases e; done)
      split at e <;> cases e
      rename_i hl
      obtain ⟨_, S, hr, ha, _⟩ := h1
      have hc : v.cells.toList = [v] := by cases v <;> first | rfl | simp [isAgg] at ha
      rw [hc] at hr
      cases hr with
      | cons _ _ _ _ _ _ _ r1 r2 =>
        refine ⟨by rw [List.map_cons, leafV_of r1 hl, g1], ?_⟩
        simp only [boxesOf]
        exact g2
def leafOut (rs : List L) : Out := { rs := rs.map fun l => .v .own false [l], outs := [] }
theorem leafOut_rep (w : World) (R B : Nat → Prop) : ∀ (rs : List L), rs.all L.leaf = true → RVsRep w R B (leafOut rs).rs (rs.map leafV) (rs.map fun _ => [])
  | [], _ => .nil
  | l :: rs, h => by
    simp only [List.all_cons, Bool.and_eq_true] at h
    refine .cons ⟨(leafV_cells h.1).2, [], ?_, .inl rfl, rfl⟩ (leafOut_rep w R B rs h.2)
    rw [(leafV_cells h.1).1]
    exact RepLs.single (leafV_rep w _ h.1)
/-- A contract that speaks of plain values, as an answer of the evaluator's. -/
theorem pure_con {E : Env} {f : FuncId} {fn : Func} (hf : E.P.funcs[f]? = some fn) (hb : fn.body.isSome = true) (hn : (fn.name == "runtime.NumGoroutine") = false) (args : List Arg) (ls rs : List L) (ha : args.map argLeaf = ls.map some) (hr : rs.all L.leaf = true)
    (hc : ∀ w, (∃ R, GlobAt E w R) → Calls E.P f ⟨ls.map leafV⟩ w fun e w' => e = .returned (retVal (rs.map leafV)) ∧ Below w.heap.size w w') : Con E f args (leafOut rs) := by
  intro w R B vs fps hargs hgl hlt _ _
  obtain ⟨rfl, hbx⟩ := argsLeaf _ _ _ _ hargs ha
  refine .inl ⟨enters hf hb hn, (hc w ⟨R, hgl⟩).mono fun e w' ⟨he, bel⟩ => ?_⟩
  subst he
  have hfl : ((rs.map fun _ => []) : List (List Nat)).flatten = [] := by
    induction rs with
    | nil => rfl
    | cons l rs ih => simp
  rw [hbx]
  exact ⟨{ R' := R, vs := rs.map leafV, fps := rs.map fun _ => [], ofps := [], hv := rfl, kp := ⟨bel.os, bel.tape, bel.output, bel.size, fun k hk _ => bel.block k hk⟩, mono := fun _ h => h, new := fun _ h => .inl h, lt := fun b h => Nat.lt_of_lt_of_le (hlt b (.inl h)) bel.size, rs := leafOut_rep w' R B rs hr, outs := .nil, held := by rw [hfl]; simp, nd := by rw [hfl]; simp }⟩
def repK : List Arg → Option Out
  | [.v _ false [.str s], .v _ false [.int .i64 c]] => if 0 ≤ c ∧ c ≤ 9223372036854775807 ∧ s.length * c.toNat ≤ 140737488355328 then some (leafOut [.str (Lib.repeatL s c.toNat)]) else none
  | _ => none
theorem rep_con {E : Env} {f : FuncId} {fn : Func} (hf : E.P.funcs[f]? = some fn) (hb : fn.body.isSome = true) (hn : (fn.name == "runtime.NumGoroutine") = false)
    (hc : ∀ (s : ByteArray) (c : Nat) (w : World), c ≤ 9223372036854775807 → s.size * c ≤ 140737488355328 → Calls E.P f #[.string s, .int .i64 c] w fun e w' => e = .returned (.string ⟨(Lib.repeatL s.data.toList c).toArray⟩) ∧ Below w.heap.size w w')
    (args : List Arg) (out : Out) (h : repK args = some out) : Con E f args out := by
  unfold repK at h
  split at h <;> try (cases h; done)
  rename_i m s m' c
  split at h <;> cases h
  rename_i hq
  obtain ⟨n, rfl⟩ : ∃ n : Nat, c = n := ⟨c.toNat, by omega⟩
  simp only [Int.toNat_natCast] at hq ⊢
  exact pure_con hf hb hn _ [.str s, .int .i64 n] _ rfl rfl fun w _ => hc ⟨s.toArray⟩ n w (by omega) (by simpa [ByteArray.size] using hq.2.2)
end Go.Ev

/- Library functions by the shelf's contracts: numbers as text, texts joined. -/
set_option linter.unusedVariables false
set_option linter.unusedSimpArgs false
namespace Go.Ev
open Go.RowKit Go.Sort
def pow10L : List L := Lib.pow10Tab.map fun z => L.int .u64 z
theorem ints_of {w : World} {o : Bool} {k : IntKind} : ∀ {zs : List Int} {vs : List Value} {S : List Nat}, RepLs w o vs (zs.map fun z => L.int k z) S → vs = zs.map fun z => Value.int k z
  | [], vs, S, h => by cases h; rfl
  | z :: zs, vs, S, h => by
    cases h with
    | cons _ v _ vs' _ S1 S2 h1 h2 =>
      cases h1
      rw [ints_of h2]; rfl
/-- A table of numbers that stands in memory, as the shelf wants it. -/
theorem tab_of {E : Env} {w : World} {R : Nat → Prop} {g : Nat} {name : String} {k : IntKind} {zs : List Int} (hg : GlobAt E w R) (he : E.glob g = some (zs.map fun z => L.int k z)) (hn : E.P.globalNamed name = some g) : Lib.TabIs E.P w name k zs := by
  obtain ⟨cs, T, fr, S, h1, h2, h3, _⟩ := hg g _ he
  rw [List.length_map] at h2
  rw [List.length_map, h2, List.take_of_length_le (by simp)] at h3
  have := ints_of h3
  unfold Lib.TabIs World.var?
  rw [hn]
  simp only [Option.bind_some, h1]
  congr 1
  apply Array.ext'
  simpa using this
def itoaK : List Arg → Option Out
  | [.v _ false [.int .i64 n]] => if -9223372036854775808 ≤ n ∧ n ≤ 9223372036854775807 then some (leafOut [.str (Lib.itoa n)]) else none
  | _ => none
theorem itoa_con {E : Env} {f : FuncId} {fn : Func} {g : Nat} (hf : E.P.funcs[f]? = some fn) (hb : fn.body.isSome = true) (hn : (fn.name == "runtime.NumGoroutine") = false) (hg : E.glob g = some pow10L) (hgn : E.P.globalNamed "internal/strconv.uint64pow10" = some g)
    (hc : ∀ (n : Int) (w : World), -9223372036854775808 ≤ n → n ≤ 9223372036854775807 → Lib.TabIs E.P w "internal/strconv.uint64pow10" .u64 Lib.pow10Tab → Calls E.P f #[.int .i64 n] w fun e w' => e = .returned (.string ⟨(Lib.itoa n).toArray⟩) ∧ ∃ k os, w' = grow (w.drewN k) os)
    (args : List Arg) (out : Out) (h : itoaK args = some out) : Con E f args out := by
  unfold itoaK at h
  split at h <;> try (cases h; done)
  rename_i m n
  split at h <;> cases h
  rename_i hq
  refine pure_con hf hb hn _ [.int .i64 n] _ rfl rfl fun w ⟨R, hgl⟩ => ?_
  refine (hc n w hq.1 hq.2 (tab_of hgl hg hgn)).mono fun e w' ⟨he, k, os, hw⟩ => ⟨he, ?_⟩
  subst hw
  exact Lib.below_grow _ w (Nat.le_refl _) k os
/-- A slice of texts. -/
def strRows : List (List L) → Option (List (List UInt8))
  | [] => some []
  | [.str s] :: r => (strRows r).map (s :: ·)
  | _ => none
theorem strRows_spec : ∀ {rows : List (List L)} {xs : List (List UInt8)}, strRows rows = some xs → rows = xs.map fun s => [L.str s]
  | [], xs, h => by simp only [strRows, Option.some.injEq] at h; subst h; rfl
  | row :: r, xs, h => by
    unfold strRows at h
    split at h <;> try (cases h; done)
    · rename_i e; cases e
    · rename_i s r' e
      cases e
      simp only [Option.map_eq_some_iff] at h
      obtain ⟨ys, hy, rfl⟩ := h
      rw [strRows_spec hy]; rfl
theorem strs_of {w : World} {o : Bool} : ∀ {xs : List (List UInt8)} {vs : List Value} {S : List Nat}, RepLs w o vs (xs.map fun s => L.str s) S → vs = xs.map fun s => Value.string ⟨s.toArray⟩
  | [], vs, S, h => by cases h; rfl
  | x :: xs, vs, S, h => by
    cases h with
    | cons _ v _ vs' _ S1 S2 h1 h2 =>
      generalize hx : L.str x = l at h1
      cases h1 <;> cases hx
      rw [strs_of h2]; rfl
theorem flat1 (xs : List (List UInt8)) : (xs.map fun s => [L.str s]).flatten = xs.map fun s => L.str s := by
  induction xs with
  | nil => rfl
  | cons x xs ih => simp [ih]
/-- What a slice of texts looks like in memory. -/
theorem strSlice {w : World} {v : Value} {xs : List (List UInt8)} {S : List Nat} (h : RepL w false v (.sl (xs.map fun s => [L.str s])) S) :
    (∃ a c, v = .slice a 0 c ∧ xs = []) ∨ ∃ b off cap, v = .slice (some ⟨b, off, none⟩) xs.length cap ∧ xs.length ≤ cap ∧ b < w.heap.size ∧ ∀ (j : Nat) (x : ByteArray), (xs.map fun s => (⟨s.toArray⟩ : ByteArray))[j]? = some x → w.cell? ⟨b, off + j, none⟩ = some (.string x) := by
  by_cases hne : xs = []
  · subst hne
    obtain ⟨p, cap, hv, _, _⟩ := h.slE
    exact .inl ⟨p, cap, hv, rfl⟩
  · obtain ⟨b, off, cap, cs, T, fr, sz, S0, hv, hS, hb, hsz, hxl, hcap, hsize, hrr⟩ := h.slCases (by simpa using hne)
    have hsz1 : sz = 1 := by
      cases xs with
      | nil => exact absurd rfl hne
      | cons x xs => exact (hxl [.str x] (by simp)).symm
    subst hsz1
    simp only [List.length_map, Nat.mul_one] at hv hcap hsize hrr
    rw [flat1] at hrr
    have hvs := strs_of hrr
    refine .inr ⟨b, off, cap, hv, hcap, (Array.getElem?_eq_some_iff.1 hb).1, fun j x hx => ?_⟩
    rw [cell_at hb]
    rw [List.getElem?_map, Option.map_eq_some_iff] at hx
    obtain ⟨s, hs, rfl⟩ := hx
    obtain ⟨hj, _⟩ := List.getElem?_eq_some_iff.1 hs
    have : ((cs.toList.drop off).take xs.length)[j]? = some (.string ⟨s.toArray⟩) := by rw [hvs, List.getElem?_map, hs]; rfl
    rw [List.getElem?_take_of_lt hj, List.getElem?_drop, Array.getElem?_toList] at this
    exact this
def joinK : List Arg → Option Out
  | [.v _ false [.sl rows], .v _ false [.str sep]] =>
    match strRows rows with
    | some xs => if xs.length ≤ 140737488355328 ∧ (Lib.join xs sep).length ≤ 140737488355328 then some (leafOut [.str (Lib.join xs sep)]) else none
    | none => none
  | _ => none
/-- A function of texts that reads memory and gives a plain value. -/
theorem read_con {E : Env} {f : FuncId} {fn : Func} (hf : E.P.funcs[f]? = some fn) (hb : fn.body.isSome = true) (hn : (fn.name == "runtime.NumGoroutine") = false) (args : List Arg) (rs : List L) (hr : rs.all L.leaf = true) (hno : ∀ vs, boxesOf args vs = [])
    (hc : ∀ w R B vs fps, ArgsRep w R B args vs fps → GlobAt E w R → (∀ b, R b ∨ B b → b < w.heap.size) → Calls E.P f ⟨vs⟩ w fun e w' => e = .returned (retVal (rs.map leafV)) ∧ Below w.heap.size w w') : Con E f args (leafOut rs) := by
  intro w R B vs fps hargs hgl hlt _ _
  refine .inl ⟨enters hf hb hn, (hc w R B vs fps hargs hgl hlt).mono fun e w' ⟨he, bel⟩ => ?_⟩
  subst he
  have hfl : ((rs.map fun _ => []) : List (List Nat)).flatten = [] := by
    induction rs with
    | nil => rfl
    | cons l rs ih => simp
  rw [hno]
  exact ⟨{ R' := R, vs := rs.map leafV, fps := rs.map fun _ => [], ofps := [], hv := rfl, kp := ⟨bel.os, bel.tape, bel.output, bel.size, fun k hk _ => bel.block k hk⟩, mono := fun _ h => h, new := fun _ h => .inl h, lt := fun b h => Nat.lt_of_lt_of_le (hlt b (.inl h)) bel.size, rs := leafOut_rep w' R B rs hr, outs := .nil, held := by rw [hfl]; simp, nd := by rw [hfl]; simp }⟩
theorem join_con {E : Env} {f : FuncId} {fn : Func} (hf : E.P.funcs[f]? = some fn) (hb : fn.body.isSome = true) (hn : (fn.name == "runtime.NumGoroutine") = false)
    (hc0 : ∀ (a : Option Addr) (c : Nat) (sep : ByteArray) (w : World), Calls E.P f #[.slice a 0 c, .string sep] w fun e w' => e = .returned (.string ⟨#[]⟩) ∧ w' = w)
    (hc : ∀ (bk o c : Nat) (xs : List ByteArray) (sep : ByteArray) (w : World), (∀ (j : Nat) x, xs[j]? = some x → w.cell? ⟨bk, o + j, none⟩ = some (.string x)) → bk < w.heap.size → xs.length ≤ 140737488355328 → xs.length ≤ c → (Lib.join (xs.map (·.data.toList)) sep.data.toList).length ≤ 140737488355328 →
      Calls E.P f #[.slice (some ⟨bk, o, none⟩) xs.length c, .string sep] w fun e w' => e = .returned (.string ⟨(Lib.join (xs.map (·.data.toList)) sep.data.toList).toArray⟩) ∧ Below w.heap.size w w')
    (args : List Arg) (out : Out) (h : joinK args = some out) : Con E f args out := by
  unfold joinK at h
  split at h <;> try (cases h; done)
  rename_i m rows m' sep
  split at h <;> try (cases h; done)
  rename_i xs hx
  split at h <;> cases h
  rename_i hq
  have hrows := strRows_spec hx
  subst hrows
  refine read_con hf hb hn _ _ rfl (fun vs => by match vs with | [] => rfl | [_] => rfl | _ :: _ :: _ => rfl) fun w R B vs fps hargs _ _ => ?_
  cases hargs with
  | cons h1 h2 =>
    cases h2 with
    | cons h3 h4 =>
      cases h4
      obtain ⟨_, S1, r1, a1, _⟩ := h1
      obtain ⟨_, S2, r2, a2, _⟩ := h3
      obtain ⟨B2, hv2, hd2, hs2⟩ := repStr (oneRep r2 a2)
      rename_i v1 _ _ v2 _
      subst hv2
      rcases strSlice (oneRep r1 a1) with ⟨a, c, hv, hxs⟩ | ⟨b, off, cap, hv, hcap, hlt, hcell⟩
      · subst hv; subst hxs
        refine (hc0 a c B2 w).mono fun e w' ⟨he, hw⟩ => ⟨he, hw ▸ Below.refl _ _⟩
      · subst hv
        have := hc b off cap (xs.map fun s => (⟨s.toArray⟩ : ByteArray)) B2 w hcell hlt (by simpa using hq.1) (by simpa using hcap)
        have e1 : (xs.map fun s => (⟨s.toArray⟩ : ByteArray)).map (·.data.toList) = xs := by simp [Function.comp_def]
        rw [e1, hd2, List.length_map] at this
        exact this hq.2
end Go.Ev
