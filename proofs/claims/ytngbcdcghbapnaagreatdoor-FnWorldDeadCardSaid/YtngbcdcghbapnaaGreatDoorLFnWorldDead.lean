/- The law FnWorldDead: its call, of whatever input, returns true and leaves what came in as it was; the package-level variables that the row lists hold what the program's text lays (the card ties them). Lifted from the evaluator's answer. -/
import Derived.Test.YtngbcdcghbapnaaGreatDoorCards
import Derived.Test.YtngbcdcghbapnaaGreatDoorTie
import Derived.Test.YtngbcdcghbapnaaGreatDoorEt1
import Derived.Test.YtngbcdcghbapnaaGreatDoorEn1
import Derived.Test.YtngbcdcghbapnaaGreatDoorEn13
import Derived.Test.YtngbcdcghbapnaaGreatDoorEn16
import Derived.Test.YtngbcdcghbapnaaGreatDoorEn18
import Derived.Test.YtngbcdcghbapnaaGreatDoorEn2
import Derived.Test.YtngbcdcghbapnaaGreatDoorEn6
import Derived.Test.YtngbcdcghbapnaaGreatDoorEn7
import Derived.Test.YtngbcdcghbapnaaGreatDoorEs2
import Derived.Test.YtngbcdcghbapnaaGreatDoorEs3
import Derived.Test.YtngbcdcghbapnaaGreatDoorEs33
import Derived.Test.YtngbcdcghbapnaaGreatDoorEs4
import Derived.Test.YtngbcdcghbapnaaGreatDoorEs6
import Derived.WalkKit
import Derived.ProofKit
import Derived.OpenShut
import Derived.ChangeOld
import Derived.Below
import Derived.SizedLaws
import Derived.Carry
import Derived.LaidMore
import Derived.Stop.Joined
import Derived.SevenTiedAt
import Derived.ChangeVars
import Derived.OpenVars
namespace Go.Proofs.YtngbcdcghbapnaaGreatDoor.fnWorldDead
open Go.ChangeShapes Go.WideShapes Go.ChangeAt Go.RowKit
set_option linter.unusedVariables false
set_option maxRecDepth 100000
theorem own : ownKnob Tryz.prog.godebug = none := by kernel_rfl
theorem laidOut : laidOutB Tryz.prog = true := PF.pf1
theorem doorMet (os : Os) (args : Array Value) : laidMetH Tryz.prog Rows.fnWorldDeadRow.laid ((World.doorLaid Tryz.prog 400 os).forCall (fun _ _ => 0) ⟨#[], args, []⟩).memory :=
  laidMetH_of_parts3 (fuel := 8) (laidMet_of_run' 8 (by kernel_rfl) (by kernel_rfl)) (by kernel_rfl) (by kernel_rfl)
theorem globs {W : World} (h : laidMetH Tryz.prog Rows.fnWorldDeadRow.laid W) : Go.Ev.GlobAt Go.Ev.E W fun b => b < W.heap.size := by
  rw [MakeChecks.laidMetH_plain _ _ _ (by kernel_rfl)] at h
  have hL := h
  obtain ⟨ps, ⟨g0, t0, cs0, f0, p0, q0, hg0, ht0, hv0, hd0, _, _⟩, _, _⟩ := h
  intro g ls hl
  have hl : Go.Ev.globT g = some ls := hl
  unfold Go.Ev.globT at hl
  split at hl
  · cases hl
    have eg : Tryz.prog.globalNamed "loop.example/pannage/impl.whole" = some 0 := by kernel_rfl
    have et : (Tryz.prog.globals[0]?).map (·.type) = some 36 := by kernel_rfl
    obtain rfl := Option.some.inj (eg.symm.trans hg0)
    obtain rfl := Option.some.inj (et.symm.trans ht0)
    have ed : Rows.laid_loop_example_pannage_impl_whole (H := Unit) = .agg [.lit (.int .i64 0), .lit (.int .i64 48)] := by kernel_rfl
    rw [ed] at hd0
    exact Go.Ev.glob_ints (k := .i64) (zs := [0, 48]) eg hv0 (Go.Ev.struct2_ints Tryz.underlying36 rfl rfl rfl (by kernel_rfl) (by kernel_rfl) (by kernel_rfl) (by kernel_rfl) (by kernel_rfl) hd0)
  · cases hl
theorem lifted (os : Os) (started : os.Started) (H : Type) (enc : TypeId × Value → H) :
    ReturnsInHanded {} Tryz.checked os 11 .any (fun w args => (Rows.fnWorldDeadSpec.pre enc Tryz.prog Tryz.f11 [] false w args ∧ laidMetH Tryz.prog Rows.fnWorldDeadRow.laid w) ∧ sizedMet enc Tryz.prog Tryz.f11 (OpenSpec.ofChange Rows.fnWorldDeadSpec) false w args) (Rows.fnWorldDeadSpec.post enc Tryz.prog Tryz.f11 false true false false) := by
  refine returnsInHanded_of_change_and (C := Tryz.checked) (X := fun w _ => laidMetH Tryz.prog Rows.fnWorldDeadRow.laid w) (fun _ _ _ hh h => h.of_heap hh) own started (by kernel_rfl) Tryz.func11
    (ChangeSpec.witness_shaped (enc := enc) (C := Tryz.checked) (os := os) (X := fun w _ => laidMetH Tryz.prog Rows.fnWorldDeadRow.laid w) false (World.doorLaid Tryz.prog 400 os) #[.slice none 0 0] 8 rfl (World.shaped_of_RefB (by kernel_rfl) (by kernel_rfl)) (by kernel_rfl) (by kernel_rfl) (by kernel_rfl) (doorMet os _)) ?_
  intro W base args ds gs before hval0 hW _ _ hL _
  have hval : ∀ (j : Nat) t v, Tryz.f11.params[j]? = some t → args[j]? = some v → Value.okWide Tryz.prog W .any base t v := hval0
  have hW' := hW
  obtain ⟨p, q, hA0, hV, rfl, hfz, hnd⟩ := hW
  have hA : DataW.TrodAll enc Tryz.prog W 0 (fun _ => true) true Tryz.f11.params.toList args.toList ds p := hA0
  rw [Tryz.params11] at hA hval
  obtain ⟨v0, vs0, d0, ds0, p0, q0, hargs, rfl, rfl, h0, r0⟩ := trodAll_cons hA
  obtain ⟨rfl, rfl, rfl⟩ := trodAll_nil r0
  obtain rfl : args = #[v0] := by cases args; simp_all
  have hVk := hV
  obtain ⟨vg, vt, vcs, vf, vd, vp, rfl, hv1, hv2, hv3, hv4, vq⟩ := trodVars_one hV
  obtain ⟨a0, len0, cap0, rfl⟩ := okWide_slice Tryz.underlying22 (hval 0 22 v0 rfl rfl)
  have k0 := h0
  have lt0 : ∀ x ∈ p0, x.block < W.heap.size := by obtain ⟨m, hm⟩ := k0; exact DataW.trod_lt m _ _ _ hm
  obtain ⟨fuel0, hf0⟩ := h0
  obtain ⟨x0, o0, y0⟩ := Go.Ev.arg_rds Go.Ev.rds_bytes (agg := false) hf0 rfl
  have call := Go.Ev.law_callsG (E := Go.Ev.E) (Go.Ev.ev_sound Go.Ev.envOk _ _ _ (Go.Ev.law_FnWorldDead x0 )) (globs hL) (Go.Ev.enters (fn := Tryz.f11) Tryz.func11 (by kernel_rfl) (by kernel_rfl)) (.cons y0 (.nil))
  clear hA0 hval0
  refine call.mono fun e W' ⟨he, bel⟩ => ?_
  subst he
  exact ⟨_, rfl, _, _, _, [], _, _, hW', trodAll_mk1 (shut_bool Tryz.underlying4 _), (trodAll_cons_mk (Below.trod laidOut (by kernel_rfl) (of_decide_eq_true (by kernel_rfl)) k0 bel lt0) trodAll_mk0), Below.trodVars laidOut bel (by kernel_rfl) hVk, bel.frame _, fun h => by cases h⟩
theorem named : Tryz.prog.funcNamed Rows.fnWorldDeadRow.func = some 11 := by kernel_rfl
set_option maxHeartbeats 4000000 in
theorem closed : joinedFacts Tryz.checked.prog 11 Tryz.f11 Rows.fnWorldDeadSpec Rows.fnWorldDeadRow = true := by
  unfold joinedFacts
  repeat' (with_reducible refine PF.and_mk ?_ ?_)
  all_goals first | (with_reducible first | exact PF.pf1 | exact PF.pf2 | exact PF.pf6 | exact PF.pf8 | exact PF.pf24 | exact PF.pf25) | (rw [PF.pf22]; as_aux_lemma => kernel_rfl) | (rw [PF.pf26]; as_aux_lemma => kernel_rfl) | (rw [PF.pf27]; as_aux_lemma => kernel_rfl) | (as_aux_lemma => kernel_rfl)
theorem proved : Rows.FnWorldDeadSaid :=
  OpenClaim.holds_of_wide 11 Tryz.f11 rfl rfl rfl rfl rfl rfl rfl ⟨rfl, rfl, rfl, rfl, rfl⟩ rfl rfl rfl rfl rfl named Tryz.func11 closed
    (of_decide_eq_true (by kernel_rfl)) (by unfold Func.isWrapper; first | (rw [if_pos (by decide +kernel)]; kernel_rfl) | (rw [if_neg (by decide +kernel)]; exact ⟨rfl, rfl⟩))
    (fun os started H enc _ => lifted os started H enc)
theorem card : Rows.FnWorldDeadCardSaid :=
  Claim7.holds_tied_plain_at .later [] [.data] true (true, "d094d4dd20c49a1b65c362dfa0ac1ab0eea206e3ccc3a5c6722c0ffef983a820") false
    proved (fun _ h => by cases h) (by as_aux_lemma => kernel_rfl) (fun _ h => by cases h) Go.Proofs.YtngbcdcghbapnaaGreatDoor.fnWorldDead_row_tie rfl ⟨rfl, rfl⟩ (by as_aux_lemma => kernel_rfl) rfl
    (fun f fn hf hfn => by
      obtain rfl : f = 11 := Option.some.inj ((named).symm.trans hf) |>.symm
      obtain rfl : fn = Tryz.f11 := (Option.some.inj (Tryz.func11.symm.trans hfn)).symm
      exact ⟨by as_aux_lemma => kernel_rfl, fun j t ht => by
        rw [Tryz.params11] at ht
        have hm : t ∈ [22] := by simpa using Array.mem_of_getElem? ht
        have hall : ([22].all fun u => !Tryz.prog.wantsStandIn u) = true := by as_aux_lemma => kernel_rfl
        exact (show Tryz.prog.wantsStandIn t = false by simpa using List.all_eq_true.1 hall t hm)⟩)
    (by as_aux_lemma => kernel_rfl)
end Go.Proofs.YtngbcdcghbapnaaGreatDoor.fnWorldDead
namespace Go.Proofs.YtngbcdcghbapnaaGreatDoor
/-- The card, under a short name, for the claim. -/
theorem fnWorldDead_holds : Rows.FnWorldDeadCardSaid := fnWorldDead.card
#print axioms fnWorldDead_holds
end Go.Proofs.YtngbcdcghbapnaaGreatDoor
