/- The law FnExactWorldFile: its call, of whatever input, returns true and leaves what came in as it was. Lifted from the evaluator's answer; no condition. -/
import Derived.Test.YtcoodhphhhiepaaGreatRows
import Derived.Test.YtcoodhphhhiepaaGreatEn15
import Derived.Test.YtcoodhphhhiepaaGreatEn17
import Derived.WalkKit
import Derived.ProofKit
import Derived.OpenShut
import Derived.ChangeOld
import Derived.Below
import Derived.SizedLaws
namespace Go.Proofs.YtcoodhphhhiepaaGreat.fnExactWorldFile
open Go.ChangeShapes Go.WideShapes Go.ChangeAt Go.RowKit
set_option linter.unusedVariables false
set_option maxRecDepth 100000
theorem own : ownKnob Tryz.prog.godebug = none := by kernel_rfl
theorem laidOut : laidOutB Tryz.prog = true := by kernel_rfl
theorem globs {W : World} : Go.Ev.GlobAt Go.Ev.E W fun b => b < W.heap.size := by
  intro g ls hl
  have hl : Go.Ev.globT g = some ls := hl
  unfold Go.Ev.globT at hl
  cases hl
theorem lifted (os : Os) (started : os.Started) (H : Type) (enc : TypeId × Value → H) :
    ReturnsInHanded {} Tryz.checked os 4 .any (Rows.fnExactWorldFileSpec.pre6 enc Tryz.prog Tryz.f4 Rows.fnExactWorldFileRow.domain false) (Rows.fnExactWorldFileSpec.post enc Tryz.prog Tryz.f4 false true false false) := by
  refine returnsInHanded_of_change_sized (C := Tryz.checked) own started (by kernel_rfl) Tryz.func4
    (ChangeSpec.witness6 (enc := enc) (C := Tryz.checked) false ⟨#[], #[.agg #[.int .i64 0, .int .i64 0, .slice none 0 0, .slice none 0 0, .slice none 0 0, .slice none 0 0, .slice none 0 0, .slice none 0 0, .slice none 0 0, .slice none 0 0, .slice none 0 0, .slice none 0 0, .slice none 0 0]], []⟩ 8 (by kernel_rfl) (by kernel_rfl) (by kernel_rfl) (by kernel_rfl)) ?_
  intro W base args ds gs before hval0 hW hcnd hsz0 _
  have hval : ∀ (j : Nat) t v, Tryz.f4.params[j]? = some t → args[j]? = some v → Value.okWide Tryz.prog W .any base t v := hval0
  have hW' := hW
  obtain ⟨p, q, hA0, hV, rfl, hfz, hnd⟩ := hW
  have hA : DataW.TrodAll enc Tryz.prog W 0 (fun _ => true) true Tryz.f4.params.toList args.toList ds p := hA0
  rw [Tryz.params4] at hA hval
  obtain ⟨v0, vs0, d0, ds0, p0, q0, hargs, rfl, rfl, h0, r0⟩ := trodAll_cons hA
  obtain ⟨rfl, rfl, rfl⟩ := trodAll_nil r0
  obtain rfl : args = #[v0] := by cases args; simp_all
  obtain ⟨rfl, rfl⟩ := trodVars_none hV
  obtain ⟨c0, rfl, _⟩ := okWide_struct Tryz.underlying33 (hval 0 33 v0 rfl rfl)
  have k0 := h0
  have lt0 : ∀ x ∈ p0, x.block < W.heap.size := by obtain ⟨m, hm⟩ := k0; exact DataW.trod_lt m _ _ _ hm
  obtain ⟨fuel0, hf0⟩ := h0
  obtain ⟨x0, o0, y0⟩ := Go.Ev.arg_rds Go.Ev.rds_laws_World (agg := true) hf0 rfl
  have call := Go.Ev.law_callsG (E := Go.Ev.E) (Go.Ev.ev_sound Go.Ev.envOk _ _ _ (Go.Ev.law_FnExactWorldFile x0 o0)) globs (Go.Ev.enters (fn := Tryz.f4) Tryz.func4 (by kernel_rfl) (by kernel_rfl)) (.cons y0 (.nil))
  clear hA0 hval0 hsz0
  refine call.mono fun e W' ⟨he, bel⟩ => ?_
  subst he
  exact ⟨_, rfl, _, _, _, [], _, [], hW', trodAll_mk1 (shut_bool Tryz.underlying4 _), (trodAll_cons_mk (Below.trod laidOut (by kernel_rfl) (of_decide_eq_true (by kernel_rfl)) k0 bel lt0) trodAll_mk0), rfl, bel.frame _, fun h => by cases h⟩
theorem proved : Rows.FnExactWorldFileSaid :=
  OpenClaim.holds_of_wide 4 Tryz.f4 rfl rfl rfl rfl rfl rfl rfl ⟨rfl, rfl, rfl, rfl, rfl⟩ rfl rfl rfl rfl rfl (by kernel_rfl) Tryz.func4 (by kernel_rfl)
    (of_decide_eq_true (by kernel_rfl)) (by unfold Func.isWrapper; first | (rw [if_pos (by decide +kernel)]; kernel_rfl) | (rw [if_neg (by decide +kernel)]; exact ⟨rfl, rfl⟩))
    (fun os started H enc _ => lifted os started H enc)
end Go.Proofs.YtcoodhphhhiepaaGreat.fnExactWorldFile
namespace Go.Proofs.YtcoodhphhhiepaaGreat
/-- The row, under a short name, for the claim. -/
theorem fnExactWorldFile_holds : Rows.FnExactWorldFileSaid := fnExactWorldFile.proved
#print axioms fnExactWorldFile_holds
end Go.Proofs.YtcoodhphhhiepaaGreat
