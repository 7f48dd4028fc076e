/- My texts joined: EvR1, EvR2. No condition. -/
import Derived.Test.YthdaconelhffcaaEn7
import Derived.Test.YthdaconelhffcaaEn14
import Derived.Test.YthdaconelhffcaaEn15
import Derived.Test.YthdaconelhffcaaEn16
/- What a law's arguments read as. -/
set_option linter.unusedVariables false
set_option maxRecDepth 100000
namespace Go.Ev
open Go.Proofs
theorem rds_laws_Req : RdsAs Try.prog 162 reqL (fun q => q.data.length ≤ maxLen) :=
  rds_map (rds_struct Try.underlying162 (rdF_cons (by kernel_rfl) (rds_int Try.underlying3) (rdF_cons (by kernel_rfl) (rds_int Try.underlying3) (rdF_cons (by kernel_rfl) (rds_int Try.underlying3) (rdF_cons (by kernel_rfl) (rds_int Try.underlying3) (rdF_cons (by kernel_rfl) (rds_int Try.underlying3) (rdF_cons (by kernel_rfl) (rds_str Try.underlying9) (rdF_nil (by kernel_rfl)))))))))
    (fun p => ⟨p.1, p.2.1, p.2.2.1, p.2.2.2.1, p.2.2.2.2.1, p.2.2.2.2.2.1⟩) (fun _ _ => rfl) (fun _ h => h.2.2.2.2.2.1)
theorem cells_u8 : Try.prog.cellsOf 5 = 1 := by kernel_rfl
theorem rds_bytes : RdsAs Try.prog 22 (fun bs : List UInt8 => [.sl (rowsOfBytes bs)]) (fun bs => bs.length ≤ maxLen) :=
  rds_map (rds_slice Try.underlying22 (by rw [cells_u8]; decide) (rds_int Try.underlying5) (fun _ => cells_u8.symm)) (fun zs => zs.map fun z => UInt8.ofNat z.toNat)
    (fun zs h => by
      simp only [rowsOfBytes, List.map_map]
      congr 2
      refine List.map_congr_left fun z hz => ?_
      have := wf_u8 (h.2 z hz)
      simp only [Function.comp]
      congr 2
      rw [UInt8.toNat_ofNat']
      omega) (fun zs h => by simpa using h.1)
end Go.Ev

/- What worlds that come in read as. -/
set_option linter.unusedVariables false
set_option maxRecDepth 100000
namespace Go.Ev
open Go.Proofs
theorem cl_int : Try.prog.cellsOf 3 = 1 := by kernel_rfl
theorem cl_str : Try.prog.cellsOf 9 = 1 := by kernel_rfl
theorem cl_bool : Try.prog.cellsOf 4 = 1 := by kernel_rfl
theorem cl_span : Try.prog.cellsOf 195 = 2 := by kernel_rfl
theorem cl_hold : Try.prog.cellsOf 157 = 2 := by kernel_rfl
theorem cl_own : Try.prog.cellsOf 160 = 3 := by kernel_rfl
theorem cl_req : Try.prog.cellsOf 162 = 6 := by kernel_rfl
theorem rds_laws_Span : RdsAs Try.prog 195 spL (fun _ => True) := rds_map (rds_struct Try.underlying195 (rdF_cons (by kernel_rfl) (rds_int Try.underlying3) (rdF_cons (by kernel_rfl) (rds_int Try.underlying3) (rdF_nil (by kernel_rfl))))) (fun p => (p.1, p.2.1)) (fun _ _ => rfl) (fun _ _ => trivial)
theorem rds_spans : RdsAs Try.prog 155 (fun xs : List Sp => [.sl (xs.map spL)]) (fun xs => xs.length ≤ maxLen ∧ ∀ x ∈ xs, True) := (rds_slice Try.underlying155 (by rw [cl_span]; decide) rds_laws_Span (fun _ => cl_span.symm))
theorem rds_laws_Hold : RdsAs Try.prog 157 holdL holdM := rds_map (rds_struct Try.underlying157 (rdF_cons (by kernel_rfl) rds_spans (rdF_cons (by kernel_rfl) rds_spans (rdF_nil (by kernel_rfl))))) (fun p => ⟨p.1, p.2.1⟩) (fun _ _ => rfl) (fun _ h => ⟨h.1.1, h.2.1.1⟩)
theorem rds_laws_Own : RdsAs Try.prog 160 ownL ownM := rds_map (rds_struct Try.underlying160 (rdF_cons (by kernel_rfl) (rds_str Try.underlying9) (rdF_cons (by kernel_rfl) rds_spans (rdF_cons (by kernel_rfl) rds_spans (rdF_nil (by kernel_rfl)))))) (fun p => ⟨p.1, p.2.1, p.2.2.1⟩) (fun _ _ => rfl) (fun _ h => ⟨h.1, h.2.1.1, h.2.2.1.1⟩)
theorem rds_holds : RdsAs Try.prog 66 (fun xs : List HoldT => [.sl (xs.map holdL)]) (fun xs => xs.length ≤ maxLen ∧ ∀ x ∈ xs, holdM x) := (rds_slice Try.underlying66 (by rw [cl_hold]; decide) rds_laws_Hold (fun _ => cl_hold.symm))
theorem rds_owns : RdsAs Try.prog 67 (fun xs : List OwnT => [.sl (xs.map ownL)]) (fun xs => xs.length ≤ maxLen ∧ ∀ x ∈ xs, ownM x) := (rds_slice Try.underlying67 (by rw [cl_own]; decide) rds_laws_Own (fun _ => cl_own.symm))
theorem rds_reqs : RdsAs Try.prog 68 (fun xs : List ReqT => [.sl (xs.map reqL)]) (fun xs => xs.length ≤ maxLen ∧ ∀ x ∈ xs, x.data.length ≤ maxLen) := (rds_slice Try.underlying68 (by rw [cl_req]; decide) rds_laws_Req (fun _ => cl_req.symm))
theorem rds_ints : RdsAs Try.prog 51 (fun xs : List Int => [.sl (intsL xs)]) (fun xs => xs.length ≤ maxLen ∧ ∀ x ∈ xs, (Lit.int .i64 x).wf = true) := (rds_slice Try.underlying51 (by rw [cl_int]; decide) (rds_int Try.underlying3) (fun _ => cl_int.symm))
theorem rds_strs : RdsAs Try.prog 50 (fun xs : List (List UInt8) => [.sl (strsL xs)]) (fun xs => xs.length ≤ maxLen ∧ ∀ x ∈ xs, x.length ≤ maxLen) := (rds_slice Try.underlying50 (by rw [cl_str]; decide) (rds_str Try.underlying9) (fun _ => cl_str.symm))
theorem rds_bools : RdsAs Try.prog 56 (fun xs : List Bool => [.sl (boolsL xs)]) (fun xs => xs.length ≤ maxLen ∧ ∀ x ∈ xs, True) := (rds_slice Try.underlying56 (by rw [cl_bool]; decide) (rds_bool Try.underlying4) (fun _ => cl_bool.symm))
theorem rds_laws_Lay : RdsAs Try.prog 48 (fun p : Int × Int => [.int .i64 p.1, .int .i64 p.2]) (fun p => (Lit.int .i64 p.1).wf = true ∧ (Lit.int .i64 p.2).wf = true) := rds_map (rds_struct Try.underlying48 (rdF_cons (by kernel_rfl) (rds_int Try.underlying3) (rdF_cons (by kernel_rfl) (rds_int Try.underlying3) (rdF_nil (by kernel_rfl))))) (fun p => (p.1, p.2.1)) (fun _ _ => rfl) (fun _ h => ⟨h.1, h.2.1⟩)
theorem rds_laws_Store : RdsAs Try.prog 65 storeL storeM := rds_map (rds_struct Try.underlying65 (rdF_cons (by kernel_rfl) rds_strs (rdF_cons (by kernel_rfl) rds_strs (rdF_cons (by kernel_rfl) rds_ints (rdF_cons (by kernel_rfl) rds_ints (rdF_cons (by kernel_rfl) rds_ints (rdF_nil (by kernel_rfl)))))))) (fun p => ⟨p.1, p.2.1, p.2.2.1, p.2.2.2.1, p.2.2.2.2.1⟩) (fun _ _ => rfl) (fun _ h => ⟨h.1, h.2.1, h.2.2.1.1, h.2.2.2.1.1, h.2.2.2.2.1.1⟩)
theorem rds_laws_World : RdsAs Try.prog 70 worldL worldM := rds_map (rds_struct Try.underlying70 (rdF_cons (by kernel_rfl) rds_laws_Lay (rdF_cons (by kernel_rfl) rds_laws_Store (rdF_cons (by kernel_rfl) rds_holds (rdF_cons (by kernel_rfl) rds_owns (rdF_cons (by kernel_rfl) rds_ints (rdF_cons (by kernel_rfl) rds_bools (rdF_cons (by kernel_rfl) rds_reqs (rdF_cons (by kernel_rfl) rds_reqs (rdF_nil (by kernel_rfl))))))))))) (fun p => ⟨p.1.1, p.1.2, p.2.1, p.2.2.1, p.2.2.2.1, p.2.2.2.2.1, p.2.2.2.2.2.1, p.2.2.2.2.2.2.1, p.2.2.2.2.2.2.2.1⟩) (fun _ _ => rfl) (fun _ h => ⟨h.2.1, h.2.2.1, h.2.2.2.1, h.2.2.2.2.1.1, h.2.2.2.2.2.1.1, h.2.2.2.2.2.2.1, h.2.2.2.2.2.2.2.1⟩)
end Go.Ev
