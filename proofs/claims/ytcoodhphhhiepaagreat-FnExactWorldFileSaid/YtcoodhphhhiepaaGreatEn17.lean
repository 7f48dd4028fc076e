/- My texts joined: EvR1, EvR2. No condition. -/
import Derived.Test.YtcoodhphhhiepaaGreatEn7
import Derived.Test.YtcoodhphhhiepaaGreatEn11
import Derived.Test.YtcoodhphhhiepaaGreatEn12
import Derived.Test.YtcoodhphhhiepaaGreatEn16
/- What a law's arguments read as. -/
set_option linter.unusedVariables false
set_option maxRecDepth 100000
namespace Go.Ev
open Go.Proofs
theorem rds_laws_Req : RdsAs Tryz.prog 98 reqL (fun q => q.data.length ≤ maxLen) :=
  rds_map (rds_struct Tryz.underlying98 (rdF_cons (by kernel_rfl) (rds_int Tryz.underlying3) (rdF_cons (by kernel_rfl) (rds_int Tryz.underlying3) (rdF_cons (by kernel_rfl) (rds_int Tryz.underlying3) (rdF_cons (by kernel_rfl) (rds_int Tryz.underlying3) (rdF_cons (by kernel_rfl) (rds_int Tryz.underlying3) (rdF_cons (by kernel_rfl) (rds_str Tryz.underlying9) (rdF_nil (by kernel_rfl)))))))))
    (fun p => ⟨p.1, p.2.1, p.2.2.1, p.2.2.2.1, p.2.2.2.2.1, p.2.2.2.2.2.1⟩) (fun _ _ => rfl) (fun _ h => h.2.2.2.2.2.1)
theorem cells_u8 : Tryz.prog.cellsOf 5 = 1 := by kernel_rfl
theorem rds_bytes : RdsAs Tryz.prog 119 (fun bs : List UInt8 => [.sl (rowsOfBytes bs)]) (fun bs => bs.length ≤ maxLen) :=
  rds_map (rds_slice Tryz.underlying119 (by rw [cells_u8]; decide) (rds_int Tryz.underlying5) (fun _ => cells_u8.symm)) (fun zs => zs.map fun z => UInt8.ofNat z.toNat)
    (fun zs h => by
      simp only [rowsOfBytes, List.map_map]
      congr 2
      refine List.map_congr_left fun z hz => ?_
      have := wf_u8 (h.2 z hz)
      simp only [Function.comp]
      congr 2
      rw [UInt8.toNat_ofNat']
      omega) (fun zs h => by simpa using h.1)
end Go.Ev

/- What worlds that come in read as. -/
set_option linter.unusedVariables false
set_option maxRecDepth 100000
namespace Go.Ev
open Go.Proofs
theorem cl_int : Tryz.prog.cellsOf 3 = 1 := by kernel_rfl
theorem cl_str : Tryz.prog.cellsOf 9 = 1 := by kernel_rfl
theorem cl_bool : Tryz.prog.cellsOf 4 = 1 := by kernel_rfl
theorem cl_span : Tryz.prog.cellsOf 148 = 2 := by kernel_rfl
theorem cl_hold : Tryz.prog.cellsOf 93 = 2 := by kernel_rfl
theorem cl_own : Tryz.prog.cellsOf 96 = 3 := by kernel_rfl
theorem cl_req : Tryz.prog.cellsOf 98 = 6 := by kernel_rfl
theorem rds_laws_Span : RdsAs Tryz.prog 148 spL (fun _ => True) := rds_map (rds_struct Tryz.underlying148 (rdF_cons (by kernel_rfl) (rds_int Tryz.underlying3) (rdF_cons (by kernel_rfl) (rds_int Tryz.underlying3) (rdF_nil (by kernel_rfl))))) (fun p => (p.1, p.2.1)) (fun _ _ => rfl) (fun _ _ => trivial)
theorem rds_spans : RdsAs Tryz.prog 91 (fun xs : List Sp => [.sl (xs.map spL)]) (fun xs => xs.length ≤ maxLen ∧ ∀ x ∈ xs, True) := (rds_slice Tryz.underlying91 (by rw [cl_span]; decide) rds_laws_Span (fun _ => cl_span.symm))
theorem rds_laws_Hold : RdsAs Tryz.prog 93 holdL holdM := rds_map (rds_struct Tryz.underlying93 (rdF_cons (by kernel_rfl) rds_spans (rdF_cons (by kernel_rfl) rds_spans (rdF_nil (by kernel_rfl))))) (fun p => ⟨p.1, p.2.1⟩) (fun _ _ => rfl) (fun _ h => ⟨h.1.1, h.2.1.1⟩)
theorem rds_laws_Own : RdsAs Tryz.prog 96 ownL ownM := rds_map (rds_struct Tryz.underlying96 (rdF_cons (by kernel_rfl) (rds_str Tryz.underlying9) (rdF_cons (by kernel_rfl) rds_spans (rdF_cons (by kernel_rfl) rds_spans (rdF_nil (by kernel_rfl)))))) (fun p => ⟨p.1, p.2.1, p.2.2.1⟩) (fun _ _ => rfl) (fun _ h => ⟨h.1, h.2.1.1, h.2.2.1.1⟩)
theorem rds_holds : RdsAs Tryz.prog 28 (fun xs : List HoldT => [.sl (xs.map holdL)]) (fun xs => xs.length ≤ maxLen ∧ ∀ x ∈ xs, holdM x) := (rds_slice Tryz.underlying28 (by rw [cl_hold]; decide) rds_laws_Hold (fun _ => cl_hold.symm))
theorem rds_owns : RdsAs Tryz.prog 29 (fun xs : List OwnT => [.sl (xs.map ownL)]) (fun xs => xs.length ≤ maxLen ∧ ∀ x ∈ xs, ownM x) := (rds_slice Tryz.underlying29 (by rw [cl_own]; decide) rds_laws_Own (fun _ => cl_own.symm))
theorem rds_reqs : RdsAs Tryz.prog 31 (fun xs : List ReqT => [.sl (xs.map reqL)]) (fun xs => xs.length ≤ maxLen ∧ ∀ x ∈ xs, x.data.length ≤ maxLen) := (rds_slice Tryz.underlying31 (by rw [cl_req]; decide) rds_laws_Req (fun _ => cl_req.symm))
theorem rds_ints : RdsAs Tryz.prog 25 (fun xs : List Int => [.sl (intsL xs)]) (fun xs => xs.length ≤ maxLen ∧ ∀ x ∈ xs, (Lit.int .i64 x).wf = true) := (rds_slice Tryz.underlying25 (by rw [cl_int]; decide) (rds_int Tryz.underlying3) (fun _ => cl_int.symm))
theorem rds_strs : RdsAs Tryz.prog 24 (fun xs : List (List UInt8) => [.sl (strsL xs)]) (fun xs => xs.length ≤ maxLen ∧ ∀ x ∈ xs, x.length ≤ maxLen) := (rds_slice Tryz.underlying24 (by rw [cl_str]; decide) (rds_str Tryz.underlying9) (fun _ => cl_str.symm))
theorem rds_bools : RdsAs Tryz.prog 30 (fun xs : List Bool => [.sl (boolsL xs)]) (fun xs => xs.length ≤ maxLen ∧ ∀ x ∈ xs, True) := (rds_slice Tryz.underlying30 (by rw [cl_bool]; decide) (rds_bool Tryz.underlying4) (fun _ => cl_bool.symm))
theorem rds_laws_Lay : RdsAs Tryz.prog 23 (fun p : Int × Int => [.int .i64 p.1, .int .i64 p.2]) (fun p => (Lit.int .i64 p.1).wf = true ∧ (Lit.int .i64 p.2).wf = true) := rds_map (rds_struct Tryz.underlying23 (rdF_cons (by kernel_rfl) (rds_int Tryz.underlying3) (rdF_cons (by kernel_rfl) (rds_int Tryz.underlying3) (rdF_nil (by kernel_rfl))))) (fun p => (p.1, p.2.1)) (fun _ _ => rfl) (fun _ h => ⟨h.1, h.2.1⟩)
theorem rds_laws_Store : RdsAs Tryz.prog 27 storeL storeM := rds_map (rds_struct Tryz.underlying27 (rdF_cons (by kernel_rfl) rds_strs (rdF_cons (by kernel_rfl) rds_strs (rdF_cons (by kernel_rfl) rds_ints (rdF_cons (by kernel_rfl) rds_ints (rdF_cons (by kernel_rfl) rds_ints (rdF_nil (by kernel_rfl)))))))) (fun p => ⟨p.1, p.2.1, p.2.2.1, p.2.2.2.1, p.2.2.2.2.1⟩) (fun _ _ => rfl) (fun _ h => ⟨h.1, h.2.1, h.2.2.1.1, h.2.2.2.1.1, h.2.2.2.2.1.1⟩)
theorem rds_laws_World : RdsAs Tryz.prog 33 worldL worldM := rds_map (rds_struct Tryz.underlying33 (rdF_cons (by kernel_rfl) rds_laws_Lay (rdF_cons (by kernel_rfl) rds_laws_Store (rdF_cons (by kernel_rfl) rds_holds (rdF_cons (by kernel_rfl) rds_owns (rdF_cons (by kernel_rfl) rds_ints (rdF_cons (by kernel_rfl) rds_bools (rdF_cons (by kernel_rfl) rds_reqs (rdF_cons (by kernel_rfl) rds_reqs (rdF_nil (by kernel_rfl))))))))))) (fun p => ⟨p.1.1, p.1.2, p.2.1, p.2.2.1, p.2.2.2.1, p.2.2.2.2.1, p.2.2.2.2.2.1, p.2.2.2.2.2.2.1, p.2.2.2.2.2.2.2.1⟩) (fun _ _ => rfl) (fun _ h => ⟨h.2.1, h.2.2.1, h.2.2.2.1, h.2.2.2.2.1.1, h.2.2.2.2.2.1.1, h.2.2.2.2.2.2.1, h.2.2.2.2.2.2.2.1⟩)
end Go.Ev
