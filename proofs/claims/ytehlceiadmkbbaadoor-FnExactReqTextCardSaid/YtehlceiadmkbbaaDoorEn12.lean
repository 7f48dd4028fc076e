/- My texts joined: EvR1. No condition. -/
import Derived.Test.YtehlceiadmkbbaaDoorEn6
import Derived.Test.YtehlceiadmkbbaaDoorEn9
import Derived.Test.YtehlceiadmkbbaaDoorEn11
/- What a law's arguments read as. -/
set_option linter.unusedVariables false
set_option maxRecDepth 100000
namespace Go.Ev
open Go.Proofs
theorem rds_laws_Req : RdsAs Tryd.prog 23 reqL (fun q => q.data.length ≤ maxLen) :=
  rds_map (rds_struct Tryd.underlying23 (rdF_cons (by kernel_rfl) (rds_int Tryd.underlying3) (rdF_cons (by kernel_rfl) (rds_int Tryd.underlying3) (rdF_cons (by kernel_rfl) (rds_int Tryd.underlying3) (rdF_cons (by kernel_rfl) (rds_int Tryd.underlying3) (rdF_cons (by kernel_rfl) (rds_int Tryd.underlying3) (rdF_cons (by kernel_rfl) (rds_str Tryd.underlying9) (rdF_nil (by kernel_rfl)))))))))
    (fun p => ⟨p.1, p.2.1, p.2.2.1, p.2.2.2.1, p.2.2.2.2.1, p.2.2.2.2.2.1⟩) (fun _ _ => rfl) (fun _ h => h.2.2.2.2.2.1)
theorem cells_u8 : Tryd.prog.cellsOf 5 = 1 := by kernel_rfl
theorem rds_bytes : RdsAs Tryd.prog 34 (fun bs : List UInt8 => [.sl (rowsOfBytes bs)]) (fun bs => bs.length ≤ maxLen) :=
  rds_map (rds_slice Tryd.underlying34 (by rw [cells_u8]; decide) (rds_int Tryd.underlying5) (fun _ => cells_u8.symm)) (fun zs => zs.map fun z => UInt8.ofNat z.toNat)
    (fun zs h => by
      simp only [rowsOfBytes, List.map_map]
      congr 2
      refine List.map_congr_left fun z hz => ?_
      have := wf_u8 (h.2 z hz)
      simp only [Function.comp]
      congr 2
      rw [UInt8.toNat_ofNat']
      omega) (fun zs h => by simpa using h.1)
end Go.Ev
