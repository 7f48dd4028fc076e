/- My texts joined: EvR1, EvR3. No condition. -/
import Derived.Test.YtndikjcpmhfdhaaDoorEn7
import Derived.Test.YtndikjcpmhfdhaaDoorEn11
import Derived.Test.YtndikjcpmhfdhaaDoorEn12
import Derived.Test.YtndikjcpmhfdhaaDoorEn13
/- What a law's arguments read as. -/
set_option linter.unusedVariables false
set_option maxRecDepth 100000
namespace Go.Ev
open Go.Proofs
theorem cells_u8 : Tryd.prog.cellsOf 5 = 1 := by kernel_rfl
theorem rds_bytes : RdsAs Tryd.prog 22 (fun bs : List UInt8 => [.sl (rowsOfBytes bs)]) (fun bs => bs.length ≤ maxLen) :=
  rds_map (rds_slice Tryd.underlying22 (by rw [cells_u8]; decide) (rds_int Tryd.underlying5) (fun _ => cells_u8.symm)) (fun zs => zs.map fun z => UInt8.ofNat z.toNat)
    (fun zs h => by
      simp only [rowsOfBytes, List.map_map]
      congr 2
      refine List.map_congr_left fun z hz => ?_
      have := wf_u8 (h.2 z hz)
      simp only [Function.comp]
      congr 2
      rw [UInt8.toNat_ofNat']
      omega) (fun zs h => by simpa using h.1)
end Go.Ev

/- What an event that comes in reads as. -/
set_option linter.unusedVariables false
set_option maxRecDepth 100000
namespace Go.Ev
open Go.Proofs
theorem wf_i64 {n : Int} (h : (Lit.int .i64 n).wf = true) : i64 n := by
  have h : IntKind.i64.min ≤ n ∧ n ≤ IntKind.i64.max := by simpa [Lit.wf] using h
  have h1 : IntKind.i64.min = -9223372036854775808 := by decide
  have h2 : IntKind.i64.max = 9223372036854775807 := by decide
  simp only [i64]
  omega
theorem rds_laws_Span3 : RdsAs Tryd.prog 43 spL (fun q => i64 q.1 ∧ i64 q.2) := rds_map (rds_struct Tryd.underlying43 (rdF_cons (by kernel_rfl) (rds_int Tryd.underlying3) (rdF_cons (by kernel_rfl) (rds_int Tryd.underlying3) (rdF_nil (by kernel_rfl))))) (fun p => (p.1, p.2.1)) (fun _ _ => rfl) (fun _ h => ⟨wf_i64 h.1, wf_i64 h.2.1⟩)
theorem rds_laws_Ev : RdsAs Tryd.prog 45 evL evM := rds_map (rds_struct Tryd.underlying45 (rdF_cons (by kernel_rfl) (rds_int Tryd.underlying3) (rdF_cons (by kernel_rfl) (rds_int Tryd.underlying3) (rdF_cons (by kernel_rfl) (rds_bool Tryd.underlying4) (rdF_cons (by kernel_rfl) rds_laws_Span3 (rdF_cons (by kernel_rfl) (rds_int Tryd.underlying3) (rdF_cons (by kernel_rfl) (rds_str Tryd.underlying9) (rdF_nil (by kernel_rfl))))))))) (fun p => ⟨p.1, p.2.1, p.2.2.1, p.2.2.2.1, p.2.2.2.2.1, p.2.2.2.2.2.1⟩) (fun _ _ => rfl) (fun _ h => ⟨⟨wf_i64 h.2.1, h.2.2.2.1.1, h.2.2.2.1.2, wf_i64 h.2.2.2.2.1⟩, h.2.2.2.2.2.1⟩)
end Go.Ev
