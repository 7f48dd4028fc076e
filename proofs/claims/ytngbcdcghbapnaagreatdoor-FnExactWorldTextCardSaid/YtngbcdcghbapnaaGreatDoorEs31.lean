/- My texts joined: EvR1, EvR2. No condition. -/
import Derived.Test.YtngbcdcghbapnaaGreatDoorEs28
import Derived.Test.YtngbcdcghbapnaaGreatDoorEs30
set_option linter.unusedVariables false
set_option linter.unusedSimpArgs false

set_option maxRecDepth 100000
namespace Go.Ev
open Go.Proofs
theorem rds_laws_Req:RdsAs Tryz.prog 190 reqL (fun q=>q.data.length≤maxLen) :=
 rds_map (rds_struct Tryz.underlying190 (rdF_cons (by kernel_rfl) (rds_int Tryz.underlying3) (rdF_cons (by kernel_rfl) (rds_int Tryz.underlying3) (rdF_cons (by kernel_rfl) (rds_int Tryz.underlying3) (rdF_cons (by kernel_rfl) (rds_int Tryz.underlying3) (rdF_cons (by kernel_rfl) (rds_int Tryz.underlying3) (rdF_cons (by kernel_rfl) (rds_str Tryz.underlying9) (rdF_nil (by kernel_rfl)))))))))
  (fun p=>⟨p.1,p.2.1,p.2.2.1,p.2.2.2.1,p.2.2.2.2.1,p.2.2.2.2.2.1⟩) (fun _ _=>rfl) (fun _ h=>h.2.2.2.2.2.1)
set_option maxRecDepth 100000
theorem cl_int:Tryz.prog.cellsOf 3=1:=by kernel_rfl
theorem cl_str:Tryz.prog.cellsOf 9=1:=by kernel_rfl
theorem cl_bool:Tryz.prog.cellsOf 4=1:=by kernel_rfl
theorem cl_span:Tryz.prog.cellsOf 256=2:=by kernel_rfl
theorem cl_hold:Tryz.prog.cellsOf 185=2:=by kernel_rfl
theorem cl_own:Tryz.prog.cellsOf 188=3:=by kernel_rfl
theorem cl_req:Tryz.prog.cellsOf 190=6:=by kernel_rfl
theorem rds_laws_Span:RdsAs Tryz.prog 256 spL (fun _=>True):=rds_map (rds_struct Tryz.underlying256 (rdF_cons (by kernel_rfl) (rds_int Tryz.underlying3) (rdF_cons (by kernel_rfl) (rds_int Tryz.underlying3) (rdF_nil (by kernel_rfl))))) (fun p=>(p.1,p.2.1)) (fun _ _=>rfl) (fun _ _=>trivial)
theorem rds_spans:RdsAs Tryz.prog 183 (fun xs:List Sp=>[.sl (xs.map spL)]) (fun xs=>xs.length≤maxLen∧∀ x∈xs,True):=(rds_slice Tryz.underlying183 (by rw [cl_span];decide) rds_laws_Span (fun _=>cl_span.symm))
theorem rds_laws_Hold:RdsAs Tryz.prog 185 holdL holdM:=rds_map (rds_struct Tryz.underlying185 (rdF_cons (by kernel_rfl) rds_spans (rdF_cons (by kernel_rfl) rds_spans (rdF_nil (by kernel_rfl))))) (fun p=>⟨p.1,p.2.1⟩) (fun _ _=>rfl) (fun _ h=>⟨h.1.1,h.2.1.1⟩)
theorem rds_laws_Own:RdsAs Tryz.prog 188 ownL ownM:=rds_map (rds_struct Tryz.underlying188 (rdF_cons (by kernel_rfl) (rds_str Tryz.underlying9) (rdF_cons (by kernel_rfl) rds_spans (rdF_cons (by kernel_rfl) rds_spans (rdF_nil (by kernel_rfl)))))) (fun p=>⟨p.1,p.2.1,p.2.2.1⟩) (fun _ _=>rfl) (fun _ h=>⟨h.1,h.2.1.1,h.2.2.1.1⟩)
theorem rds_holds:RdsAs Tryz.prog 66 (fun xs:List HoldT=>[.sl (xs.map holdL)]) (fun xs=>xs.length≤maxLen∧∀ x∈xs,holdM x):=(rds_slice Tryz.underlying66 (by rw [cl_hold];decide) rds_laws_Hold (fun _=>cl_hold.symm))
theorem rds_owns:RdsAs Tryz.prog 67 (fun xs:List OwnT=>[.sl (xs.map ownL)]) (fun xs=>xs.length≤maxLen∧∀ x∈xs,ownM x):=(rds_slice Tryz.underlying67 (by rw [cl_own];decide) rds_laws_Own (fun _=>cl_own.symm))
theorem rds_reqs:RdsAs Tryz.prog 68 (fun xs:List ReqT=>[.sl (xs.map reqL)]) (fun xs=>xs.length≤maxLen∧∀ x∈xs,x.data.length≤maxLen):=(rds_slice Tryz.underlying68 (by rw [cl_req];decide) rds_laws_Req (fun _=>cl_req.symm))
theorem rds_ints:RdsAs Tryz.prog 26 (fun xs:List Int=>[.sl (intsL xs)]) (fun xs=>xs.length≤maxLen∧∀ x∈xs,(Lit.int .i64 x).wf=true):=(rds_slice Tryz.underlying26 (by rw [cl_int];decide) (rds_int Tryz.underlying3) (fun _=>cl_int.symm))
theorem rds_strs:RdsAs Tryz.prog 25 (fun xs:List (List UInt8)=>[.sl (strsL xs)]) (fun xs=>xs.length≤maxLen∧∀ x∈xs,x.length≤maxLen):=(rds_slice Tryz.underlying25 (by rw [cl_str];decide) (rds_str Tryz.underlying9) (fun _=>cl_str.symm))
theorem rds_bools:RdsAs Tryz.prog 31 (fun xs:List Bool=>[.sl (boolsL xs)]) (fun xs=>xs.length≤maxLen∧∀ x∈xs,True):=(rds_slice Tryz.underlying31 (by rw [cl_bool];decide) (rds_bool Tryz.underlying4) (fun _=>cl_bool.symm))
theorem rds_laws_Lay:RdsAs Tryz.prog 64 (fun p:Int × Int=>[.int .i64 p.1,.int .i64 p.2]) (fun p=>(Lit.int .i64 p.1).wf=true∧(Lit.int .i64 p.2).wf=true):=rds_map (rds_struct Tryz.underlying64 (rdF_cons (by kernel_rfl) (rds_int Tryz.underlying3) (rdF_cons (by kernel_rfl) (rds_int Tryz.underlying3) (rdF_nil (by kernel_rfl))))) (fun p=>(p.1,p.2.1)) (fun _ _=>rfl) (fun _ h=>⟨h.1,h.2.1⟩)
theorem rds_laws_Store:RdsAs Tryz.prog 65 storeL storeM:=rds_map (rds_struct Tryz.underlying65 (rdF_cons (by kernel_rfl) rds_strs (rdF_cons (by kernel_rfl) rds_strs (rdF_cons (by kernel_rfl) rds_ints (rdF_cons (by kernel_rfl) rds_ints (rdF_cons (by kernel_rfl) rds_ints (rdF_nil (by kernel_rfl)))))))) (fun p=>⟨p.1,p.2.1,p.2.2.1,p.2.2.2.1,p.2.2.2.2.1⟩) (fun _ _=>rfl) (fun _ h=>⟨h.1,h.2.1,h.2.2.1.1,h.2.2.2.1.1,h.2.2.2.2.1.1⟩)
theorem rds_laws_World:RdsAs Tryz.prog 70 worldL worldM:=rds_map (rds_struct Tryz.underlying70 (rdF_cons (by kernel_rfl) rds_laws_Lay (rdF_cons (by kernel_rfl) rds_laws_Store (rdF_cons (by kernel_rfl) rds_holds (rdF_cons (by kernel_rfl) rds_owns (rdF_cons (by kernel_rfl) rds_ints (rdF_cons (by kernel_rfl) rds_bools (rdF_cons (by kernel_rfl) rds_reqs (rdF_cons (by kernel_rfl) rds_reqs (rdF_nil (by kernel_rfl))))))))))) (fun p=>⟨p.1.1,p.1.2,p.2.1,p.2.2.1,p.2.2.2.1,p.2.2.2.2.1,p.2.2.2.2.2.1,p.2.2.2.2.2.2.1,p.2.2.2.2.2.2.2.1⟩) (fun _ _=>rfl) (fun _ h=>⟨h.2.1,h.2.2.1,h.2.2.2.1,h.2.2.2.2.1.1,h.2.2.2.2.2.1.1,h.2.2.2.2.2.2.1,h.2.2.2.2.2.2.2.1⟩)
end Go.Ev

