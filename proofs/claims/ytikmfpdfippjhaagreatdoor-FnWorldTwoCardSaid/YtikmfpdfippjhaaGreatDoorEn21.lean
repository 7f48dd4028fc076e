/- My texts joined: EvR1, EvR4. No condition. -/
import Derived.Test.YtikmfpdfippjhaaGreatDoorEn7
import Derived.Test.YtikmfpdfippjhaaGreatDoorEn11
import Derived.Test.YtikmfpdfippjhaaGreatDoorEn20
set_option linter.unusedVariables false
set_option linter.unusedSimpArgs false

set_option maxRecDepth 100000
namespace Go.Ev
open Go.Proofs
theorem cells_u8:Tryz.prog.cellsOf 5=1:=by kernel_rfl
theorem rds_bytes:RdsAs Tryz.prog 22 (fun bs:List UInt8=>[.sl (rowsOfBytes bs)]) (fun bs=>bs.length≤maxLen) :=
  rds_map (rds_slice Tryz.underlying22 (by rw [cells_u8];decide) (rds_int Tryz.underlying5) (fun _=>cells_u8.symm)) (fun zs=>zs.map fun z=>UInt8.ofNat z.toNat)
    (fun zs h=>by
      simp only [rowsOfBytes,List.map_map]
      congr 2
      refine List.map_congr_left fun z hz=>?_
      have:=wf_u8 (h.2 z hz)
      simp only [Function.comp]
      congr 2
      rw [UInt8.toNat_ofNat']
      omega) (fun zs h=>by simpa using h.1)
theorem struct2_ints {H:Type} {en:TypeId × Value→H} {P:Program} {w:World} {base:Nat} {sp:Nat→Bool} {held:Bool} {fuel:Nat} {t:TypeId} {fs:Array Field} {f0 f1:Field} {k:IntKind} {cs:List Value} {a b:Int} {ps:List MemPlace} (ht:P.underlying t=some (.struct fs))
    (hfs:fs=#[f0,f1]) (o0:f0.offset=0) (o1:f1.offset=1) (u0:P.underlying f0.type=some (.int k)) (u1:P.underlying f1.type=some (.int k)) (c0:P.cellsOf f0.type=1) (c1:P.cellsOf f1.type=1) (hct:P.cellsOf t=2)
    (h:DataW.trod en P w base sp held fuel t cs=some (.agg [.lit (.int k a),.lit (.int k b)],ps)):cs=[.int k a,.int k b]:=by
  subst hfs
  obtain ⟨xs,m,_,hx,hl,hxl,hg⟩:=DataW.trod_struct ht h
  match xs,hxl with
  | [x0,x1],_ =>
    simp only [Prod.mk.injEq,DataW.agg.injEq,List.map_cons,List.map_nil,List.cons.injEq,and_true] at hx
    match cs,hl.trans hct with
    | [v0,v1],_ =>
      have g0:=hg 0 f0 rfl
      have g1:=hg 1 f1 rfl
      rw [o0,c0] at g0
      rw [o1,c1] at g1
      simp only [List.drop_zero,List.drop_succ_cons,List.take_succ_cons,List.take_zero,List.getElem?_cons_zero,List.getElem?_cons_succ] at g0 g1
      obtain ⟨n0,e1,e2,_⟩:=DataW.trod_int u0 g0
      obtain ⟨n1,e3,e4,_⟩:=DataW.trod_int u1 g1
      have h0:=hx.1.1
      have h1:=hx.1.2
      rw [e2] at h0
      rw [e4] at h1
      simp only [DataW.lit.injEq,Lit.int.injEq,true_and] at h0 h1
      simp only [List.cons.injEq,and_true] at e1 e3
      rw [e1,e3,h0,h1]
end Go.Ev

