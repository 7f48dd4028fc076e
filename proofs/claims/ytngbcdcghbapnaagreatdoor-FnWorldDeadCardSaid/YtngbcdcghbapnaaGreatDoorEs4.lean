/- My texts joined: EvR4. No condition. -/
import Derived.Test.YtngbcdcghbapnaaGreatDoorEn13
import Derived.ChangeArms
import Derived.Handed
import Derived.HandedShaped
import Derived.OpenShut
import Derived.Stop.Joined
import Derived.LaidMore
set_option linter.unusedVariables false
set_option linter.unusedSimpArgs false

namespace Go.Ev
open Go.Proofs
theorem struct2_ints {H:Type} {en:TypeId × Value→H} {P:Program} {w:World} {base:Nat} {sp:Nat→Bool} {held:Bool} {fuel:Nat} {t:TypeId} {fs:Array Field} {f0 f1:Field} {k:IntKind} {cs:List Value} {a b:Int} {ps:List MemPlace} (ht:P.underlying t=some (.struct fs))
  (hfs:fs=#[f0,f1]) (o0:f0.offset=0) (o1:f1.offset=1) (u0:P.underlying f0.type=some (.int k)) (u1:P.underlying f1.type=some (.int k)) (c0:P.cellsOf f0.type=1) (c1:P.cellsOf f1.type=1) (hct:P.cellsOf t=2)
  (h:DataW.trod en P w base sp held fuel t cs=some (.agg [.lit (.int k a),.lit (.int k b)],ps)):cs=[.int k a,.int k b]:=by
 subst hfs
 obtain ⟨xs,m,_,hx,hl,hxl,hg⟩:=DataW.trod_struct ht h
 match xs,hxl with
 | [x0,x1],_ =>
  simp only [Prod.mk.injEq,DataW.agg.injEq,List.map_cons,List.map_nil,List.cons.injEq,and_true] at hx
  match cs,hl.trans hct with
  | [v0,v1],_ =>
   have g0:=hg 0 f0 rfl
   have g1:=hg 1 f1 rfl
   rw [o0,c0] at g0
   rw [o1,c1] at g1
   simp only [List.drop_zero,List.drop_succ_cons,List.take_succ_cons,List.take_zero,List.getElem?_cons_zero,List.getElem?_cons_succ] at g0 g1
   obtain ⟨n0,e1,e2,_⟩:=DataW.trod_int u0 g0
   obtain ⟨n1,e3,e4,_⟩:=DataW.trod_int u1 g1
   have h0:=hx.1.1
   have h1:=hx.1.2
   rw [e2] at h0
   rw [e4] at h1
   simp only [DataW.lit.injEq,Lit.int.injEq,true_and] at h0 h1
   simp only [List.cons.injEq,and_true] at e1 e3
   rw [e1,e3,h0,h1]
end Go.Ev

