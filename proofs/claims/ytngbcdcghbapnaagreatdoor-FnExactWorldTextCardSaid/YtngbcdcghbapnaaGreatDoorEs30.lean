/- My texts joined: EvS42. No condition. -/
import Derived.Test.YtngbcdcghbapnaaGreatDoorEs3
set_option linter.unusedVariables false
set_option linter.unusedSimpArgs false

namespace Go.Ev
theorem rds_bool {P:Program} {t:TypeId} (ht:P.underlying t=some .bool):RdsAs P t (fun b:Bool=>[.bool b]) (fun _=>True):=by
 intro H en w fuel cs x h
 obtain ⟨b,rfl,_⟩:=DataW.trod_bool ht h
 exact ⟨b,_,RepLs.single (.bool _ _),trivial⟩
theorem rds_str {P:Program} {t:TypeId} (ht:P.underlying t=some .string):RdsAs P t (fun s:List UInt8=>[.str s]) (fun s=>s.length≤maxLen):=by
 intro H en w fuel cs x h
 obtain ⟨s,rfl,_,hl⟩:=DataW.trod_string ht h
 refine ⟨s.data.toList,_,RepLs.single (.str _ _),?_⟩
 show s.data.toList.length≤maxLen
 rw [Array.length_toList]
 exact hl
def RdF (P:Program) (N:Nat) (fs:List Field) (off:Nat) {α:Type} (enc:α→List L) (ok:α→Prop):Prop :=
 ∀ (H:Type) (en:TypeId × Value→H) (w:World) (n:Nat) (cs:List Value) (xs:List (DataW H × List MemPlace)),cs.length=N→xs.length=fs.length →
  (∀ (i:Nat) (f:Field),fs[i]?=some f→DataW.trod en P w 0 (fun _=>true) true n f.type ((cs.drop f.offset).take (P.cellsOf f.type))=xs[i]?)→∃ a S,RepLs w false (cs.drop off) (enc a) S∧ok a
theorem rdF_nil {P:Program} {N off:Nat} (h:off=N):RdF P N [] off (fun _:Unit=>[]) (fun _=>True):=by
 intro H en w n cs xs hl _ _
 refine ⟨(),[],?_,trivial⟩
 rw [List.drop_eq_nil_of_le (by omega)]
 exact .nil _
theorem rdF_cons {P:Program} {N off:Nat} {f:Field} {fs:List Field} {α β:Type} {enc1:α→List L} {enc2:β→List L} {ok1:α→Prop} {ok2:β→Prop} (ho:f.offset=off) (R:RdsAs P f.type enc1 ok1) (Rs:RdF P N fs (off+P.cellsOf f.type) enc2 ok2) :
  RdF P N (f::fs) off (fun p:α × β=>enc1 p.1++enc2 p.2) (fun p=>ok1 p.1∧ok2 p.2):=by
 intro H en w n cs xs hl hx hg
 cases xs with
 | nil=>simp at hx
 | cons x xs =>
  have h0:=hg 0 f rfl
  rw [List.getElem?_cons_zero,ho] at h0
  obtain ⟨a,S,r1,o1⟩:=R H en w n _ _ h0
  obtain ⟨b,S2,r2,o2⟩:=Rs H en w n cs xs hl (by simpa using hx) (fun i g hi=>by
   have:=hg (i+1) g (by simpa using hi)
   simpa using this)
  refine ⟨(a,b),S++S2,?_,o1,o2⟩
  have:=r1.append r2
  rwa [← List.drop_drop,List.take_append_drop] at this
theorem rds_struct {P:Program} {t:TypeId} {fs:Array Field} {α:Type} {enc:α→List L} {ok:α→Prop} (ht:P.underlying t=some (.struct fs)) (R:RdF P (P.cellsOf t) fs.toList 0 enc ok):RdsAs P t enc ok:=by
 intro H en w fuel cs x h
 obtain ⟨xs,n,_,_,hl,hx,hg⟩:=DataW.trod_struct ht h
 obtain ⟨a,S,r,o⟩:=R H en w n cs xs hl (by simpa using hx) (fun i f hi=>hg i f (by simpa using hi))
 exact ⟨a,S,by simpa using r,o⟩
end Go.Ev

