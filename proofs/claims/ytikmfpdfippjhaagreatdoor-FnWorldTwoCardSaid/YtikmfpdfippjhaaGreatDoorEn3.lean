/- My texts joined: EvS40. No condition. -/
import Derived.Test.YtikmfpdfippjhaaGreatDoorEn2
import Derived.Below
import Derived.Lib.Repeat
set_option linter.unusedVariables false
set_option linter.unusedSimpArgs false

namespace Go.Ev
open Go.RowKit
def L.leaf:L→Bool
  | .int ..=>true
  | .bool _=>true
  | .str _=>true
  | _=>false
def leafV:L→Value
  | .int k n=>.int k n
  | .bool b=>.bool b
  | .str s=>.string ⟨s.toArray⟩
  | _=>undef
theorem leafV_of {w:World} {o:Bool} {v:Value} {l:L} {S:List Nat} (h:RepL w o v l S) (hl:l.leaf=true):v=leafV l:=by
  cases h<;>first | rfl | simp [L.leaf] at hl
theorem leafV_rep (w:World) (o:Bool) {l:L} (hl:l.leaf=true):RepL w o (leafV l) l []:=by
  cases l with
  | int k n=>exact .int o k n
  | bool b=>exact .bool o b
  | str s=>exact .str o ⟨s.toArray⟩
  | _=>simp [L.leaf] at hl
theorem leafV_cells {l:L} (hl:l.leaf=true):(leafV l).cells.toList=[leafV l]∧isAgg (leafV l)=false:=by
  cases l<;>first | exact ⟨rfl,rfl⟩ | simp [L.leaf] at hl
def argLeaf:Arg→Option L
  | .v _ false [l]=>if l.leaf then some l else none
  | _=>none
theorem argsLeaf {w:World} {R B:Nat→Prop}:∀ (xs:List Arg) (ls:List L) (vs:List Value) (fps:List (List Nat)),ArgsRep w R B xs vs fps→xs.map argLeaf=ls.map some→vs=ls.map leafV∧boxesOf xs vs=[]
  | _,ls,_,_,.nil,h=>by
    cases ls with
    | nil=>exact ⟨rfl,rfl⟩
    | cons l ls=>simp at h
  | _,ls,_,_,.cons (x:=x) (v:=v) h1 h2,h=>by
    cases ls with
    | nil=>simp at h
    | cons l ls =>
      simp only [List.map_cons,List.cons.injEq] at h
      obtain ⟨e,h⟩:=h
      obtain ⟨g1,g2⟩:=argsLeaf _ ls _ _ h2 h
      unfold argLeaf at e
      split at e<;>try (cases e;done)
      split at e<;>cases e
      rename_i hl
      obtain ⟨_,S,hr,ha,_⟩:=h1
      have hc:v.cells.toList=[v]:=by cases v<;>first | rfl | simp [isAgg] at ha
      rw [hc] at hr
      cases hr with
      | cons _ _ _ _ _ _ _ r1 r2 =>
        refine ⟨by rw [List.map_cons,leafV_of r1 hl,g1],?_⟩
        simp only [boxesOf]
        exact g2
def leafOut (rs:List L):Out:={ rs:=rs.map fun l=>.v .own false [l],outs:=[] }
theorem leafOut_rep (w:World) (R B:Nat→Prop):∀ (rs:List L),rs.all L.leaf=true→RVsRep w R B (leafOut rs).rs (rs.map leafV) (rs.map fun _=>[])
  | [],_=>.nil
  | l::rs,h=>by
    simp only [List.all_cons,Bool.and_eq_true] at h
    refine .cons ⟨(leafV_cells h.1).2,[],?_,.inl rfl,rfl⟩ (leafOut_rep w R B rs h.2)
    rw [(leafV_cells h.1).1]
    exact RepLs.single (leafV_rep w _ h.1)
theorem pure_con {E : Env} {f : FuncId} {fn : Func} (hf : E.P.funcs[f]? = some fn) (hb : fn.body.isSome = true) (hn : (fn.name == "runtime.NumGoroutine") = false) (args : List Arg) (ls rs : List L) (ha : args.map argLeaf = ls.map some) (hr : rs.all L.leaf = true)
    (hc:∀ w,(∃ R,GlobAt E w R)→Calls E.P f ⟨ls.map leafV⟩ w fun e w'=>e=.returned (retVal (rs.map leafV))∧Below w.heap.size w w'):Con E f args (leafOut rs):=by
  intro w R B vs fps hargs hgl hlt _ _
  obtain ⟨rfl,hbx⟩:=argsLeaf _ _ _ _ hargs ha
  refine .inl ⟨enters hf hb hn,(hc w ⟨R,hgl⟩).mono fun e w' ⟨he,bel⟩=>?_⟩
  subst he
  have hfl:((rs.map fun _=>[]):List (List Nat)).flatten=[]:=by
    induction rs with
    | nil=>rfl
    | cons l rs ih=>simp
  rw [hbx]
  exact ⟨{ R':=R,vs:=rs.map leafV,fps:=rs.map fun _=>[],ofps:=[],hv:=rfl,kp:=⟨bel.os,bel.tape,bel.output,bel.size,fun k hk _=>bel.block k hk⟩,mono:=fun _ h=>h,new:=fun _ h=>.inl h,lt:=fun b h=>Nat.lt_of_lt_of_le (hlt b (.inl h)) bel.size,rs:=leafOut_rep w' R B rs hr,outs:=.nil,held:=by rw [hfl];simp,nd:=by rw [hfl];simp }⟩
def repK:List Arg→Option Out
  | [.v _ false [.str s],.v _ false [.int .i64 c]]=>if 0≤c∧c≤9223372036854775807∧s.length*c.toNat≤140737488355328 then some (leafOut [.str (Lib.repeatL s c.toNat)]) else none
  | _=>none
theorem rep_con {E : Env} {f : FuncId} {fn : Func} (hf : E.P.funcs[f]? = some fn) (hb : fn.body.isSome = true) (hn : (fn.name == "runtime.NumGoroutine") = false)
    (hc:∀ (s:ByteArray) (c:Nat) (w:World),c≤9223372036854775807→s.size*c≤140737488355328→Calls E.P f #[.string s,.int .i64 c] w fun e w'=>e=.returned (.string ⟨(Lib.repeatL s.data.toList c).toArray⟩)∧Below w.heap.size w w')
    (args:List Arg) (out:Out) (h:repK args=some out):Con E f args out:=by
  unfold repK at h
  split at h<;>try (cases h;done)
  rename_i m s m' c
  split at h<;>cases h
  rename_i hq
  obtain ⟨n,rfl⟩:∃ n:Nat,c=n:=⟨c.toNat,by omega⟩
  simp only [Int.toNat_natCast] at hq ⊢
  exact pure_con hf hb hn _ [.str s,.int .i64 n] _ rfl rfl fun w _=>hc ⟨s.toArray⟩ n w (by omega) (by simpa [ByteArray.size] using hq.2.2)
end Go.Ev

