/- My texts joined: EvS42, EvS43. No condition. -/
import Derived.Test.YtngbcdcghbapnaaGreatDoorEn2
import Derived.Test.YtngbcdcghbapnaaGreatDoorEs1
import Derived.Lib.ItoaNum
import Derived.Lib.LaidTab
import Derived.Lib.Join
import Derived.Lib.AppendIntMem
import Derived.ChangeArms
import Derived.Handed
import Derived.HandedShaped
import Derived.OpenShut
import Derived.Stop.Joined
import Derived.LaidMore
set_option linter.unusedVariables false
set_option linter.unusedSimpArgs false

namespace Go.Ev
def RdsAs (P:Program) (t:TypeId) {α:Type} (enc:α→List L) (ok:α→Prop):Prop :=
 ∀ (H:Type) (en:TypeId × Value→H) (w:World) (fuel:Nat) (cs:List Value) (x:DataW H × List MemPlace),DataW.trod en P w 0 (fun _=>true) true fuel t cs=some x→∃ a S,RepLs w false cs (enc a) S∧ok a
theorem rds_int {P:Program} {t:TypeId} {k:IntKind} (ht:P.underlying t=some (.int k)):RdsAs P t (fun n:Int=>[.int k n]) (fun n=>(Lit.int k n).wf=true):=by
 intro H en w fuel cs x h
 obtain ⟨n,rfl,_,hw⟩:=DataW.trod_int ht h
 exact ⟨n,_,RepLs.single (.int _ _ _),hw⟩
theorem cells_spec {w:World} {a:Addr} {n:Nat} {cs:List Value} (h:w.cells? 0 a n=some cs) (hn:0<n) :
  a.spot=none∧∃ ds T fr,w.heap[a.block]?=some (.cells ds T fr)∧a.off+n≤ds.size∧cs=(ds.toList.drop a.off).take n:=by
 obtain ⟨_,hl,hc⟩:=World.cells?_some h
 obtain ⟨b,off,spot⟩:=a
 have h0:=hc 0 hn
 rw [List.getElem?_eq_getElem (by omega)] at h0
 have hsp:spot=none:=World.cell?_spot (a:=⟨b,off,spot⟩) (by simpa [Addr.add] using h0)
 subst hsp
 have hb:∃ ds T fr,w.heap[b]?=some (.cells ds T fr):=by
  simp only [Addr.add,if_pos,World.cell?] at h0
  split at h0
  ·exact ⟨_,_,_,by assumption⟩
  ·cases h0
 obtain ⟨ds,T,fr,hb⟩:=hb
 have hcell:∀ i,i<n→ds[off+i]?=cs[i]?:=fun i hi=>by
  have:=hc i hi
  rw [add_blk,cell_at hb] at this
  exact this
 have hsz:off+n≤ds.size:=by
  have:=hcell (n - 1) (by omega)
  rw [List.getElem?_eq_getElem (by omega)] at this
  have:=(Array.getElem?_eq_some_iff.1 this).1
  omega
 refine ⟨rfl,ds,T,fr,hb,hsz,List.ext_getElem? fun i=>?_⟩
 by_cases hi:i<n
 ·rw [List.getElem?_take_of_lt hi,List.getElem?_drop]
  exact (hcell i hi).symm.trans (Array.getElem?_toList ..).symm
 ·rw [List.getElem?_eq_none (by omega),List.getElem?_eq_none (by simp;omega)]
theorem rds_slice {P:Program} {t e:TypeId} {α:Type} {enc:α→List L} {ok:α→Prop} (ht:P.underlying t=some (.slice e)) (hc:0<P.cellsOf e) (R:RdsAs P e enc ok) (hl:∀ a,(enc a).length=P.cellsOf e) :
  RdsAs P t (fun as:List α=>[.sl (as.map enc)]) (fun as=>as.length≤maxLen∧∀ a∈as,ok a):=by
 intro H en w fuel cs x h
 rcases DataW.trod_slice ht h with ⟨rfl,_⟩ | ⟨a,len,cap,elems,rest,n,_,rfl,_,_,hlc,hcm,hel,hget,hrest,_⟩
 ·exact ⟨[],_,RepLs.single (.sle _ _ _ (by simp)),by simp,by simp⟩
 ·obtain ⟨hrl,hrg⟩:=hrest rfl
  generalize hsz:P.cellsOf e=sz at *
  by_cases h0:len=0
  ·subst h0
   exact ⟨[],_,RepLs.single (.sle _ _ _ (by simp)),by simp,by simp⟩
  ·have part:∀ (i:Nat) (l:List (DataW H × List MemPlace)) (j:Nat),(w.cells? 0 (a.add (i*sz)) sz).bind (DataW.trod en P w 0 (fun _=>true) true n e)=l[j]?→j<l.length→∃ c y,w.cells? 0 (a.add (i*sz)) sz=some c∧DataW.trod en P w 0 (fun _=>true) true n e c=some y:=fun i l j hh hj=>by
    rw [List.getElem?_eq_getElem hj,Option.bind_eq_some_iff] at hh
    obtain ⟨c,h1,h2⟩:=hh
    exact ⟨c,_,h1,h2⟩
   obtain ⟨c0,y0,hc0,_⟩:=part 0 elems 0 (hget 0 (by omega)) (by omega)
   rw [Nat.zero_mul,show a.add 0=a by simp [Addr.add]] at hc0
   obtain ⟨hsp,ds,T,fr,hb,_,_⟩:=cells_spec hc0 hc
   obtain ⟨b,off,spot⟩:=a
   dsimp only at hsp hb
   subst hsp
   have win:∀ (i:Nat) (l:List (DataW H × List MemPlace)) (j:Nat),(w.cells? 0 ((⟨b,off,none⟩:Addr).add (i*sz)) sz).bind (DataW.trod en P w 0 (fun _=>true) true n e)=l[j]?→j<l.length→off+i*sz+sz≤ds.size∧∃ y,DataW.trod en P w 0 (fun _=>true) true n e ((ds.toList.drop (off+i*sz)).take sz)=some y:=fun i l j hh hj=>by
    obtain ⟨c,y,h1,h2⟩:=part i l j hh hj
    rw [add_blk] at h1
    obtain ⟨_,ds',T',fr',hb',hs',rfl⟩:=cells_spec h1 hc
    dsimp only at hb' hs' h2
    rw [hb] at hb'
    cases hb'
    exact ⟨hs',y,h2⟩
   have hcap:off+cap*sz≤ds.size:=by
    by_cases hcl:cap=len
    ·obtain ⟨g,_⟩:=win (len - 1) elems (len - 1) (hget (len - 1) (by omega)) (by omega)
     have:(len - 1)*sz+sz=len*sz:=by rw [← Nat.succ_mul];congr 1;omega
     rw [hcl];omega
    ·obtain ⟨g,_⟩:=win (len+(cap - len - 1)) rest (cap - len - 1) (hrg (cap - len - 1) (by omega)) (by omega)
     have:(len+(cap - len - 1))*sz+sz=cap*sz:=by rw [← Nat.succ_mul];congr 1;omega
     omega
   have build:∀ k,k≤len→∃ (as:List α) (S:List Nat),as.length=k∧RepLs w false ((ds.toList.drop off).take (k*sz)) (as.map enc).flatten S∧∀ a∈as,ok a:=fun k=>by
    induction k with
    | zero=>exact fun _=>⟨[],[],rfl,by simpa using RepLs.nil false,by simp⟩
    | succ k ih =>
     intro hk
     obtain ⟨as,S,e1,e2,e3⟩:=ih (by omega)
     obtain ⟨g,y,hy⟩:=win k elems k (hget k (by omega)) (by omega)
     obtain ⟨a1,S1,r1,o1⟩:=R H en w n _ _ hy
     refine ⟨as++[a1],S++S1,by simp [e1],?_,fun q hq=>?_⟩
     ·have:(ds.toList.drop off).take ((k+1)*sz)=(ds.toList.drop off).take (k*sz)++(ds.toList.drop (off+k*sz)).take sz:=by
       rw [Nat.succ_mul,List.take_add,List.drop_drop]
      rw [this,List.map_append,List.flatten_append]
      refine e2.append ?_
      simpa using r1
     ·rcases List.mem_append.1 hq with hq | hq
      ·exact e3 q hq
      ·rw [List.mem_singleton] at hq;subst hq;exact o1
   obtain ⟨as,S,e1,e2,e3⟩:=build len (Nat.le_refl _)
   have hne:as.map enc≠[]:=by
    intro hh
    have:=congrArg List.length hh
    simp at this
    rw [this] at e1
    simp at e1
    omega
   have hrep:=RepL.sl (w:=w) false b off cap ds T fr (as.map enc) sz S hb hne hc (fun r hr=>by
    obtain ⟨q,_,rfl⟩:=List.mem_map.1 hr
    exact hl q) (by simp;omega) hcap (by rw [List.length_map,e1];exact e2)
   rw [List.length_map,e1] at hrep
   exact ⟨as,_,RepLs.single hrep,by omega,e3⟩
theorem rds_map {P:Program} {t:TypeId} {α β:Type} {enc:α→List L} {enc':β→List L} {ok:α→Prop} {ok':β→Prop} (R:RdsAs P t enc ok) (f:α→β) (h:∀ a,ok a→enc a=enc' (f a)) (ho:∀ a,ok a→ok' (f a)):RdsAs P t enc' ok':=by
 intro H en w fuel cs x hx
 obtain ⟨a,S,r,o⟩:=R H en w fuel cs x hx
 exact ⟨f a,S,h a o ▸ r,ho a o⟩
end Go.Ev


namespace Go.Ev
theorem arr_ints {H:Type} {en:TypeId × Value→H} {P:Program} {w:World} {base:Nat} {sp:Nat→Bool} {held:Bool} {fuel n:Nat} {t e:TypeId} {k:IntKind} {cs:List Value} {zs:List Int} {ps:List MemPlace} (ht:P.underlying t=some (.array n e)) (he:P.underlying e=some (.int k)) (hc:P.cellsOf e=1) (hct:P.cellsOf t=n)
  (h:DataW.trod en P w base sp held fuel t cs=some (.agg (zs.map fun z=>.lit (.int k z)),ps)):cs=zs.map fun z=>Value.int k z:=by
 obtain ⟨xs,m,_,hx,hl,hxl,hg⟩:=DataW.trod_array ht h
 simp only [Prod.mk.injEq,DataW.agg.injEq] at hx
 have hzl:zs.length=n:=by have:=congrArg List.length hx.1;simpa [hxl] using this
 refine List.ext_getElem (by simp;omega) fun i h1 h2=>?_
 have hi:i<n:=by omega
 have:=hg i hi
 rw [hc,Nat.mul_one,List.getElem?_eq_getElem (by omega)] at this
 obtain ⟨v,e1,e2,_⟩:=DataW.trod_int he this
 have hxi:(xs[i]'(by omega)).1=.lit (.int k (zs[i]'(by omega))):=by
  have:=congrArg (fun l=>l[i]?) hx.1
  simp only [List.getElem?_map] at this
  rw [List.getElem?_eq_getElem (by omega),List.getElem?_eq_getElem (by omega)] at this
  simpa using this.symm
 rw [e2] at hxi
 simp only [DataW.lit.injEq,Lit.int.injEq,true_and] at hxi
 subst hxi
 have:cs.drop i=cs[i]::cs.drop (i+1):=List.drop_eq_getElem_cons h1
 rw [this,List.take_succ_cons,List.take_zero] at e1
 simp only [List.cons.injEq,and_true] at e1
 rw [e1]
 simp
theorem rep_ints {w:World} (o:Bool) (k:IntKind) (zs:List Int):RepLs w o (zs.map fun z=>Value.int k z) (zs.map fun z=>L.int k z) []:=ints_rep o zs
theorem glob_ints {P:Program} {w:World} {g:Nat} {name:String} {cs:Array Value} {k:IntKind} {zs:List Int} (hg:P.globalNamed name=some g) (hv:w.var? P name=some cs) (hc:cs.toList=zs.map fun z=>Value.int k z) :
  ∃ cs T fr S,w.heap[g]?=some (.cells cs T fr)∧(zs.map fun z=>L.int k z).length=cs.size∧RepLs w false (cs.toList.take (zs.map fun z=>L.int k z).length) (zs.map fun z=>L.int k z) S∧∀ b∈g::S,b<w.heap.size:=by
 simp only [World.var?,hg,Option.bind_some] at hv
 split at hv<;>try (cases hv;done)
 rename_i cs' T fr hb
 cases hv
 have hl:cs.size=zs.length:=by rw [← Array.length_toList,hc,List.length_map]
 refine ⟨cs,T,fr,[],hb,by simp [hl],?_,fun b hbb=>?_⟩
 ·rw [List.length_map,← hl,List.take_of_length_le (by simp),hc]
  exact rep_ints false k zs
 ·simp only [List.mem_cons,List.not_mem_nil,or_false] at hbb
  subst hbb
  exact (Array.getElem?_eq_some_iff.1 hb).1
theorem glob_some {w:World} {g:Nat} (h:∃ cs T fr m,w.heap[g]?=some (.cells cs T fr)∧cs=#[.int .i64 m]) :
  ∃ cs T fr S,w.heap[g]?=some (.cells cs T fr)∧[L.tag 0].length=cs.size∧RepLs w false (cs.toList.take [L.tag 0].length) [L.tag 0] S∧∀ b∈g::S,b<w.heap.size:=by
 obtain ⟨cs,T,fr,m,hb,rfl⟩:=h
 refine ⟨_,T,fr,[],hb,rfl,RepLs.single (.tag _ _ _ rfl),fun b hbb=>?_⟩
 simp only [List.mem_cons,List.not_mem_nil,or_false] at hbb
 subst hbb
 exact (Array.getElem?_eq_some_iff.1 hb).1
theorem law_callsG {E:Env} {f:FuncId} {args:List Arg} {m:M} {vs:List Value} {W:World} (hc:Con E f args { rs:=[.v m false [.bool true]],outs:=[] }) (hg:GlobAt E W fun b=>b<W.heap.size)
  (hen:(callFunc f ⟨vs⟩).run E.P W=.ok (.enter f ⟨vs⟩) W) (ha:ArgsRep W (fun b=>b<W.heap.size) (fun _=>False) args vs (vs.map fun _=>[])) :
  Calls E.P f ⟨vs⟩ W fun e w'=>e=.returned (.bool true)∧RowKit.Below W.heap.size W w':=by
 have hfl:(vs.map fun _=>([]:List Nat)).flatten=[]:=by
  induction vs with
  | nil=>rfl
  | cons v vs ih=>simp
 have:=hc W (fun b=>b<W.heap.size) (fun _=>False) vs _ ha hg (fun b hb=>hb.elim id False.elim) (by rw [hfl];simp) (by rw [hfl];simp)
 rcases this with ⟨_,h⟩ | ⟨v,w',h,_⟩
 ·refine h.mono fun e w' q=>?_
  cases e with
  | returned v =>
   obtain ⟨A⟩:=q
   have hv:=A.hv
   have hr:=A.rs
   generalize hvs:A.vs=vs1 at hv hr
   generalize A.fps=fps1 at hr
   cases hr with
   | cons h1 h2 =>
    cases h2
    obtain ⟨hag,S,hrep,h5,h6⟩:=h1
    rename_i u fp
    have hrep:=hrep.weak
    have hu:u=.bool true:=by
     cases u with
     | agg fs=>simp [isAgg] at hag
     | bool b =>
      simp only [Value.cells] at hrep
      cases hrep with
      | cons _ _ _ _ _ _ _ g1 g2=>cases g1;rfl
     | _ =>
      simp only [Value.cells] at hrep
      cases hrep with
      | cons _ _ _ _ _ _ _ g1 g2=>cases g1
    subst hu
    refine ⟨by rw [hv];rfl,A.kp.os,A.kp.tape,A.kp.output,A.kp.size,fun k hk=>A.kp.block k hk ?_⟩
    rw [hfl]
    simp
  | _=>exact q.elim
 ·rw [hen] at h
  cases h
theorem arg_rds {P:Program} {t:TypeId} {α:Type} {enc:α→List L} {ok:α→Prop} (R:RdsAs P t enc ok) {H:Type} {en:TypeId × Value→H} {w:World} {fuel:Nat} {v:Value} {x:DataW H × List MemPlace} {agg:Bool} (h:DataW.trod en P w 0 (fun _=>true) true fuel t v.cells.toList=some x) (ha:isAgg v=agg) :
  ∃ a,ok a∧ArgRep w (fun b=>b<w.heap.size) (fun _=>False) v [] (.v .ro agg (enc a)):=by
 obtain ⟨a,S,r,o⟩:=R H en w fuel _ _ h
 exact ⟨a,o,rfl,S,r,ha,fun b hb=>RepLs.lt r b hb,fun h=>by cases h⟩
end Go.Ev

