/- My texts joined: EvT5, EvT6, EvT7, EvT8. No condition. -/
import Derived.Test.YtngbcdcghbapnaaGreatDoorEn1
import Derived.Test.YtngbcdcghbapnaaGreatDoorEn2
import Derived.Test.YtngbcdcghbapnaaGreatDoorEn5
import Derived.Test.YtngbcdcghbapnaaGreatDoorEn6
import Derived.Test.YtngbcdcghbapnaaGreatDoorEn7
set_option linter.unusedVariables false
set_option linter.unusedSimpArgs false

set_option maxRecDepth 100000
set_option maxHeartbeats 2000000
namespace Go.Ev
open Go.Proofs
abbrev adc (t:Nat):AV:=.ad (.c t) 0 0 0 []
theorem lp_put (m'':M) (g z:Nat→Bool) (b:Bool) (a:Code) (ha:a=lp Tryz.f65 0):∀ (n i:Nat) (f:Nat→Bool),i+n=48 →
  ∃ f',loopC E (ev E) 65 a { V:=[(2,.v m'' false [.bool b]),(3,adc 3),(6,adc 6),(9,.v .ro true (pl g)),(10,vi i)],H:=[bx (.c 3) (pl f),bx (.c 6) (pl z)],ps:=[] } =
   some (.exit 0,{ V:=[(2,.v m'' false [.bool b]),(3,adc 3),(6,adc 6),(9,.v .ro true (pl g)),(10,vi 48),(11,vb false)],H:=[bx (.c 3) (pl f'),bx (.c 6) (pl z)],ps:=[] }) ∧
   ∀ j,j<48→f' j=if i≤j∧g j=true then b else f j
 | 0,i,f,h=>by
  refine ⟨f,?_,fun j hj=>by rw [if_neg (by omega)]⟩
  rw [loopC_of _ _ _ _ ha]
  obtain rfl:i=48:=by omega
  simp [lp,loopsOf,Tryz.f65]
 | n+1,i,f,h=>by
  have hlt:i<48:=by omega
  have hI:(i:Int)<48:=by omega
  have h1:1≤48 - i:=by omega
  have hw:=wrapN i (by omega)
  have hs:=pl_set f i b hlt
  have hg:=pl_get g hlt
  cases hgi:g i with
  | true =>
   obtain ⟨f',ih,hf⟩:=lp_put m'' g z b a ha n (i+1) (updB f i b) (by omega)
   refine ⟨f',?_,fun j hj=>?_⟩
   ·push_cast at ih
    rw [loopC_of _ _ _ _ ha]
    clear ha
    rw [hgi] at hg
    simp [lp,loopsOf,Tryz.f65,hI,hw,hs,hg,h1,show i≤48 by omega]
    simpa using ih
   ·rw [hf j hj]
    by_cases e:j=i
    ·subst e;simp [hgi,updB]
    ·by_cases e2:i≤j
     ·simp [show i+1≤j by omega,e2,updB,e]
     ·simp [show ¬ i+1≤j by omega,e2,updB,e]
  | false =>
   obtain ⟨f',ih,hf⟩:=lp_put m'' g z b a ha n (i+1) f (by omega)
   refine ⟨f',?_,fun j hj=>?_⟩
   ·push_cast at ih
    rw [loopC_of _ _ _ _ ha]
    clear ha
    rw [hgi] at hg
    simp [lp,loopsOf,Tryz.f65,hI,hw,hs,hg,h1,show i≤48 by omega]
    simpa using ih
   ·rw [hf j hj]
    by_cases e:j=i
    ·subst e;simp [hgi]
    ·by_cases e2:i≤j
     ·simp [show i+1≤j by omega,e2]
     ·simp [show ¬ i+1≤j by omega,e2]
theorem ev_put (m m' m'':M) (f g:Nat→Bool) (b:Bool):ev E 65 [.v m true (pl f),.v m' true (pl g),.v m'' false [.bool b]]=some { rs:=[.v .own true (pl fun j=>if g j=true then b else f j)],outs:=[] }:=by
 obtain ⟨f',hl,hf⟩:=lp_put m'' g (fun _=>false) b _ rfl 48 0 f (by omega)
 have:pl (fun j=>if g j=true then b else f j)=pl f':=pl_congr fun j hj=>by rw [hf j hj];simp
 rw [this]
 rw [ev_fn Tryz.f65 rfl Tryz.func65 rfl rfl rfl (Nat.le_of_ble_eq_true rfl)]
 push_cast at hl
 simp [pl_ff]
 rw [loopC_at ?_ hl]
 ·simp
 ·rfl
theorem lp_meet (g z:Nat→Bool) (a:Code) (ha:a=lp Tryz.f66 0):∀ (n i:Nat) (f:Nat→Bool),i+n=48 →
  ∃ f',loopC E (ev E) 66 a { V:=[(2,adc 2),(4,adc 4),(7,.v .ro true (pl g)),(8,vi i)],H:=[bx (.c 2) (pl f),bx (.c 4) (pl z)],ps:=[] } =
   some (.exit 0,{ V:=[(2,adc 2),(4,adc 4),(7,.v .ro true (pl g)),(8,vi 48),(9,vb false)],H:=[bx (.c 2) (pl f'),bx (.c 4) (pl z)],ps:=[] }) ∧
   ∀ j,j<48→f' j=if i≤j then (f j&&g j) else f j
 | 0,i,f,h=>by
  refine ⟨f,?_,fun j hj=>by rw [if_neg (by omega)]⟩
  rw [loopC_of _ _ _ _ ha]
  obtain rfl:i=48:=by omega
  simp [lp,loopsOf,Tryz.f66]
 | n+1,i,f,h=>by
  have hlt:i<48:=by omega
  have hI:(i:Int)<48:=by omega
  have h1:1≤48 - i:=by omega
  have hw:=wrapN i (by omega)
  have hs:=pl_set f i (f i&&g i) hlt
  have hg:=pl_get g hlt
  have ht:=pl_take f hlt
  obtain ⟨f',ih,hf⟩:=lp_meet g z a ha n (i+1) (updB f i (f i&&g i)) (by omega)
  refine ⟨f',?_,fun j hj=>?_⟩
  ·push_cast at ih
   rw [loopC_of _ _ _ _ ha]
   clear ha
   cases hfi:f i<;>rw [hfi] at hs ht ih<;>simp at hs ih
   ·simp [lp,loopsOf,Tryz.f66,hI,hw,hs,hg,h1,show i≤48 by omega,ht]
    simpa using ih
   ·simp [lp,loopsOf,Tryz.f66,hI,hw,hs,hg,h1,show i≤48 by omega,ht]
    simpa using ih
  ·rw [hf j hj]
   by_cases e:j=i
   ·subst e;simp [updB]
   ·by_cases e2:i≤j
    ·simp [show i+1≤j by omega,e2,updB,e]
    ·simp [show ¬ i+1≤j by omega,e2,updB,e]
theorem ev_meet (m m':M) (f g:Nat→Bool):ev E 66 [.v m true (pl f),.v m' true (pl g)]=some { rs:=[.v .own true (pl fun j=>f j&&g j)],outs:=[] }:=by
 obtain ⟨f',hl,hf⟩:=lp_meet g (fun _=>false) _ rfl 48 0 f (by omega)
 have:pl (fun j=>f j&&g j)=pl f':=pl_congr fun j hj=>by rw [hf j hj];simp
 rw [this]
 rw [ev_fn Tryz.f66 rfl Tryz.func66 rfl rfl rfl (Nat.le_of_ble_eq_true rfl)]
 push_cast at hl
 simp [pl_ff]
 rw [loopC_at ?_ hl]
 ·simp
 ·rfl
def eqSp (s t:Sp):Bool:=eqI s.1 t.1&&eqI s.2 t.2
theorem eqSp_iff {s t:Sp}:eqSp s t=true↔s=t:=by
 obtain ⟨a,b⟩:=s
 obtain ⟨c,d⟩:=t
 simp [eqSp,eqI]
def eqFrom (xs ys:List Sp):Nat→Nat→Bool
 | 0,_=>true
 | n+1,i=>eqSp (xs.getD i (0,0)) (ys.getD i (0,0))&&eqFrom xs ys n (i+1)
theorem eqFrom_iff (xs ys:List Sp):∀ (n i:Nat),eqFrom xs ys n i=true↔∀ j,i≤j→j<i+n→xs.getD j (0,0)=ys.getD j (0,0)
 | 0,i=>by simp [eqFrom];omega
 | n+1,i=>by
  simp only [eqFrom,Bool.and_eq_true,eqSp_iff,eqFrom_iff xs ys n (i+1)]
  constructor
  ·intro ⟨h1,h2⟩ j hj hk
   by_cases e:j=i
   ·subst e;exact h1
   ·exact h2 j (by omega) (by omega)
  ·intro h
   exact ⟨h i (by omega) (by omega),fun j hj hk=>h j (by omega) (by omega)⟩
theorem eqFrom_all {xs ys:List Sp} (h:xs.length=ys.length):eqFrom xs ys xs.length 0=decide (xs=ys):=by
 rw [Bool.eq_iff_iff,eqFrom_iff]
 simp only [decide_eq_true_eq]
 constructor
 ·intro hj
  refine List.ext_getElem h fun i h1 h2=>?_
  have:=hj i (by omega) (by omega)
  simpa [h1,h2] using this
 ·rintro rfl
  intros;rfl
@[simp] theorem eqAgg_Span:eqAgg Tryz.prog 36=true:=by kernel_rfl
@[simp] theorem shape_Span (a b:Int):shapeT Tryz.prog 8 36 [.int .i64 a,.int .i64 b]=true:=by simp [shapeT,shapeFs]
theorem lp_Equal (m m':M) (xs ys:List Sp) (hl:xs.length=ys.length) (hb:ys.length≤1099511627776) (a:Code) (ha:a=lp Tryz.f81 0):∀ (n i:Nat),i+n=ys.length →
  loopC E (ev E) 81 a { V:=[(0,.v m false [.sl (xs.map spL)]),(1,.v m' false [.sl (ys.map spL)]),(12,vi ys.length),(13,vi i)],H:=[],ps:=[] } =
   if eqFrom xs ys n i then some (.exit 0,{ V:=[(0,.v m false [.sl (xs.map spL)]),(1,.v m' false [.sl (ys.map spL)]),(12,vi ys.length),(13,vi ys.length),(14,vb false)],H:=[],ps:=[] })
   else some (.ret,{ V:=[(4,vb false)],H:=[],ps:=[] })
 | 0,i,h=>by
  rw [loopC_of _ _ _ _ ha]
  obtain rfl:i=ys.length:=by omega
  simp [lp,loopsOf,Tryz.f81,eqFrom]
 | n+1,i,h=>by
  have hlt:i<ys.length:=by omega
  have hlx:i<xs.length:=by omega
  have ih:=lp_Equal m m' xs ys hl hb a ha n (i+1) (by omega)
  push_cast at ih
  have hw:=wrapN i (by omega)
  rw [loopC_of _ _ _ _ ha,eqFrom]
  have h1:xs.getD i (0,0)=xs[i]:=by simp [hlx]
  have h2:ys.getD i (0,0)=ys[i]:=by simp [hlt]
  rw [h1,h2]
  clear ha h1 h2
  generalize eqFrom xs ys n (i+1)=r at ih ⊢
  cases e1:eqI xs[i].1 ys[i].1<;>cases e2:eqI xs[i].2 ys[i].2 <;>
   simp [lp,loopsOf,Tryz.f81,hlt,hlx,hw,eqSp,e1,e2,ih]
theorem ev_Equal (m m':M) (xs ys:List Sp) (hb:ys.length≤1099511627776):ev E 81 [.v m false [.sl (xs.map spL)],.v m' false [.sl (ys.map spL)]]=some (rB (decide (xs=ys))):=by
 rw [ev_fn Tryz.f81 rfl Tryz.func81 rfl rfl rfl (Nat.le_of_ble_eq_true rfl)]
 by_cases h:xs.length=ys.length
 ·have hl:=fun a ha=>lp_Equal m m' xs ys h hb a ha ys.length 0 (by omega)
  rw [← h,eqFrom_all h,h] at hl
  push_cast at hl
  simp [h]
  rw [hl _ ?_]
  ·by_cases e:xs=ys<;>simp [e]
  ·rfl
 ·have e:¬ xs=ys:=fun e=>h (by rw [e])
  have e2:eqI xs.length ys.length=false:=by simp [eqI];omega
  simp [e2,e]
set_option maxRecDepth 100000
set_option maxHeartbeats 2000000
abbrev at1 (t:Nat):AV:=.at (.c t) 0 0 0 [] 1 false
abbrev ow (r:Root) (ls:List L):Root × HC:=(r,{ box:=false,wr:=true,m:=.own,ls,e0:=0,e1:=0 })
def runEnd (f:Nat→Bool):Nat→Nat→Nat
 | 0,i=>i
 | n+1,i=>if f i=true then runEnd f n (i+1) else i
theorem runEnd_le (f:Nat→Bool):∀ n i,i≤runEnd f n i∧runEnd f n i≤i+n
 | 0,i=>by simp [runEnd]
 | n+1,i=>by
  have:=runEnd_le f n (i+1)
  simp only [runEnd]
  split<;>omega
def spansF (f:Nat→Bool):Nat→Nat→List Sp
 | 0,_=>[]
 | n+1,i=>if i<48 then (if f i=true then ((i:Int),(runEnd f (48 - i) i:Int))::spansF f n (runEnd f (48 - i) i+1) else spansF f n (i+1)) else []
theorem lp_spans1 (f:Nat→Bool) (out:List Sp) (k:Int) (a:Code) (ha:a=lp Tryz.f244 1):∀ (n i:Nat),i+n=48 →
  loopC E (ev E) 244 a { V:=[(1,adc 1),(3,at1 3),(4,vi i),(5,vi k)],H:=[bx (.c 1) (pl f),ow (.c 3) [.sl (out.map spL)]],ps:=[] } =
   some (.exit 2,{ V:=[(1,adc 1),(3,at1 3),(4,vi (runEnd f n i)),(5,vi k),(22,vb false)],H:=[bx (.c 1) (pl f),ow (.c 3) [.sl (out.map spL)]],ps:=[] })
 | 0,i,h=>by
  rw [loopC_of _ _ _ _ ha]
  obtain rfl:i=48:=by omega
  simp [lp,loopsOf,Tryz.f244,runEnd]
 | n+1,i,h=>by
  have hlt:i<48:=by omega
  have hI:(i:Int)<48:=by omega
  have h1:1≤48 - i:=by omega
  have hw:=wrapN i (by omega)
  have ht:=pl_take f hlt
  have ih:=lp_spans1 f out k a ha n (i+1) (by omega)
  push_cast at ih
  rw [loopC_of _ _ _ _ ha]
  clear ha
  cases hfi:f i<;>rw [hfi] at ht<;>simp [lp,loopsOf,Tryz.f244,hI,hw,h1,show i≤48 by omega,ht,runEnd,hfi,ih]
theorem lp_spans0 (f:Nat→Bool) (a:Code) (ha:a=lp Tryz.f244 0):∀ (n i:Nat) (out:List Sp),48≤i+n→i≤49→out.length+n≤60 →
  ∃ k,loopC E (ev E) 244 a { V:=[(1,adc 1),(3,at1 3),(4,vi i)],H:=[bx (.c 1) (pl f),ow (.c 3) [.sl (out.map spL)]],ps:=[] } =
   some (.exit 0,{ V:=[(1,adc 1),(3,at1 3),(4,vi k),(8,vb false)],H:=[bx (.c 1) (pl f),ow (.c 3) [.sl ((out++spansF f n i).map spL)]],ps:=[] })
 | 0,i,out,h,h9,hb=>by
  refine ⟨i,?_⟩
  rw [loopC_of _ _ _ _ ha]
  have hI:(48:Int)≤i:=by omega
  simp [lp,loopsOf,Tryz.f244,spansF,hI]
 | n+1,i,out,h,h9,hb=>by
  by_cases hlt:i<48
  ·have hI:(i:Int)<48:=by omega
   have h1:1≤48 - i:=by omega
   have hw:=wrapN i (by omega)
   have ht:=pl_take f hlt
   cases hfi:f i with
   | false =>
    obtain ⟨k,ih⟩:=lp_spans0 f a ha n (i+1) out (by omega) (by omega) (by omega)
    refine ⟨k,?_⟩
    push_cast at ih
    rw [loopC_of _ _ _ _ ha]
    clear ha
    rw [hfi] at ht
    simp [lp,loopsOf,Tryz.f244,hI,hw,h1,show i≤48 by omega,ht,spansF,hfi,hlt]
    simpa using ih
   | true =>
    have he:=runEnd_le f (48 - i) i
    have hin:=fun a ha=>lp_spans1 f out i a ha (48 - i) i (by omega)
    generalize hee:runEnd f (48 - i) i=e at he hin
    have hei:i<e:=by
     have:48 - i=(47 - i)+1:=by omega
     rw [this,runEnd,if_pos hfi] at hee
     have:=runEnd_le f (47 - i) (i+1)
     omega
    obtain ⟨k,ih⟩:=lp_spans0 f a ha n (e+1) (out++[((i:Int),(e:Int))]) (by omega) (by omega) (by simp;omega)
    refine ⟨k,?_⟩
    have hw2:=wrapN e (by omega)
    have hsz:(out.length+1)*16≤17592186044416:=by omega
    have hsz2:out.length+1≤17592186044416:=by omega
    push_cast at ih
    rw [loopC_of _ _ _ _ ha]
    clear ha
    rw [hfi] at ht
    simp [lp,loopsOf,Tryz.f244,hI,hw,h1,show i≤48 by omega,ht,spansF,hfi,hlt,hee]
    rw [hin _ ?_]
    ·simp [hw2,hsz,hsz2]
     simpa using ih
    ·rfl
  ·refine ⟨i,?_⟩
   rw [loopC_of _ _ _ _ ha]
   have hI:(48:Int)≤i:=by omega
   simp [lp,loopsOf,Tryz.f244,spansF,hI,hlt]
theorem ev_spans (m:M) (f:Nat→Bool):ev E 244 [.v m true (pl f)]=some { rs:=[.v .own false [.sl ((spansF f 48 0).map spL)]],outs:=[] }:=by
 obtain ⟨k,hl⟩:=lp_spans0 f _ rfl 48 0 [] (by omega) (by omega) (by simp)
 rw [ev_fn Tryz.f244 rfl Tryz.func244 rfl rfl rfl (Nat.le_of_ble_eq_true rfl)]
 push_cast at hl
 simp
 rw [loopC_at ?_ (by simpa using hl)]
 ·simp
 ·rfl
set_option maxRecDepth 100000
set_option maxHeartbeats 2000000
def plR (f:Nat→Bool) (n:Nat):List (List L):=(List.range n).map fun i=>[L.bool (f i)]
@[simp] theorem plR_length (f:Nat→Bool) (n:Nat):(plR f n).length=n:=by simp [plR]
theorem plR_succ (f:Nat→Bool) (n:Nat):plR f n++[[.bool (f n)]]=plR f (n+1):=by simp [plR,List.range_succ]
theorem plR_get (f:Nat→Bool) {n i:Nat} (h:i<n):(plR f n)[i]?=some [.bool (f i)]:=by simp [plR,h]
@[simp] theorem plR_getE (f:Nat→Bool) {n i:Nat} (h:i<(plR f n).length):(plR f n)[i]=[.bool (f i)]:=by simp [plR]
@[simp] theorem plR_rows (f:Nat→Bool) (n:Nat):((plR f n).all fun r=>decide (r.length=1))=true:=by simp [plR]
@[simp] theorem plR_zero (f:Nat→Bool):plR f 0=[]:=rfl
theorem plR_congr {f g:Nat→Bool} {n:Nat} (h:∀ i,i<n→f i=g i):plR f n=plR g n:=by
 unfold plR
 exact List.map_congr_left fun i hi=>by rw [h i (List.mem_range.1 hi)]
theorem plR_set (f:Nat→Bool) (n i:Nat) (v:Bool) (h:i<n):(plR f n).set i [.bool v]=plR (updB f i v) n:=by
 refine List.ext_getElem? fun j=>?_
 by_cases hj:j<n
 ·rw [plR_get _ hj,List.getElem?_set]
  by_cases e:i=j
  ·subst e;simp [updB,h]
  ·simp [e,updB,Ne.symm e,plR_get f hj]
 ·rw [List.getElem?_eq_none (by simp;omega),List.getElem?_eq_none (by simp;omega)]
theorem lp_l1Places (m:M) (xs:List Sp) (hb:xs.length≤1099511627776) (a:Code) (ha:a=lp Tryz.f263 0):∀ (n i:Nat),i+n=48 →
  loopC E (ev E) 263 a { V:=[(0,.v m false [.sl (xs.map spL)]),(3,at1 3),(4,vi i)],H:=[ow (.c 3) [.sl (plR (fun j=>xs.any (inSp j)) i)]],ps:=[] } =
   some (.exit 0,{ V:=[(0,.v m false [.sl (xs.map spL)]),(3,at1 3),(4,vi 48),(7,vb false)],H:=[ow (.c 3) [.sl (plR (fun j=>xs.any (inSp j)) 48)]],ps:=[] })
 | 0,i,h=>by
  rw [loopC_of _ _ _ _ ha]
  obtain rfl:i=48:=by omega
  simp [lp,loopsOf,Tryz.f263]
 | n+1,i,h=>by
  have hI:(i:Int)<48:=by omega
  have hw:=wrapN i (by omega)
  have ih:=lp_l1Places m xs hb a ha n (i+1) (by omega)
  rw [← plR_succ] at ih
  push_cast at ih
  have hsz:i+1≤17592186044416:=by omega
  rw [loopC_of _ _ _ _ ha]
  clear ha
  have hc:=fun m m'=>ev_spec_l1In m m' xs i hb
  simp [lp,loopsOf,Tryz.f263,hI,hw,hc,hsz]
  simpa using ih
theorem ev_l1Places (m:M) (xs:List Sp) (hb:xs.length≤1099511627776):ev E 263 [.v m false [.sl (xs.map spL)]]=some { rs:=[.v .own false [.sl (plR (fun j=>xs.any (inSp j)) 48)]],outs:=[] }:=by
 rw [ev_fn Tryz.f263 rfl Tryz.func263 rfl rfl rfl (Nat.le_of_ble_eq_true rfl)]
 have hl:=lp_l1Places m xs hb _ rfl 48 0 (by omega)
 push_cast at hl
 rw [plR_zero] at hl
 simp
 rw [loopC_at ?_ hl]
 ·simp
 ·rfl
def ofStep (out:List Sp) (i:Nat) (b:Bool):List Sp :=
 if b=true then
  match out.getLast? with
  | some (lo,hi)=>if eqI hi i=true then out.dropLast++[(lo,(i:Int)+1)] else out++[((i:Int),(i:Int)+1)]
  | none=>[((i:Int),(i:Int)+1)]
 else out
def ofL (f:Nat→Bool):Nat→Nat→List Sp→List Sp
 | 0,_,out=>out
 | n+1,i,out=>ofL f n (i+1) (ofStep out i (f i))
theorem ofStep_len (out:List Sp) (i:Nat) (b:Bool):(ofStep out i b).length≤out.length+1:=by
 unfold ofStep
 rcases List.eq_nil_or_concat out with rfl | ⟨pre,x,rfl⟩
 ·cases b<;>simp
 ·cases b
  ·simp
  ·simp only [if_true,List.concat_eq_append,List.getLast?_append,List.getLast?_singleton,Option.or_some,Option.some_or]
   split<;>simp
theorem lp_l1Of (m:M) (f:Nat→Bool) (N:Nat) (hN:N≤4000000) (a:Code) (ha:a=lp Tryz.f264 0):∀ (n i:Nat) (out:List Sp),i+n=N→out.length≤i →
  loopC E (ev E) 264 a { V:=[(0,.v m false [.sl (plR f N)]),(3,at1 3),(4,vi i)],H:=[ow (.c 3) [.sl (out.map spL)]],ps:=[] } =
   some (.exit 0,{ V:=[(0,.v m false [.sl (plR f N)]),(3,at1 3),(4,vi N),(10,vb false)],H:=[ow (.c 3) [.sl ((ofL f n i out).map spL)]],ps:=[] })
 | 0,i,out,h,hb=>by
  rw [loopC_of _ _ _ _ ha]
  obtain rfl:i=N:=by omega
  simp [lp,loopsOf,Tryz.f264,ofL]
 | n+1,i,out,h,hb=>by
  have hlt:i<N:=by omega
  have hw:=wrapN i (by omega)
  have hg:=plR_get f hlt
  have hsz:(out.length+1)*16≤17592186044416:=by omega
  have hsz2:out.length+1≤17592186044416:=by omega
  have ih:=lp_l1Of m f N hN a ha n (i+1) (ofStep out i (f i)) (by omega) (by have:=ofStep_len out i (f i);omega)
  push_cast at ih
  rw [loopC_of _ _ _ _ ha,ofL]
  clear ha
  cases hfi:f i with
  | false =>
   rw [hfi] at hg ih
   simp [lp,loopsOf,Tryz.f264,hlt,hw,hg,hfi]
   simpa [ofStep] using ih
  | true =>
   rw [hfi] at hg ih
   rcases List.eq_nil_or_concat out with rfl | ⟨pre,⟨lo,hi⟩,rfl⟩
   ·simp [lp,loopsOf,Tryz.f264,hlt,hw,hg,hfi]
    simpa [ofStep] using ih
   ·have h1:ltI 0 ((pre.length:Int)+1)=true:=by simp only [ltI,decide_eq_true_eq];omega
    have hw2:IntKind.i64.wrap (pre.length:Int)=(pre.length:Int):=by rw [wrap64];simp at hb;omega
    have hg2:(pre.map spL++[spL (lo,hi)])[pre.length]?=some [L.int .i64 lo,L.int .i64 hi]:=by simp
    have hs2:∀ q,(pre.map spL++[spL (lo,hi)]).set pre.length q=pre.map spL++[q]:=fun q=>by
     have:(pre.map spL).length=pre.length:=by simp
     rw [← this]
     simp
    cases he:eqI hi i with
    | true =>
     simp [ofStep,he] at ih
     simp at hsz hsz2
     simp [lp,loopsOf,Tryz.f264,hlt,hw,hg,hfi,h1,hw2,hg2,he,hs2]
     simp [ofStep,he]
     exact ih
    | false =>
     simp [ofStep,he] at ih
     simp at hsz hsz2
     simp [lp,loopsOf,Tryz.f264,hlt,hw,hg,hfi,h1,hw2,hg2,he,hsz,hsz2]
     simp [ofStep,he]
     exact ih
theorem ev_l1Of (m:M) (f:Nat→Bool) (N:Nat) (hN:N≤4000000):ev E 264 [.v m false [.sl (plR f N)]]=some { rs:=[.v .own false [.sl ((ofL f N 0 []).map spL)]],outs:=[] }:=by
 rw [ev_fn Tryz.f264 rfl Tryz.func264 rfl rfl rfl (Nat.le_of_ble_eq_true rfl)]
 have hl:=lp_l1Of m f N hN _ rfl N 0 [] (by omega) (by simp)
 push_cast at hl
 rw [List.map_nil] at hl
 simp
 rw [loopC_at ?_ hl]
 ·simp
 ·rfl
set_option maxRecDepth 100000
set_option maxHeartbeats 4000000
def fillV (v:Bool) (f:Nat→Bool):Nat→Nat→(Nat→Bool)
 | 0,_=>f
 | n+1,i=>fillV v (updB f i v) n (i+1)
theorem fillV_get (v:Bool) (n:Nat):∀ (f:Nat→Bool) (i j:Nat),fillV v f n i j=if i≤j∧j<i+n then v else f j:=by
 induction n with
 | zero=>intro f i j;rw [if_neg (by omega)];rfl
 | succ n ih =>
  intro f i j
  simp only [fillV,ih,updB]
  by_cases h:j=i
  ·subst h;simp
  ·by_cases h2:i≤j∧j<i+(n+1)
   ·rw [if_pos h2,if_pos (by omega)]
   ·rw [if_neg h2,if_neg (by omega),if_neg h]
theorem lp_spec_l1Add (m:M) (xs:List Sp) (lo:Int) (hi:Nat) (hhi:hi≤48) (a:Code) (ha:a=lp Tryz.f238 0):∀ (n i:Nat) (f:Nat→Bool),i+n=hi →
  loopC E (ev E) 238 a { V:=[(3,adc 3),(5,at1 5),(6,vi i)],H:=[bx (.c 3) [.int .i64 lo,.int .i64 hi],ow (.c 5) [.sl (plR f 48)]],ps:=[] } =
   some (.exit 0,{ V:=[(3,adc 3),(5,at1 5),(6,vi hi),(14,vb false)],H:=[bx (.c 3) [.int .i64 lo,.int .i64 hi],ow (.c 5) [.sl (plR (fillV true f n i) 48)]],ps:=[] })
 | 0,i,f,h=>by
  rw [loopC_of _ _ _ _ ha]
  obtain rfl:i=hi:=by omega
  simp [lp,loopsOf,Tryz.f238,fillV]
 | n+1,i,f,h=>by
  have hlt:i<hi:=by omega
  have hl2:i<48:=by omega
  have hw:=wrapN i (by omega)
  have hs:=plR_set f 48 i true hl2
  have ih:=lp_spec_l1Add m xs lo hi hhi a ha n (i+1) (updB f i true) (by omega)
  push_cast at ih
  rw [loopC_of _ _ _ _ ha]
  clear ha
  simp [lp,loopsOf,Tryz.f238,hlt,hw,hl2,hs,fillV]
  simpa using ih
theorem ev_spec_l1Add (m m':M) (xs:List Sp) (s:Sp) (hb:xs.length≤1099511627776) (h1:0≤s.1) (h2:s.1≤s.2) (h3:s.2≤48) :
  ev E 238 [.v m false [.sl (xs.map spL)],.v m' true (spL s)]=some { rs:=[.v .own false [.sl ((ofL (fun j=>if inSp j s=true then true else xs.any (inSp j)) 48 0 []).map spL)]],outs:=[] }:=by
 obtain ⟨lo',hi'⟩:=s
 obtain ⟨lo,rfl⟩:∃ lo:Nat,lo'=lo:=⟨lo'.toNat,by simp at h1;omega⟩
 obtain ⟨hi,rfl⟩:∃ hi:Nat,hi'=hi:=⟨hi'.toNat,by simp at h1 h2;omega⟩
 have hl:=lp_spec_l1Add m xs lo hi (by simp at h3;omega) _ rfl (hi - lo) lo (fun j=>xs.any (inSp j)) (by simp at h2;omega)
 have hc:=fun m=>ev_l1Places m xs hb
 have ho:=fun m f=>ev_l1Of m f 48 (by omega)
 have:plR (fun j=>if inSp j ((lo:Int),(hi:Int))=true then true else xs.any (inSp j)) 48=plR (fillV true (fun j=>xs.any (inSp j)) (hi - lo) lo) 48:=plR_congr fun j hj=>by
  rw [fillV_get]
  have:(inSp j ((lo:Int),(hi:Int))=true)=(lo≤j∧j<lo+(hi - lo)):=by
   simp only [inSp,ltI,Bool.and_eq_true,Bool.not_eq_true',decide_eq_false_iff_not,decide_eq_true_eq,eq_iff_iff]
   simp at h2
   omega
  simp only [this]
 have hof:ev E 264 [.v .tn false [.sl (plR (fillV true (fun j=>xs.any (inSp j)) (hi - lo) lo) 48)]]=some { rs:=[.v .own false [.sl ((ofL (fun j=>if inSp j ((lo:Int),(hi:Int))=true then true else xs.any (inSp j)) 48 0 []).map spL)]],outs:=[] }:=by
  rw [← this,ho]
 rw [ev_fn Tryz.f238 rfl Tryz.func238 rfl rfl rfl (Nat.le_of_ble_eq_true rfl)]
 push_cast at hl
 simp [hc]
 rw [loopC_at ?_ hl]
 ·simp [hof]
 ·rfl
theorem lp_spec_l1Cut (m:M) (xs:List Sp) (lo:Int) (hi:Nat) (hhi:hi≤48) (a:Code) (ha:a=lp Tryz.f236 0):∀ (n i:Nat) (f:Nat→Bool),i+n=hi →
  loopC E (ev E) 236 a { V:=[(3,adc 3),(5,at1 5),(6,vi i)],H:=[bx (.c 3) [.int .i64 lo,.int .i64 hi],ow (.c 5) [.sl (plR f 48)]],ps:=[] } =
   some (.exit 0,{ V:=[(3,adc 3),(5,at1 5),(6,vi hi),(14,vb false)],H:=[bx (.c 3) [.int .i64 lo,.int .i64 hi],ow (.c 5) [.sl (plR (fillV false f n i) 48)]],ps:=[] })
 | 0,i,f,h=>by
  rw [loopC_of _ _ _ _ ha]
  obtain rfl:i=hi:=by omega
  simp [lp,loopsOf,Tryz.f236,fillV]
 | n+1,i,f,h=>by
  have hlt:i<hi:=by omega
  have hl2:i<48:=by omega
  have hw:=wrapN i (by omega)
  have hs:=plR_set f 48 i false hl2
  have ih:=lp_spec_l1Cut m xs lo hi hhi a ha n (i+1) (updB f i false) (by omega)
  push_cast at ih
  rw [loopC_of _ _ _ _ ha]
  clear ha
  simp [lp,loopsOf,Tryz.f236,hlt,hw,hl2,hs,fillV]
  simpa using ih
theorem ev_spec_l1Cut (m m':M) (xs:List Sp) (s:Sp) (hb:xs.length≤1099511627776) (h1:0≤s.1) (h2:s.1≤s.2) (h3:s.2≤48) :
  ev E 236 [.v m false [.sl (xs.map spL)],.v m' true (spL s)]=some { rs:=[.v .own false [.sl ((ofL (fun j=>if inSp j s=true then false else xs.any (inSp j)) 48 0 []).map spL)]],outs:=[] }:=by
 obtain ⟨lo',hi'⟩:=s
 obtain ⟨lo,rfl⟩:∃ lo:Nat,lo'=lo:=⟨lo'.toNat,by simp at h1;omega⟩
 obtain ⟨hi,rfl⟩:∃ hi:Nat,hi'=hi:=⟨hi'.toNat,by simp at h1 h2;omega⟩
 have hl:=lp_spec_l1Cut m xs lo hi (by simp at h3;omega) _ rfl (hi - lo) lo (fun j=>xs.any (inSp j)) (by simp at h2;omega)
 have hc:=fun m=>ev_l1Places m xs hb
 have ho:=fun m f=>ev_l1Of m f 48 (by omega)
 have:plR (fun j=>if inSp j ((lo:Int),(hi:Int))=true then false else xs.any (inSp j)) 48=plR (fillV false (fun j=>xs.any (inSp j)) (hi - lo) lo) 48:=plR_congr fun j hj=>by
  rw [fillV_get]
  have:(inSp j ((lo:Int),(hi:Int))=true)=(lo≤j∧j<lo+(hi - lo)):=by
   simp only [inSp,ltI,Bool.and_eq_true,Bool.not_eq_true',decide_eq_false_iff_not,decide_eq_true_eq,eq_iff_iff]
   simp at h2
   omega
  simp only [this]
 have hof:ev E 264 [.v .tn false [.sl (plR (fillV false (fun j=>xs.any (inSp j)) (hi - lo) lo) 48)]]=some { rs:=[.v .own false [.sl ((ofL (fun j=>if inSp j ((lo:Int),(hi:Int))=true then false else xs.any (inSp j)) 48 0 []).map spL)]],outs:=[] }:=by
  rw [← this,ho]
 rw [ev_fn Tryz.f236 rfl Tryz.func236 rfl rfl rfl (Nat.le_of_ble_eq_true rfl)]
 push_cast at hl
 simp [hc]
 rw [loopC_at ?_ hl]
 ·simp [hof]
 ·rfl
end Go.Ev

