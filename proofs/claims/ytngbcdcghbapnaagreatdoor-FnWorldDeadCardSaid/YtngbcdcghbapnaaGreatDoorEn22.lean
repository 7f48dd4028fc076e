/- My texts joined: EvT64, EvT65. No condition. -/
import Derived.Test.YtngbcdcghbapnaaGreatDoorEn1
import Derived.Test.YtngbcdcghbapnaaGreatDoorEn2
import Derived.Test.YtngbcdcghbapnaaGreatDoorEn5
import Derived.Test.YtngbcdcghbapnaaGreatDoorEn6
import Derived.Test.YtngbcdcghbapnaaGreatDoorEn7
import Derived.Test.YtngbcdcghbapnaaGreatDoorEn8
import Derived.Test.YtngbcdcghbapnaaGreatDoorEn9
import Derived.Test.YtngbcdcghbapnaaGreatDoorEn10
import Derived.Test.YtngbcdcghbapnaaGreatDoorEn11
import Derived.Test.YtngbcdcghbapnaaGreatDoorEn12
import Derived.Test.YtngbcdcghbapnaaGreatDoorEn13
import Derived.Test.YtngbcdcghbapnaaGreatDoorEn14
import Derived.Test.YtngbcdcghbapnaaGreatDoorEn16
import Derived.Test.YtngbcdcghbapnaaGreatDoorEn17
import Derived.Test.YtngbcdcghbapnaaGreatDoorEn18
import Derived.Test.YtngbcdcghbapnaaGreatDoorEn19
import Derived.Test.YtngbcdcghbapnaaGreatDoorEn20
import Derived.Test.YtngbcdcghbapnaaGreatDoorEn21
set_option linter.unusedVariables false
set_option linter.unusedSimpArgs false

set_option maxRecDepth 100000
set_option maxHeartbeats 4000000
namespace Go.Ev
open Go.Proofs
def barsP (h:HoldT) (write:Bool):Nat→Bool:=if write=true then orP (inF h.w) (inF h.r) else inF h.w
theorem clear_one {a:List Sp} {s:Sp} (ha:spsOk a=true) (hs:spOk s=true):clearS a [s]=noneP (andP (inF a) (inF [s])):=by
 rw [Bool.eq_iff_iff,clearS_iff (spsOk_sp ha) (fun p hp=>by simp only [List.mem_singleton] at hp;subst hp;exact spOk_iff.1 hs),apart48 ha,noneP_iff]
 simp only [Bool.and_eq_true,andP,← Bool.not_eq_true]
theorem barsP_eq {h:HoldT} {write:Bool} {s:Sp} (hr:spsOk h.r=true) (hw:spsOk h.w=true) (hs:spOk s=true):(!noneP (andP (barsP h write) (inF [s])))=(!clearS h.w [s] || (write&&!clearS h.r [s])):=by
 rw [clear_one hr hs,clear_one hw hs]
 have hn:∀ f:Nat→Bool,(!noneP f)=true↔∃ j,j<48∧f j=true:=fun f=>by
  rw [Bool.not_eq_true',← Bool.not_eq_true,noneP_iff]
  simp only [Classical.not_forall,Bool.not_eq_false,exists_prop]
 rw [Bool.eq_iff_iff,Bool.or_eq_true,Bool.and_eq_true,hn,hn,hn]
 simp only [andP,Bool.and_eq_true]
 cases write
 ·simp [barsP]
 ·simp only [barsP,if_true,orP_eq,Bool.or_eq_true,true_and]
  constructor
  ·rintro ⟨j,hj,h1 | h1,h2⟩
   ·exact .inl ⟨j,hj,h1,h2⟩
   ·exact .inr ⟨j,hj,h1,h2⟩
  ·rintro (⟨j,hj,h1,h2⟩ | ⟨j,hj,h1,h2⟩)
   ·exact ⟨j,hj,.inl h1,h2⟩
   ·exact ⟨j,hj,.inr h1,h2⟩
def barsF (p:Nat→Bool):Nat→Nat→List Int
 | 0,_=>[]
 | n+1,i=>if p i=true then (i:Int)::barsF p n (i+1) else barsF p n (i+1)
theorem barsF_eq (p:Nat→Bool):barsF p 3 0=((List.range 3).filter p).map (fun k:Nat=>(k:Int)):=by
 have:List.range 3=[0,1,2]:=rfl
 rw [this]
 simp only [barsF,List.filter_cons,List.filter_nil]
 cases p 0<;>cases p 1<;>cases p 2<;>rfl
theorem lp_iLockBars (m m1 m2:M) (hm:m.isOwn=false) (t:List HoldT) (P:LockP t) (who:Nat) (write:Bool) (s:Sp) (hs:spOk s=true) (a:Code) (ha:a=lp Tryz.f19 0):∀ (n i:Nat) (out:List Int),i+n=3→out.length≤i →
  loopC E (ev E) 19 a { V:=[(1,.v m1 false [.int .i64 who]),(2,.v m2 false [.bool write]),(7,adc 7),(9,at1 9),(27,.v m false [.sl (t.map holdL)]),(28,vi 3),(29,vi i)],H:=[bx (.c 7) (spL s),ow (.c 9) [.sl (intsL out)]],ps:=[] } =
   some (.exit 0,{ V:=[(1,.v m1 false [.int .i64 who]),(2,.v m2 false [.bool write]),(7,adc 7),(9,at1 9),(27,.v m false [.sl (t.map holdL)]),(28,vi 3),(29,vi 3),(30,vb false)],H:=[bx (.c 7) (spL s),ow (.c 9) [.sl (intsL (out++barsF (barsAt t who write s) n i))]],ps:=[] })
 | 0,i,out,h,ho=>by
  rw [loopC_of _ _ _ _ ha]
  obtain rfl:i=3:=by omega
  simp [lp,loopsOf,Tryz.f19,barsF]
 | n+1,i,out,h,ho=>by
  have hi:i<3:=by omega
  have hI:(i:Int)<3:=by omega
  have hlt:i<t.length:=by have:=P.len;omega
  have hw:=wrapN i (by omega)
  have hr:=P.r i hi
  have hwr:=P.w i hi
  have hbe:=barsP_eq (write:=write) hr hwr hs
  have hba:barsAt t who write s i=(!(i==who)&&(!clearS (t.getD i noH).w [s] || (write&&!clearS (t.getD i noH).r [s]))):=rfl
  rw [← hbe] at hba
  rw [getD_lt _ hlt] at hr hwr hba
  have c4:=fun m=>of_sps m hr
  have c5:=fun m=>of_sps m hwr
  have c6:=fun m=>of_one m hs
  have c7:=fun m m' m''=>put_or m m' m'' (inF t[i].w) (inF t[i].r)
  have c8:∀ m m',ev E 66 [.v m true (pl (barsP t[i] write)),.v m' true (pl (inF [s]))]=some { rs:=[.v .own true (pl (andP (barsP t[i] write) (inF [s])))],outs:=[] }:=fun m m'=>ev_meet m m' (barsP t[i] write) (inF [s])
  have k1:cellsEq (pl (andP (barsP t[i] write) (inF [s]))) (pl fun _=>false)=some (noneP (andP (barsP t[i] write) (inF [s]))):=cellsEq_pl _ _
  generalize andP (barsP t[i] write) (inF [s])=z at *
  have hin:eqI (i:Int) who=(i==who):=by rw [Bool.eq_iff_iff,eqI_iff,beq_iff_eq];omega
  have h1:(out.length+1)*8≤17592186044416:=by omega
  have h2:out.length+1≤17592186044416:=by omega
  rw [barsF]
  have ih0:=lp_iLockBars m m1 m2 hm t P who write s hs a ha n (i+1) out (by omega) (by omega)
  have ih1:=lp_iLockBars m m1 m2 hm t P who write s hs a ha n (i+1) (out++[(i:Int)]) (by omega) (by simp;omega)
  push_cast at ih0 ih1
  rw [loopC_of _ _ _ _ ha]
  clear ha
  rw [← hin] at hba
  generalize barsAt t who write s i=ba at *
  generalize barsF (barsAt t who write s) n (i+1)=tl at *
  cases write
  ·simp only [barsP,Bool.false_eq_true,if_false] at c8
   cases e1:eqI (i:Int) who
   ·rw [e1] at hba
    cases e2:noneP z
    ·rw [e2] at hba k1
     subst hba
     simp [-shapeT,lp,loopsOf,Tryz.f19,hI,hlt,hw,hm,c4,c5,c6,c8,k1,e1,h1,h2,pl_ff]
     simpa using ih1
    ·rw [e2] at hba k1
     subst hba
     simp [-shapeT,lp,loopsOf,Tryz.f19,hI,hlt,hw,hm,c4,c5,c6,c8,k1,e1,h1,h2,pl_ff]
     simpa using ih0
   ·rw [e1] at hba
    subst hba
    simp [-shapeT,lp,loopsOf,Tryz.f19,hI,hlt,hw,hm,c4,c5,c6,c8,e1,h1,h2,pl_ff]
    simpa using ih0
  ·simp only [barsP,if_true] at c8
   cases e1:eqI (i:Int) who
   ·rw [e1] at hba
    cases e2:noneP z
    ·rw [e2] at hba k1
     subst hba
     simp [-shapeT,lp,loopsOf,Tryz.f19,hI,hlt,hw,hm,c4,c5,c6,c7,c8,k1,e1,h1,h2,pl_ff]
     simpa using ih1
    ·rw [e2] at hba k1
     subst hba
     simp [-shapeT,lp,loopsOf,Tryz.f19,hI,hlt,hw,hm,c4,c5,c6,c7,c8,k1,e1,h1,h2,pl_ff]
     simpa using ih0
   ·rw [e1] at hba
    subst hba
    simp [-shapeT,lp,loopsOf,Tryz.f19,hI,hlt,hw,hm,c4,c5,c6,c7,c8,e1,h1,h2,pl_ff]
    simpa using ih0
def barsL (t:List HoldT) (who:Int) (write:Bool) (s:Sp):List Int:=(lockBars t who.toNat write s).map (fun k:Nat=>(k:Int))
def barsI (t:List HoldT) (who:Int) (write:Bool) (s:Sp):List Int:=if (lockOk t&&(whoOk who&&spOk s))=true then barsL t who write s else []
theorem who_nat {k:Int} (h:whoOk k=true):∃ i:Nat,i<3∧k=i:=by
 simp only [whoOk,Bool.and_eq_true,Bool.not_eq_true',ltI_not,ltI_iff] at h
 exact ⟨k.toNat,by omega,by omega⟩
theorem ev_impl_LockBars (m m1 m2 m3:M) (hm:m.isOwn=false) (t:List HoldT) (hb:t.length≤4000000) (hk:∀ h∈t,holdB h) (who:Int) (write:Bool) (s:Sp) :
  ev E 19 [.v m false [.sl (t.map holdL)],.v m1 false [.int .i64 who],.v m2 false [.bool write],.v m3 true (spL s)]=some { rs:=[.v .own false [.sl (intsL (barsI t who write s))]],outs:=[] }:=by
 have c1:=fun m hm=>ev_impl_LockOk m hm t hb hk
 have c2:=fun m=>ev_impl_client m who
 have c3:=fun m=>ev_impl_SpanOk m s
 unfold barsI
 cases e1:lockOk t
 ·rw [ev_fn Tryz.f19 rfl Tryz.func19 rfl rfl rfl (Nat.le_of_ble_eq_true rfl)]
  simp [c1,e1,hm]
 ·cases e2:whoOk who
  ·rw [ev_fn Tryz.f19 rfl Tryz.func19 rfl rfl rfl (Nat.le_of_ble_eq_true rfl)]
   simp [c1,c2,e1,e2,hm]
  ·cases e3:spOk s
   ·rw [ev_fn Tryz.f19 rfl Tryz.func19 rfl rfl rfl (Nat.le_of_ble_eq_true rfl)]
    simp [c1,c2,c3,e1,e2,e3,hm]
   ·have P:=lockOk_iff.1 e1
    have hlen:(t.length:Int)=3:=by have:=P.len;omega
    obtain ⟨i,hi,rfl⟩:=who_nat e2
    have l0:=lp_iLockBars m m1 m2 hm t P i write s e3 _ rfl 3 0 [] (by omega) (by simp)
    push_cast at l0
    rw [barsF_eq] at l0
    simp only [List.nil_append,List.map_nil] at l0
    rw [ev_fn Tryz.f19 rfl Tryz.func19 rfl rfl rfl (Nat.le_of_ble_eq_true rfl)]
    simp [c1,c2,c3,e1,e2,e3,hm,hlen]
    rw [loopC_at ?_ l0]
    ·simp [barsL,lockBars]
    ·rfl
def rLk (t:List HoldT) (b:Bool):Out:={ rs:=[.v .own false [.sl (t.map holdL)],.v .own false [.bool b]],outs:=[] }
def turnT (t:List HoldT) (who:Int) (s:Sp) (may:Bool) (f g:Nat→Bool):List HoldT × Bool :=
 if (whoOk who&&(spOk s&&may))=true then putL t who.toNat ⟨spansF f 48 0,spansF g 48 0⟩ else (t,false)
theorem putL_or (t:List HoldT) (i:Nat) (h:HoldT):putL t i h=if lockOk (t.set i h)=true then (t.set i h,true) else (t,false):=rfl
theorem ev_turned (m m1 m2 m3 mf:M) (hm:m.isOwn=false) (t:List HoldT) (hb:t.length≤4000000) (hk:∀ h∈t,holdB h) (who:Int) (s:Sp) (may:Bool) (cl:FuncId) (caps:List L) (f g:Nat→Bool) (hsig:E.sig cl=[]∧E.alt2 cl=none)
  (hcl:LockP t→whoOk who=true→spOk s=true→may=true→∀ q1 q2 q3,ev E cl (.v q1 true (pl (inF (t.getD who.toNat noH).r))::.v q2 true (pl (inF (t.getD who.toNat noH).w))::.v q3 true (pl (inF [s]))::caps.map fun l=>.v mf false [l])=some { rs:=[.v .own true (pl f),.v .own true (pl g)],outs:=[] }) (hcf:caps=[]∨∃ l,caps=[l]) :
  ev E 239 [.v m false [.sl (t.map holdL)],.v m1 false [.int .i64 who],.v m2 true (spL s),.v m3 false [.bool may],.v mf false [.fn cl caps]]=some (if lockOk t=true then rLk (turnT t who s may f g).1 (turnT t who s may f g).2 else rLk [] false):=by
 have c1:=fun m hm=>ev_impl_LockOk m hm t hb hk
 have c2:=fun m=>ev_impl_client m who
 have c3:=fun m=>ev_impl_SpanOk m s
 have c4:=fun m hm=>ev_copied m hm t hb hk
 cases e1:lockOk t
 ·rw [ev_fn Tryz.f239 rfl Tryz.func239 rfl rfl rfl (Nat.le_of_ble_eq_true rfl)]
  simp [c1,e1,hm,rLk]
 ·cases e2:whoOk who
  ·rw [ev_fn Tryz.f239 rfl Tryz.func239 rfl rfl rfl (Nat.le_of_ble_eq_true rfl)]
   simp [c1,c2,c4,e1,e2,hm,rLk,turnT]
  ·cases e3:spOk s
   ·rw [ev_fn Tryz.f239 rfl Tryz.func239 rfl rfl rfl (Nat.le_of_ble_eq_true rfl)]
    simp [c1,c2,c3,c4,e1,e2,e3,hm,rLk,turnT]
   ·cases may with
    | false =>
     rw [ev_fn Tryz.f239 rfl Tryz.func239 rfl rfl rfl (Nat.le_of_ble_eq_true rfl)]
     simp [c1,c2,c3,c4,e1,e2,e3,hm,rLk,turnT]
    | true =>
     have P:=lockOk_iff.1 e1
     have hcl:=hcl P e2 e3 rfl
     obtain ⟨i,hi,rfl⟩:=who_nat e2
     have hlt:i<t.length:=by have:=P.len;omega
     have hr:=P.r i hi
     have hwr:=P.w i hi
     simp only [Int.toNat_natCast] at hcl
     rw [getD_lt _ hlt] at hr hwr hcl
     have c5:=fun m=>of_sps m hr
     have c6:=fun m=>of_sps m hwr
     have c7:=fun m=>of_one m e3
     have c8:=fun m=>ev_spans m f
     have c9:=fun m=>ev_spans m g
     have hf1:=spansF_len f 48 0
     have hg1:=spansF_len g 48 0
     simp only [turnT,e2,e3,Bool.and_self,if_true,Int.toNat_natCast,putL_or]
     generalize spansF f 48 0=h' at *
     generalize spansF g 48 0=d' at *
     have c10:=fun m hm=>ev_impl_LockOk m hm (t.set i ⟨h',d'⟩) (by simpa using hb) (fun x hx=>by
      rcases List.mem_or_eq_of_mem_set hx with hx | rfl
      ·exact hk x hx
      ·exact ⟨by dsimp only;omega,by dsimp only;omega⟩)
     simp only [List.map_set] at c10
     rcases hcf with rfl | ⟨l,rfl⟩
     ·simp only [List.map_nil] at hcl
      rw [ev_fn Tryz.f239 rfl Tryz.func239 rfl rfl rfl (Nat.le_of_ble_eq_true rfl)]
      cases e4:lockOk (t.set i ⟨h',d'⟩)<;>simp [-shapeT,c1,c2,c3,c4,c5,c6,c7,c8,c9,c10,hcl,hsig.1,hsig.2,e1,e2,e3,e4,hm,hlt,rLk,pl_ff,List.map_set]
     ·simp only [List.map_cons,List.map_nil] at hcl
      rw [ev_fn Tryz.f239 rfl Tryz.func239 rfl rfl rfl (Nat.le_of_ble_eq_true rfl)]
      cases e4:lockOk (t.set i ⟨h',d'⟩)<;>simp [-shapeT,c1,c2,c3,c4,c5,c6,c7,c8,c9,c10,hcl,hsig.1,hsig.2,e1,e2,e3,e4,hm,hlt,rLk,pl_ff,List.map_set]
set_option maxRecDepth 100000
set_option maxHeartbeats 4000000
def cutP (f s:Nat→Bool):Nat→Bool:=fun j=>if s j=true then false else f j
theorem put_cut (m m' m'':M) (f g:Nat→Bool):ev E 65 [.v m true (pl f),.v m' true (pl g),.v m'' false [.bool false]]=some { rs:=[.v .own true (pl (cutP f g))],outs:=[] }:=ev_put m m' m'' f g false
theorem meet_and (m m':M) (f g:Nat→Bool):ev E 66 [.v m true (pl f),.v m' true (pl g)]=some { rs:=[.v .own true (pl (andP f g))],outs:=[] }:=ev_meet m m' f g
theorem ev_lkDropFn (m m1 m2:M) (r w s:Nat→Bool):ev E 241 [.v m true (pl r),.v m1 true (pl w),.v m2 true (pl s)]=some { rs:=[.v .own true (pl (cutP r s)),.v .own true (pl (cutP w s))],outs:=[] }:=by
 have c1:=fun m m' m''=>put_cut m m' m'' r s
 have c2:=fun m m' m''=>put_cut m m' m'' w s
 rw [ev_fn Tryz.f241 rfl Tryz.func241 rfl rfl rfl (Nat.le_of_ble_eq_true rfl)]
 simp [c1,c2,pl_ff]
theorem ev_lkDownFn (m m1 m2:M) (r w s:Nat→Bool):ev E 240 [.v m true (pl r),.v m1 true (pl w),.v m2 true (pl s)]=some { rs:=[.v .own true (pl (orP r (andP s w))),.v .own true (pl (cutP w s))],outs:=[] }:=by
 have c1:=fun m m'=>meet_and m m' s w
 have c2:=fun m m' m''=>put_or m m' m'' r (andP s w)
 have c3:=fun m m' m''=>put_cut m m' m'' w s
 rw [ev_fn Tryz.f240 rfl Tryz.func240 rfl rfl rfl (Nat.le_of_ble_eq_true rfl)]
 simp [c1,c2,c3,pl_ff]
theorem ev_lkGiveFn (m m1 m2 m3:M) (r w s:Nat→Bool) (write:Bool):ev E 243 [.v m true (pl r),.v m1 true (pl w),.v m2 true (pl s),.v m3 false [.ref [.bool write]]] =
  some { rs:=[.v .own true (pl (if write=true then cutP r s else orP r (cutP s w))),.v .own true (pl (if write=true then orP w s else w))],outs:=[] }:=by
 have c1:=fun m m' m''=>put_cut m m' m'' r s
 have c2:=fun m m' m''=>put_or m m' m'' w s
 have c3:=fun m m' m''=>put_cut m m' m'' s w
 have c4:=fun m m' m''=>put_or m m' m'' r (cutP s w)
 rw [ev_fn Tryz.f243 rfl Tryz.func243 rfl rfl rfl (Nat.le_of_ble_eq_true rfl)]
 cases write<;>simp [c1,c2,c3,c4,pl_ff]
theorem spans_cut (xs:List Sp) (s:Sp):spansF (cutP (inF xs) (inF [s])) 48 0=cutS xs s:=by
 unfold cutS
 exact spans_of fun j _=>by simp [cutP,inF]
theorem spans_add (xs:List Sp) (s:Sp):spansF (orP (inF xs) (inF [s])) 48 0=addS xs s:=by
 unfold addS
 exact spans_of fun j _=>by simp [orP,inF]
theorem spans_self {xs:List Sp} (h:spsOk xs=true):spansF (inF xs) 48 0=xs:=by
 rw [spans_of (g:=inF xs) (fun j _=>rfl)]
 exact of_self h fun j _=>rfl
theorem turn_drop (t:List HoldT) (who:Int) (s:Sp):turnT t who s true (cutP (inF (t.getD who.toNat noH).r) (inF [s])) (cutP (inF (t.getD who.toNat noH).w) (inF [s]))=if (whoOk who&&spOk s)=true then lockDrop t who.toNat s else (t,false):=by
 simp only [turnT,spans_cut,Bool.and_true,lockDrop]
theorem turn_down (t:List HoldT) (who:Int) (s:Sp):turnT t who s true (orP (inF (t.getD who.toNat noH).r) (andP (inF [s]) (inF (t.getD who.toNat noH).w))) (cutP (inF (t.getD who.toNat noH).w) (inF [s]))=if (whoOk who&&spOk s)=true then lockDown t who.toNat s else (t,false):=by
 have:spansF (orP (inF (t.getD who.toNat noH).r) (andP (inF [s]) (inF (t.getD who.toNat noH).w))) 48 0=ofL (fun j=>inF (t.getD who.toNat noH).r j || (inSp j s&&inF (t.getD who.toNat noH).w j)) 48 0 [] :=
  spans_of fun j _=>by simp only [orP_eq,andP,one_in]
 simp only [turnT,spans_cut,Bool.and_true,lockDown,this]
theorem turn_give (t:List HoldT) (P:LockP t) (who:Int) (write:Bool) (s:Sp) (may:Bool) :
  turnT t who s may (if write=true then cutP (inF (t.getD who.toNat noH).r) (inF [s]) else orP (inF (t.getD who.toNat noH).r) (cutP (inF [s]) (inF (t.getD who.toNat noH).w))) (if write=true then orP (inF (t.getD who.toNat noH).w) (inF [s]) else inF (t.getD who.toNat noH).w) =
   if (whoOk who&&(spOk s&&may))=true then lockGive t who.toNat write s else (t,false):=by
 unfold turnT
 cases e:whoOk who&&(spOk s&&may)
 ·rfl
 ·simp only [if_true]
  simp only [Bool.and_eq_true] at e
  obtain ⟨i,hi,rfl⟩:=who_nat e.1
  rw [Int.toNat_natCast]
  cases write
  ·simp only [Bool.false_eq_true,if_false,lockGive]
   have h1:spansF (orP (inF (t.getD i noH).r) (cutP (inF [s]) (inF (t.getD i noH).w))) 48 0=ofL (fun j=>(inSp j s || inF (t.getD i noH).r j)&&!inF (t.getD i noH).w j) 48 0 [] :=
    spans_of fun j _=>by
     have:=P.rw i hi j
     simp only [orP_eq,cutP,one_in]
     cases e1:inF (t.getD i noH).r j<;>cases e2:inF (t.getD i noH).w j<;>cases inSp j s<;>simp_all
   rw [h1,spans_self (P.w i hi)]
  ·simp only [if_true,lockGive,spans_cut,spans_add]
def dropI (t:List HoldT) (who:Int) (s:Sp):Out:=if lockOk t=true then (if (whoOk who&&spOk s)=true then rLk (lockDrop t who.toNat s).1 (lockDrop t who.toNat s).2 else rLk t false) else rLk [] false
def downI (t:List HoldT) (who:Int) (s:Sp):Out:=if lockOk t=true then (if (whoOk who&&spOk s)=true then rLk (lockDown t who.toNat s).1 (lockDown t who.toNat s).2 else rLk t false) else rLk [] false
def giveI (t:List HoldT) (who:Int) (write:Bool) (s:Sp):Out:=if lockOk t=true then (if (whoOk who&&(spOk s&&eqI (barsL t who write s).length 0))=true then rLk (lockGive t who.toNat write s).1 (lockGive t who.toNat write s).2 else rLk t false) else rLk [] false
theorem ev_impl_LockDrop (m m1 m2:M) (hm:m.isOwn=false) (t:List HoldT) (hb:t.length≤4000000) (hk:∀ h∈t,holdB h) (who:Int) (s:Sp) :
  ev E 197 [.v m false [.sl (t.map holdL)],.v m1 false [.int .i64 who],.v m2 true (spL s)]=some (dropI t who s):=by
 have c1:=fun m m1 m2 m3 mf hm=>ev_turned m m1 m2 m3 mf hm t hb hk who s true 241 [] _ _ ⟨rfl,rfl⟩ (fun _ _ _ _ q1 q2 q3=>ev_lkDropFn q1 q2 q3 _ _ _) (.inl rfl)
 rw [turn_drop] at c1
 have hr:(if lockOk t=true then rLk (if (whoOk who&&spOk s)=true then lockDrop t who.toNat s else (t,false)).1 (if (whoOk who&&spOk s)=true then lockDrop t who.toNat s else (t,false)).2 else rLk [] false)=dropI t who s:=by
  unfold dropI
  cases lockOk t<;>cases (whoOk who&&spOk s)<;>rfl
 rw [hr] at c1
 have hex:∃ t' b',dropI t who s=rLk t' b':=by
  unfold dropI
  split
  ·split<;>exact ⟨_,_,rfl⟩
  ·exact ⟨_,_,rfl⟩
 obtain ⟨t',b',he⟩:=hex
 rw [he] at c1 ⊢
 rw [ev_fn Tryz.f197 rfl Tryz.func197 rfl rfl rfl (Nat.le_of_ble_eq_true rfl)]
 simp [c1,hm,rLk]
theorem ev_impl_LockDown (m m1 m2:M) (hm:m.isOwn=false) (t:List HoldT) (hb:t.length≤4000000) (hk:∀ h∈t,holdB h) (who:Int) (s:Sp) :
  ev E 196 [.v m false [.sl (t.map holdL)],.v m1 false [.int .i64 who],.v m2 true (spL s)]=some (downI t who s):=by
 have c1:=fun m m1 m2 m3 mf hm=>ev_turned m m1 m2 m3 mf hm t hb hk who s true 240 [] _ _ ⟨rfl,rfl⟩ (fun _ _ _ _ q1 q2 q3=>ev_lkDownFn q1 q2 q3 _ _ _) (.inl rfl)
 rw [turn_down] at c1
 have hr:(if lockOk t=true then rLk (if (whoOk who&&spOk s)=true then lockDown t who.toNat s else (t,false)).1 (if (whoOk who&&spOk s)=true then lockDown t who.toNat s else (t,false)).2 else rLk [] false)=downI t who s:=by
  unfold downI
  cases lockOk t<;>cases (whoOk who&&spOk s)<;>rfl
 rw [hr] at c1
 have hex:∃ t' b',downI t who s=rLk t' b':=by
  unfold downI
  split
  ·split<;>exact ⟨_,_,rfl⟩
  ·exact ⟨_,_,rfl⟩
 obtain ⟨t',b',he⟩:=hex
 rw [he] at c1 ⊢
 rw [ev_fn Tryz.f196 rfl Tryz.func196 rfl rfl rfl (Nat.le_of_ble_eq_true rfl)]
 simp [c1,hm,rLk]
theorem ev_impl_LockGive (m m1 m2 m3:M) (hm:m.isOwn=false) (t:List HoldT) (hb:t.length≤4000000) (hk:∀ h∈t,holdB h) (who:Int) (write:Bool) (s:Sp) :
  ev E 199 [.v m false [.sl (t.map holdL)],.v m1 false [.int .i64 who],.v m2 false [.bool write],.v m3 true (spL s)]=some (giveI t who write s):=by
 have c0:=fun m m1 m2 m3 hm=>ev_impl_LockBars m m1 m2 m3 hm t hb hk who write s
 have c1:=fun may m m1 m2 m3 mf hm=>ev_turned m m1 m2 m3 mf hm t hb hk who s may 243 [.ref [.bool write]] _ _ ⟨rfl,rfl⟩ (fun _ _ _ _ q1 q2 q3=>ev_lkGiveFn q1 q2 q3 mf _ _ _ write) (.inr ⟨_,rfl⟩)
 have hr:∀ may,(lockOk t=true→whoOk who=true→spOk s=true→may=eqI (barsL t who write s).length 0)→(if lockOk t=true then rLk (turnT t who s may (if write=true then cutP (inF (t.getD who.toNat noH).r) (inF [s]) else orP (inF (t.getD who.toNat noH).r) (cutP (inF [s]) (inF (t.getD who.toNat noH).w))) (if write=true then orP (inF (t.getD who.toNat noH).w) (inF [s]) else inF (t.getD who.toNat noH).w)).1 (turnT t who s may (if write=true then cutP (inF (t.getD who.toNat noH).r) (inF [s]) else orP (inF (t.getD who.toNat noH).r) (cutP (inF [s]) (inF (t.getD who.toNat noH).w))) (if write=true then orP (inF (t.getD who.toNat noH).w) (inF [s]) else inF (t.getD who.toNat noH).w)).2 else rLk [] false)=giveI t who write s:=by
  intro may hmay
  unfold giveI
  cases e1:lockOk t
  ·rfl
  ·rw [turn_give t (lockOk_iff.1 e1)]
   cases e2:whoOk who
   ·rfl
   ·cases e3:spOk s
    ·rfl
    ·rw [hmay e1 e2 e3]
     cases eqI (barsL t who write s).length 0<;>rfl
 have hb2:lockOk t=true→whoOk who=true→spOk s=true→eqI (barsI t who write s).length 0=eqI (barsL t who write s).length 0:=fun e1 e2 e3=>by
  unfold barsI
  rw [e1,e2,e3];rfl
 have c2:=fun m m1 m2 m3 mf hm=>(c1 (eqI (barsI t who write s).length 0) m m1 m2 m3 mf hm).trans (congrArg some (hr _ hb2))
 have hex:∃ t' b',giveI t who write s=rLk t' b':=by
  unfold giveI
  split
  ·split<;>exact ⟨_,_,rfl⟩
  ·exact ⟨_,_,rfl⟩
 obtain ⟨t',b',he⟩:=hex
 rw [he] at c2 ⊢
 clear c1 hr hb2 he
 rw [ev_fn Tryz.f199 rfl Tryz.func199 rfl rfl rfl (Nat.le_of_ble_eq_true rfl)]
 simp [c0,c2,hm,rLk]
theorem ev_impl_LockOff (m m1:M) (hm:m.isOwn=false) (t:List HoldT) (hb:t.length≤4000000) (hk:∀ h∈t,holdB h) (who:Int) :
  ev E 209 [.v m false [.sl (t.map holdL)],.v m1 false [.int .i64 who]]=some (if lockOk t=true then (if whoOk who=true then rLk (t.set who.toNat noH) true else rLk t false) else rLk [] false):=by
 have c1:=fun m m1 m2 hm=>ev_impl_LockDrop m m1 m2 hm t hb hk who whole
 have hr:dropI t who whole=(if lockOk t=true then (if whoOk who=true then rLk (t.set who.toNat noH) true else rLk t false) else rLk [] false):=by
  unfold dropI
  rw [whole_ok,Bool.and_true]
  cases e1:lockOk t
  ·rfl
  ·cases e2:whoOk who
   ·rfl
   ·have P:=lockOk_iff.1 e1
    obtain ⟨i,hi,rfl⟩:=who_nat e2
    simp only [if_true,Int.toNat_natCast]
    have:lockDrop t i whole=(t.set i noH,true):=by
     unfold lockDrop
     rw [cut_whole (P.r i hi),cut_whole (P.w i hi)]
     show (if lockOk (t.set i noH)=true then (t.set i noH,true) else (t,false))=_
     rw [if_pos (lockOk_iff.2 (noH_ok P i))]
    rw [this]
 rw [hr] at c1
 have hex:∃ t' b',(if lockOk t=true then (if whoOk who=true then rLk (t.set who.toNat noH) true else rLk t false) else rLk [] false)=rLk t' b':=by
  split
  ·split<;>exact ⟨_,_,rfl⟩
  ·exact ⟨_,_,rfl⟩
 obtain ⟨t',b',he⟩:=hex
 rw [he] at c1 ⊢
 simp only [whole,spL] at c1
 rw [ev_fn Tryz.f209 rfl Tryz.func209 rfl rfl rfl (Nat.le_of_ble_eq_true rfl)]
 simp [c1,hm,rLk]
end Go.Ev

