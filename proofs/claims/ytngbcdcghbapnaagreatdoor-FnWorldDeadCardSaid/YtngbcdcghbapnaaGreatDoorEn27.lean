/- My texts joined: EvT72, EvT37, EvM3, EvT73. No condition. -/
import Derived.Test.YtngbcdcghbapnaaGreatDoorEn1
import Derived.Test.YtngbcdcghbapnaaGreatDoorEn2
import Derived.Test.YtngbcdcghbapnaaGreatDoorEn5
import Derived.Test.YtngbcdcghbapnaaGreatDoorEn6
import Derived.Test.YtngbcdcghbapnaaGreatDoorEn7
import Derived.Test.YtngbcdcghbapnaaGreatDoorEn8
import Derived.Test.YtngbcdcghbapnaaGreatDoorEn9
import Derived.Test.YtngbcdcghbapnaaGreatDoorEn10
import Derived.Test.YtngbcdcghbapnaaGreatDoorEn11
import Derived.Test.YtngbcdcghbapnaaGreatDoorEn12
import Derived.Test.YtngbcdcghbapnaaGreatDoorEn13
import Derived.Test.YtngbcdcghbapnaaGreatDoorEn14
import Derived.Test.YtngbcdcghbapnaaGreatDoorEn15
import Derived.Test.YtngbcdcghbapnaaGreatDoorEn16
import Derived.Test.YtngbcdcghbapnaaGreatDoorEn18
import Derived.Test.YtngbcdcghbapnaaGreatDoorEn19
import Derived.Test.YtngbcdcghbapnaaGreatDoorEn20
import Derived.Test.YtngbcdcghbapnaaGreatDoorEn21
import Derived.Test.YtngbcdcghbapnaaGreatDoorEn22
import Derived.Test.YtngbcdcghbapnaaGreatDoorEn25
import Derived.Test.YtngbcdcghbapnaaGreatDoorEn26
set_option linter.unusedVariables false
set_option linter.unusedSimpArgs false

set_option maxRecDepth 100000
set_option maxHeartbeats 4000000
namespace Go.Ev
open Go.Proofs
def badAt:List Int→Int→Int
 | [],_=>-1
 | c::cs,i=>if eqI c 0=true then badAt cs (i+1) else i
theorem badAt_nn:∀ (cs:List Int) (i:Int),0≤i→(!ltI (badAt cs i) 0)=!(cs.all fun c=>eqI c 0)
 | [],i,h=>by simp [badAt,ltI]
 | c::cs,i,h=>by
  rw [badAt]
  cases e:eqI c 0
  ·have:ltI i 0=false:=ltI_not.2 h
   simp [this,e]
  ·simp only [if_true,List.all_cons,e,Bool.true_and]
   exact badAt_nn cs (i+1) (by omega)
theorem ev_badFn (m:M) (c:Int):ev E 207 [.v m false [.int .i64 c]]=some (rB (!eqI c 0)):=by
 rw [ev_fn Tryz.f207 rfl Tryz.func207 rfl rfl rfl (Nat.le_of_ble_eq_true rfl)]
 cases e:eqI c 0<;>simp [e]
theorem lp_Index (m mf:M) (hm:m.isOwn=false) (cs:List Int) (hc:cs.length≤4000000) (a:Code) (ha:a=lp Tryz.f247 0):∀ (n i:Nat),i+n=cs.length →
  loopC E (ev E) 247 a { V:=[(0,.v m false [.sl (intsL cs)]),(1,.v mf false [.fn 207 []]),(7,vi cs.length),(8,vi i)],H:=[],ps:=[] } =
   if ((cs.drop i).all fun c=>eqI c 0)=true then some (.exit 0,{ V:=[(0,.v m false [.sl (intsL cs)]),(1,.v mf false [.fn 207 []]),(7,vi cs.length),(8,vi cs.length),(9,vb false)],H:=[],ps:=[] })
   else some (.ret,{ V:=[(4,vi (badAt (cs.drop i) i))],H:=[],ps:=[] })
 | 0,i,h=>by
  rw [loopC_of _ _ _ _ ha]
  obtain rfl:i=cs.length:=by omega
  simp [lp,loopsOf,Tryz.f247]
 | n+1,i,h=>by
  have hlt:i<cs.length:=by omega
  have hw:=wrapN i (by omega)
  have ih:=lp_Index m mf hm cs hc a ha n (i+1) (by omega)
  push_cast at ih
  have c1:=fun m=>ev_badFn m cs[i]
  rw [loopC_of _ _ _ _ ha,List.drop_eq_getElem_cons hlt,List.all_cons,badAt]
  clear ha
  generalize badAt (cs.drop (i+1)) ((i:Int)+1)=b at *
  generalize (cs.drop (i+1)).all (fun c=>eqI c 0)=r at ih ⊢
  cases e:eqI cs[i] 0<;>simp [lp,loopsOf,Tryz.f247,hlt,hw,hm,c1,e,ih]
theorem ev_Contains (m mf:M) (hm:m.isOwn=false) (cs:List Int) (hc:cs.length≤4000000):ev E 206 [.v m false [.sl (intsL cs)],.v mf false [.fn 207 []]]=some (rB (!(cs.all fun c=>eqI c 0))):=by
 have c1:∀ m mf,m.isOwn=false→ev E 247 [.v m false [.sl (intsL cs)],.v mf false [.fn 207 []]]=some (rI (if (cs.all fun c=>eqI c 0)=true then -1 else badAt cs 0)):=fun m mf hm=>by
  have l0:=fun a ha=>lp_Index m mf hm cs hc a ha cs.length 0 (by omega)
  push_cast at l0
  simp only [List.drop_zero] at l0
  rw [ev_fn Tryz.f247 rfl Tryz.func247 rfl rfl rfl (Nat.le_of_ble_eq_true rfl)]
  generalize badAt cs 0=b at *
  generalize (cs.all fun c=>eqI c 0)=r at l0 ⊢
  simp
  rw [l0 _ ?_]
  ·cases r<;>simp
  ·rfl
 have hb:=badAt_nn cs 0 (by omega)
 rw [ev_fn Tryz.f206 rfl Tryz.func206 rfl rfl rfl (Nat.le_of_ble_eq_true rfl)]
 generalize (cs.all fun c=>eqI c 0)=r at *
 cases r
 ·simp only [Bool.false_eq_true,if_false] at c1
  have:ltI (badAt cs 0) 0=false:=by simpa using hb
  simp [c1,hm,this]
 ·simp [c1,hm]
def backsW (w:WorldT) (i:Nat) (s:Sp):WorldT:={ w with st:=(storeAll w.st (w.reqs i s)).1,owns:=w.owns.set i (cleanT (w.own i) s).1,kept:=w.kept++w.reqs i s }
def backsB (w:WorldT) (i:Nat) (s:Sp):Bool:=(cleanT (w.own i) s).2&&(storeAll w.st (w.reqs i s)).2.all fun c=>eqI c 0
theorem flush_backs (w:WorldT) (i:Nat) (s:Sp):flushW w i s=if backsB w i s=true then some (backsW w i s) else none:=by
 unfold flushW backsB backsW
 cases (storeAll w.st (w.reqs i s)).2.all fun c=>eqI c 0<;>cases (cleanT (w.own i) s).2<;>rfl
theorem clean_chg {o:OwnT} (h:o.ok=true) (p:Sp):chgI o.t o.h o.d (spOk p) (inF o.h) (fun j=>if inF [p] j=true then false else inF o.d j)=rOB (cleanT o p).1.t (cleanT o p).1.h (cleanT o p).1.d (cleanT o p).2:=by
 have h1:spansF (inF o.h) 48 0=o.h:=spans_self (ownOk_bd h).2.1
 have h2:spansF (fun j=>if inF [p] j=true then false else inF o.d j) 48 0=cutS o.d p:=spans_cut o.d p
 unfold chgI cleanT
 have h':ownOk o.t o.h o.d=true:=h
 rw [h1,h2,if_pos h']
 cases spOk p
 ·rfl
 ·simp only [if_true]
  cases ownOk o.t o.h (cutS o.d p)<;>rfl
theorem clean_spec {o:OwnT} (h:o.ok=true) (p:Sp):cleanS o.t o.h o.d p=rOB (cleanT o p).1.t (cleanT o p).1.h (cleanT o p).1.d (cleanT o p).2:=by
 unfold cleanS cleanT
 have h':ownOk o.t o.h o.d=true:=h
 rw [if_pos h']
 cases spOk p
 ·rfl
 ·simp only [if_true]
  cases ownOk o.t o.h (cutS o.d p)<;>rfl
theorem ev_backs (m1 m2:M) (w:WorldT) (h:WorldP w) (i:Nat) (hi:i<3) (s:Sp) (hs:spOk s=true) :
  ev E 148 [.ptr .own (worldL w),.v m1 false [.int .i64 i],.v m2 true (spL s)]=some { rs:=[.v .own false [.bool (backsB w i s)]],outs:=[(.own,worldL (backsW w i s))] }:=by
 obtain ⟨r1,r2⟩:=h.reqsB hi hs
 obtain ⟨hl,ho⟩:=h.own_get hi
 have c1:=fun m m1 m2 hm=>ev_requests m m1 m2 hm w h i hi s hs
 have c2:=fun m m' hm hm'=>ev_impl_StoreAll m m' hm hm' w.st (w.reqs i s) h.st.bd (by omega) r2
 simp only [storeOk_iff.2 h.st,if_true,rStA] at c2
 have c3:=fun m m' hm=>ev_impl_OwnClean m m' hm (w.own i).t (w.own i).h (w.own i).d s (h.owB hi)
 rw [clean_chg (h.own i hi)] at c3
 have hcl:=storeAll_len (w.reqs i s) w.st
 have c4:=fun m mf hm=>ev_Contains m mf hm (storeAll w.st (w.reqs i s)).2 (by omega)
 have hk:=h.keptN
 have z1:(w.kept.length+(w.reqs i s).length)*56≤17592186044416:=by omega
 have z2:w.kept.length+(w.reqs i s).length≤17592186044416:=by omega
 simp only [backsW,backsB]
 generalize w.reqs i s=qs at *
 generalize storeAll w.st qs=st at *
 rw [← ho] at c3 ⊢
 generalize cleanT w.owns[i] s=cl at *
 obtain ⟨o,b⟩:=cl
 dsimp only at c3 ⊢
 generalize hall:(st.2.all fun c=>eqI c 0)=al at *
 rw [ev_fn Tryz.f148 rfl Tryz.func148 rfl rfl rfl (Nat.le_of_ble_eq_true rfl)]
 cases b
 ·simp [c1,c2,c3,hl,z1,z2,List.map_set]
 ·cases al<;>simp [c1,c2,c3,c4,hl,z1,z2,List.map_set]
set_option maxRecDepth 100000
set_option maxHeartbeats 4000000
theorem rows_over (s x:List UInt8) (k:Nat):(rowsOfBytes s).take k++(rowsOfBytes x++(rowsOfBytes s).drop (k+x.length))=rowsOfBytes (overS s ((k:Int),(k:Int)+x.length) x):=by
 have h2:((k:Int)+x.length).toNat=k+x.length:=by omega
 simp [overS,rowsOfBytes,h2]
theorem rows_one (s:List UInt8):∀ x∈rowsOfBytes s,x.length=1:=by
 intro x hx
 simp only [rowsOfBytes,List.mem_map] at hx
 obtain ⟨c,_,rfl⟩:=hx
 rfl
theorem ev_writeFn (m1 m2 m3 m4:M) (s x:List UInt8) (f g:Nat→Bool) (k:Nat) (h0:0<x.length) (hk:k+x.length≤48) (hs:s.length=48) :
  ev E 203 [.io false [.sl (rowsOfBytes s)],.v m1 true (pl f),.v m2 true (pl g),.v m3 false [.ref [.int .i64 k]],.v m4 false [.ref [.str x]]] =
   some { rs:=[.v .own true (pl fun j=>if inF [((k:Int),(k:Int)+x.length)] j=true then true else f j),.v .own true (pl fun j=>if inF [((k:Int),(k:Int)+x.length)] j=true then true else g j)],outs:=[(.own,[.sl (rowsOfBytes (overS s ((k:Int),(k:Int)+x.length) x))])] }:=by
 have c1:∀ m,ev E 64 [.v m false [.sl [[.int .i64 k,.int .i64 ((k:Int)+x.length)]]]]=some { rs:=[.v .own true (pl (inF [((k:Int),(k:Int)+x.length)]))],outs:=[] }:=fun m=>ev_impl_of m [((k:Int),(k:Int)+x.length)] (by simp) fun s hs=>by simp only [List.mem_singleton] at hs;subst hs;dsimp only;omega
 have c2:=fun m m' m'' f=>ev_put m m' m'' f (inF [((k:Int),(k:Int)+x.length)]) true
 have hw:IntKind.i64.wrap ((k:Int)+x.length)=(k:Int)+x.length:=by rw [wrap64]<;>omega
 have ho:=rows_over s x k
 have hr:=rows_one s
 have hl:=rows_len s
 have hlx:=rows_len x
 have hxt:x.take (48 - k)=x:=List.take_of_length_le (by omega)
 generalize rowsOfBytes s=ys at *
 have q1:k<48:=by omega
 have q2:(k:Int)≤48:=by omega
 rw [ev_fn Tryz.f203 rfl Tryz.func203 rfl rfl rfl (Nat.le_of_ble_eq_true rfl)]
 simp [pl_ff,c1,c2,hw,hl,hs,hxt,hlx,q1,q2,ho,eq_true hr,Nat.le_of_lt q1]
theorem ev_writeFnP (m1 m2 m3 m4:M) (s x:List UInt8) (f g:Nat→Bool) (k:Int) (h:wrOk k x=true) (hs:s.length=48) :
  ev E 203 [.io false [.sl (rowsOfBytes s)],.v m1 true (pl f),.v m2 true (pl g),.v m3 false [.ref [.int .i64 k]],.v m4 false [.ref [.str x]]] =
   some { rs:=[.v .own true (pl fun j=>if inF [(k,k+x.length)] j=true then true else f j),.v .own true (pl fun j=>if inF [(k,k+x.length)] j=true then true else g j)],outs:=[(.own,[.sl (rowsOfBytes (overS s (k,k+x.length) x))])] }:=by
 simp only [wrOk,Bool.and_eq_true,Bool.not_eq_true',ltI_not,eqS_not] at h
 have:=List.length_pos_iff.2 h.1.2
 obtain ⟨n,rfl⟩:∃ n:Nat,k=n:=⟨k.toNat,by omega⟩
 exact ev_writeFn m1 m2 m3 m4 s x f g n this (by omega) hs
theorem wrOk_sp {k:Int} {x:List UInt8} (h:wrOk k x=true):(0≤k∧k<k+x.length∧k+x.length≤48)∧x.all okB=true:=by
 simp only [wrOk,Bool.and_eq_true,Bool.not_eq_true',ltI_not,eqS_not] at h
 have:=List.length_pos_iff.2 h.1.2
 exact ⟨by omega,h.1.1.2.1⟩
theorem ev_impl_OwnWrite (m m' m'':M) (hm:m.isOwn=false) (t:List UInt8) (h d:List Sp) (k:Int) (x:List UInt8) (b:OwB t h d) (hx:x.length≤4000000) :
  ev E 147 [.v m true (owL t h d),.v m' false [.int .i64 k],.v m'' false [.str x]]=some (chgJ t h d (wrOk k x) (overS t (k,k+x.length) x) (fun j=>if inF [(k,k+x.length)] j=true then true else inF h j) (fun j=>if inF [(k,k+x.length)] j=true then true else inF d j)):=by
 have c0:=fun m m' m''=>ev_impl_TextWrite m m' m'' [] x k (by simp) hx
 have hb:(twS [] k x).2=wrOk k x:=by
  have:txtOk []=true:=rfl
  simp only [twS,this,if_true]
  cases wrOk k x<;>rfl
 rw [hb] at c0
 have c2:=fun m mb mf hm=>ev_changed_two m mb mf hm t h d (wrOk k x) 203 (.ref [.int .i64 k]) (.ref [.str x]) (overS t (k,k+x.length) x) (fun j=>if inF [(k,k+x.length)] j=true then true else inF h j) (fun j=>if inF [(k,k+x.length)] j=true then true else inF d j) b ⟨rfl,rfl⟩ (fun e0 e=>by
   have ht:=(ownOk_t e).1
   have hw:=(wrOk_sp e0).1
   rw [overS_len _ _ _ (by dsimp only;omega) (by dsimp only;omega) (by dsimp only;omega)]
   dsimp only
   omega) (fun h1 h2 m1 m2=>ev_writeFnP m1 m2 mf mf t x (inF h) (inF d) k h1 (ownOk_t h2).1)
 obtain ⟨T,H,D,b',hr⟩:=chgJ_ex t h d (wrOk k x) (overS t (k,k+x.length) x) (fun j=>if inF [(k,k+x.length)] j=true then true else inF h j) (fun j=>if inF [(k,k+x.length)] j=true then true else inF d j)
 rw [hr] at c2 ⊢
 rw [ev_fn Tryz.f147 rfl Tryz.func147 rfl rfl rfl (Nat.le_of_ble_eq_true rfl)]
 simp [c0,c2,hm]
theorem write_eq (t:List UInt8) (h d:List Sp) (k:Int) (x:List UInt8):chgJ t h d (wrOk k x) (overS t (k,k+x.length) x) (fun j=>if inF [(k,k+x.length)] j=true then true else inF h j) (fun j=>if inF [(k,k+x.length)] j=true then true else inF d j)=writeS t h d k x:=by
 unfold chgJ writeS
 rw [addS_spans,addS_spans]
theorem ev_l2At (m:M) (bs:List UInt8) (p:Nat) (s:List UInt8) (b:RdB bs p) (hp:p+3≤1099511627776) (hs:s.length≤4000000) :
  ∃ k:Int,(-9223372036854775808≤k∧k≤9223372036854775807)∧ev E 136 [rdA bs p,.v m false [.str s]]=some { rs:=[.v .own false [.int .i64 k]],outs:=[rdO bs (p+3)] }:=by
 obtain ⟨k1,h1,c1⟩:=ev_pick .ro bs p 12 b (by omega)
 obtain ⟨k2,h2,c2⟩:=ev_pick .ro bs (p+1) 30 (b.add (by omega)) (by omega)
 obtain ⟨v,hv,c3⟩:=ev_num .tn bs (p+1+1) [0,1,3,k1,k2,s.length,s.length+2,47,48,-1,9223372036854775807] (b.add (q:=2) (by omega)) (by simp) (by simp)
 have h1:=h1 (by omega)
 have h2:=h2 (by omega)
 refine ⟨v,by simp only [List.mem_cons,List.not_mem_nil,or_false] at hv;omega,?_⟩
 have hw:IntKind.i64.wrap ((s.length:Int)+2)=(s.length:Int)+2:=by rw [wrap64]<;>omega
 push_cast at c3
 rw [ev_fn Tryz.f136 rfl Tryz.func136 rfl rfl rfl (Nat.le_of_ble_eq_true rfl)]
 simp at c3
 simp [c1,c2,c3,hw]
theorem patF_self (t:List UInt8):∀ (d:List Sp),(∀ s∈d,0≤s.1∧s.1<s.2∧s.2≤48)→patF t (0,48) d=d.map fun s=>(s.1,subS t s)
 | [],_=>rfl
 | s::d,h=>by
  have hs:=h s (by simp)
  have hm:meetS s (0,48)=s:=by
   have:maxI s.1 0=s.1:=by simp only [maxI,ltI,decide_eq_true_eq];split<;>omega
   have:minI s.2 48=s.2:=by simp only [minI,ltI,decide_eq_true_eq];split<;>omega
   simp only [meetS, *]
  have hl:ltI s.1 s.2=true:=ltI_iff.2 (by omega)
  simp only [patF,hm,hl,if_true,List.map_cons]
  rw [patF_self t d fun q hq=>h q (by simp [hq])]
theorem haveS_of {h:List Sp} {q:Sp} (hs:spsOk h=true) (hq:spOk q=true) (hin:∀ j:Nat,inSp j q=true→inF h j=true):haveS h q=true:=by
 simp only [haveS,hs,hq,Bool.true_and]
 rw [eqP_iff]
 intro j hj
 simp only [inF,List.any_cons,List.any_nil,Bool.or_false]
 cases e:inSp j q with
 | false=>simp
 | true =>
  have:=hin j e
  simp only [inF] at this
  simp [this]
set_option maxRecDepth 100000
set_option maxHeartbeats 4000000
abbrev rOT (o:OwnT) (b:Bool):Out:=rOB o.t o.h o.d b
theorem drop_T {o:OwnT} (h:o.ok=true) (p:Sp):dropS o.t o.h o.d p=rOT (dropT o p).1 (dropT o p).2:=by
 unfold dropS dropT
 rw [if_pos (show ownOk o.t o.h o.d=true from h)]
 have hl:eqI (patF o.t p o.d).length 0=!ltI 0 (patF o.t p o.d).length:=by
  rw [Bool.eq_iff_iff,eqI_iff,Bool.not_eq_true',ltI_not];omega
 rw [hl]
 cases spOk p
 ·rfl
 ·cases ltI 0 (patF o.t p o.d).length
  ·simp only [if_true,Bool.false_eq_true,if_false,Bool.not_false,Bool.and_self]
   cases ownOk (overS o.t p (List.replicate (p.2 - p.1).toNat 46)) (cutS o.h p) o.d<;>rfl
  ·rfl
theorem fill_T {o:OwnT} (h:o.ok=true) (p:Sp) (x:Bs):fillS o.t o.h o.d p x=rOT (fillT1 o p x).1 (fillT1 o p x).2:=by
 unfold fillS fillT1
 rw [if_pos (show ownOk o.t o.h o.d=true from h)]
 cases fillOk p x
 ·rfl
 ·simp only [if_true]
  cases ownOk (fillT o.d x p.1.toNat (p.2 - p.1).toNat p.1.toNat o.t) (addS o.h p) o.d<;>rfl
theorem write_T {o:OwnT} (h:o.ok=true) (k:Int) (x:Bs):writeS o.t o.h o.d k x=rOT (writeT1 o k x).1 (writeT1 o k x).2:=by
 unfold writeS writeT1
 rw [if_pos (show ownOk o.t o.h o.d=true from h)]
 cases wrOk k x
 ·rfl
 ·simp only [if_true]
  cases ownOk (overS o.t (k,k+x.length) x) (addS o.h (k,k+x.length)) (addS o.d (k,k+x.length))<;>rfl
theorem OwnT.owB {o:OwnT} (h:o.ok=true):OwB o.t o.h o.d:=by
 have hb:=ownOk_bd h
 have h1:=spsOk_len hb.2.1
 have h2:=spsOk_len hb.2.2.1
 exact ⟨by omega,by omega,by omega⟩
theorem ev_iDrop (m m':M) (hm:m.isOwn=false) (o:OwnT) (h:o.ok=true) (p:Sp):ev E 198 [.v m true (ownL o),.v m' true (spL p)]=some (rOT (dropT o p).1 (dropT o p).2):=by
 rw [ev_impl_OwnDrop m m' hm o.t o.h o.d p (OwnT.owB h),drop_eq,drop_T h]
theorem ev_iFill (m m' m'':M) (hm:m.isOwn=false) (o:OwnT) (h:o.ok=true) (p:Sp) (x:Bs) (hx:x.length≤4000000):ev E 145 [.v m true (ownL o),.v m' true (spL p),.v m'' false [.str x]]=some (rOT (fillT1 o p x).1 (fillT1 o p x).2):=by
 rw [ev_impl_OwnFill m m' m'' hm o.t o.h o.d p x (OwnT.owB h) hx,fill_eq,fill_T h]
theorem ev_iWrite (m m' m'':M) (hm:m.isOwn=false) (o:OwnT) (h:o.ok=true) (k:Int) (x:Bs) (hx:x.length≤4000000):ev E 147 [.v m true (ownL o),.v m' false [.int .i64 k],.v m'' false [.str x]]=some (rOT (writeT1 o k x).1 (writeT1 o k x).2):=by
 rw [ev_impl_OwnWrite m m' m'' hm o.t o.h o.d k x (OwnT.owB h) hx,write_eq,write_T h]
theorem give_bars {t:List HoldT} (P:LockP t) {i:Nat} (hi:i<3) {write:Bool} {s:Sp} (hs:spOk s=true) (hg:(lockGive t i write s).2=true):lockBars t i write s=[]:=by
 have hsp:=spOk_iff.1 hs
 unfold lockBars
 rw [List.filter_eq_nil_iff]
 intro k hk
 have hk:k<3:=List.mem_range.1 hk
 have h48:∀ j:Nat,inSp j s=true→j<48:=fun j hj=>by rw [inSp_iff] at hj;omega
 by_cases hne:k=i
 ·simp [barsAt,hne]
 have hL:∀ h':HoldT,LockP (t.set i h')→(∀ j:Nat,inSp j s=true→inF h'.w j=true∨(write=false∧inF h'.r j=true))→¬ barsAt t i write s k=true:=by
  intro h' L hin
  have e1:(t.set i h').getD i noH=h':=by rw [lock_set t i i h' P.len hi,if_pos rfl]
  have e2:(t.set i h').getD k noH=t.getD k noH:=by rw [lock_set t i k h' P.len hk,if_neg (fun e=>hne e.symm)]
  have a1:=L.ww i k hi hk hne
  have a2:=L.wr i k hi hk hne
  have a3:=L.wr k i hk hi (fun e=>hne e.symm)
  rw [e1,e2] at a1 a2 a3
  have hone:∀ p∈[s],0≤p.1∧p.1<p.2∧p.2≤48:=fun p hp=>by simp only [List.mem_singleton] at hp;subst hp;exact hsp
  have c1:clearS (t.getD k noH).w [s]=true:=(clearS_iff (spsOk_sp (P.w k hk)) hone).2 fun j hj=>by
   rw [one_in] at hj
   rcases hin j hj.2 with q | ⟨_,q⟩
   ·exact a1 j ⟨q,hj.1⟩
   ·exact a3 j ⟨hj.1,q⟩
  have c2:write=true→clearS (t.getD k noH).r [s]=true:=fun hw=>(clearS_iff (spsOk_sp (P.r k hk)) hone).2 fun j hj=>by
   rw [one_in] at hj
   rcases hin j hj.2 with q | ⟨q,_⟩
   ·exact a2 j ⟨q,hj.1⟩
   ·rw [hw] at q;cases q
  unfold barsAt
  cases write
  ·rw [c1];simp
  ·rw [c1,c2 rfl];simp
 cases write
 ·have hp:=putL_ok (t:=t) (i:=i) (h:=⟨ofL (fun j=>(inSp j s || inF (t.getD i noH).r j)&&!inF (t.getD i noH).w j) 48 0 [],(t.getD i noH).w⟩) hg
  refine hL ⟨ofL (fun j=>(inSp j s || inF (t.getD i noH).r j)&&!inF (t.getD i noH).w j) 48 0 [],(t.getD i noH).w⟩ hp.1 fun j hj=>?_
  dsimp only
  rw [of_get _ (h48 j hj),hj]
  cases inF (t.getD i noH).w j
  ·exact .inr ⟨rfl,rfl⟩
  ·exact .inl rfl
 ·have hp:=putL_ok (t:=t) (i:=i) (h:=⟨cutS (t.getD i noH).r s,addS (t.getD i noH).w s⟩) hg
  refine hL ⟨cutS (t.getD i noH).r s,addS (t.getD i noH).w s⟩ hp.1 fun j hj=>.inl ?_
  dsimp only
  rw [addS_get _ _ j (h48 j hj),hj];rfl
theorem putL_no {t:List HoldT} {i:Nat} {h:HoldT} (e:(putL t i h).2=false):putL t i h=(t,false):=by
 unfold putL at e ⊢
 split at e
 ·cases e
 ·rename_i hn;rw [if_neg hn]
theorem give_no {t:List HoldT} {i:Nat} {write:Bool} {s:Sp} (e:(lockGive t i write s).2=false):lockGive t i write s=(t,false):=by
 unfold lockGive at e ⊢
 cases write
 ·exact putL_no e
 ·exact putL_no e
theorem give_I {t:List HoldT} (P:LockP t) {i:Nat} (hi:i<3) (write:Bool) {s:Sp} (hs:spOk s=true):giveI t i write s=rLk (lockGive t i write s).1 (lockGive t i write s).2:=by
 have hw:whoOk (i:Int)=true:=by simp only [whoOk,Bool.and_eq_true,Bool.not_eq_true',ltI_not,ltI_iff];omega
 unfold giveI barsL
 rw [if_pos (lockOk_iff.2 P),hw,hs,Int.toNat_natCast]
 cases e:(lockGive t i write s).2
 ·rw [give_no e]
  cases eqI ((lockBars t i write s).map (fun k:Nat=>(k:Int))).length 0<;>rfl
 ·rw [give_bars P hi hs e]
  simp [e]
def yieldI (w:WorldT) (k:Nat) (write:Bool) (s:Sp):WorldT × Bool :=
 if backsB w k s=true then
  if write=true then
   if (lockDrop (backsW w k s).locks k s).2=true then
    ({ backsW w k s with locks:=(lockDrop (backsW w k s).locks k s).1,owns:=(backsW w k s).owns.set k (dropT ((backsW w k s).own k) s).1 },(dropT ((backsW w k s).own k) s).2)
   else ({ backsW w k s with locks:=(lockDrop (backsW w k s).locks k s).1 },false)
  else ({ backsW w k s with locks:=(lockDown (backsW w k s).locks k s).1 },(lockDown (backsW w k s).locks k s).2)
 else (backsW w k s,false)
theorem yield_I (w:WorldT) (k:Nat) (write:Bool) (s:Sp):yieldW w k write s=if (yieldI w k write s).2=true then some (yieldI w k write s).1 else none:=by
 unfold yieldW yieldI
 rw [flush_backs]
 cases backsB w k s
 ·rfl
 ·simp only [if_true]
  cases write
  ·simp only [Bool.false_eq_true,if_false]
  ·simp only [if_true]
   cases e1:(lockDrop (backsW w k s).locks k s).2
   ·rfl
   ·simp only [Bool.true_and,if_true]
def yieldsI (write:Bool) (s:Sp):List Nat→WorldT→WorldT × Bool
 | [],w=>(w,true)
 | k::ks,w=>if (yieldI w k write s).2=true then yieldsI write s ks (yieldI w k write s).1 else ((yieldI w k write s).1,false)
theorem yields_I (write:Bool) (s:Sp):∀ (ks:List Nat) (w:WorldT),yieldsW write s ks w=if (yieldsI write s ks w).2=true then some (yieldsI write s ks w).1 else none
 | [],w=>rfl
 | k::ks,w=>by
  rw [yieldsW,yieldsI,yield_I]
  cases e:(yieldI w k write s).2
  ·rfl
  ·simp only [if_true]
   exact yields_I write s ks _
abbrev adp0:AV:=.ad (.p 0) 0 0 0 []
theorem lp_locks0 (m1 m2:M) (w:WorldT) (ha3:w.alive.length=3) (who:Nat) (write:Bool) (s:Sp) (ks:List Nat) (hks:∀ k∈ks,k<3) (bs:List Int) (hbs:bs=ks.map (fun k:Nat=>(k:Int))) (a:Code) (ha:a=lp Tryz.f143 0):∀ (n i:Nat),i+n=bs.length→bs.length≤100 →
  loopC E (ev E) 143 a { V:=[(0,adp0),(1,.v m1 false [.int .i64 who]),(2,.v m2 false [.bool write]),(7,adc 7),(9,at1 9),(23,.at (.c 9) 0 0 0 [] 1 false),(24,vi bs.length),(25,vi i)],H:=[bx (.p 0) (worldL w),bx (.c 7) (spL s),ow (.c 9) [.sl (intsL bs)]],ps:=[0] } =
   if ((ks.drop i).any fun k=>!w.live k)=true then some (.ret,{ V:=[(8,vi 22)],H:=[bx (.p 0) (worldL w)],ps:=[0] })
   else some (.exit 0,{ V:=[(0,adp0),(1,.v m1 false [.int .i64 who]),(2,.v m2 false [.bool write]),(7,adc 7),(9,at1 9),(23,.at (.c 9) 0 0 0 [] 1 false),(24,vi bs.length),(25,vi bs.length),(26,vb false)],H:=[bx (.p 0) (worldL w),bx (.c 7) (spL s),ow (.c 9) [.sl (intsL bs)]],ps:=[0] })
 | 0,i,h,hb=>by
  rw [loopC_of _ _ _ _ ha]
  obtain rfl:i=bs.length:=by omega
  have:ks.drop bs.length=[]:=List.drop_eq_nil_of_le (by rw [hbs];simp)
  rw [this]
  simp [lp,loopsOf,Tryz.f143]
 | n+1,i,h,hb=>by
  have hlt:i<bs.length:=by omega
  have hl2:i<ks.length:=by rw [hbs] at hlt;simpa using hlt
  have hw:=wrapN i (by omega)
  have ih:=lp_locks0 m1 m2 w ha3 who write s ks hks bs hbs a ha n (i+1) (by omega) hb
  push_cast at ih
  have hg:bs[i]=((ks[i]:Nat):Int):=by simp [hbs]
  have hk:=hks _ (List.getElem_mem hl2)
  have hka:ks[i]<w.alive.length:=by omega
  have hlv:w.live ks[i]=w.alive[ks[i]]:=getD_lt _ hka
  rw [loopC_of _ _ _ _ ha,List.drop_eq_getElem_cons hl2,List.any_cons,hlv]
  clear ha
  generalize (ks.drop (i+1)).any (fun k=>!w.live k)=r at ih ⊢
  generalize ks[i]=k at *
  cases e:w.alive[k]<;>simp [lp,loopsOf,Tryz.f143,hlt,hw,hg,hka,e,ih]
end Go.Ev

