/- My texts joined: EvT37, EvT89, EvT108, EvT109. No condition. -/
import Derived.Test.YtngbcdcghbapnaaGreatDoorEs6
set_option linter.unusedVariables false
set_option linter.unusedSimpArgs false

set_option maxRecDepth 100000
set_option maxHeartbeats 4000000
namespace Go.Ev
open Go.Proofs
theorem ev_TextCut0 (m m':M) (n:Nat) (hn:n≤48):ev E 38 [.v m false [.str []],.v m' false [.int .i64 n]]=some { rs:=[.v .own false [.str (List.replicate n 46)],.v .own false [.bool true]],outs:=[] }:=by
 have c1:∀ m,ev E 98 [.v m false [.str []]]=some (rB true):=fun m=>ev_impl_TextOk m [] (by simp)
 have c2:=fun m m'=>ev_sized m m' [] n (by omega) (by simp)
 have hz:sizedS [] n=List.replicate n 46:=by
  unfold sizedS
  cases n with
  | zero=>rfl
  | succ n=>simp [ltI]
 have q1:(n:Int)≤48:=by omega
 rw [hz] at c2
 rw [ev_fn Tryz.f38 rfl Tryz.func38 rfl rfl rfl (Nat.le_of_ble_eq_true rfl)]
 simp [c1,c2,q1]
set_option maxRecDepth 100000
set_option maxHeartbeats 40000000
def LayD (bs:Bs) (p:Nat) (o:Out):Prop:=∃ (size many:Int) (p':Nat),p'≤p+10∧o={ rs:=[.v .own true (layL size many)],outs:=[rdO bs p'] }
theorem layD_of {bs:Bs} {p p':Nat} {a c:Int} (hp:p'≤p+10):Sat (LayD bs p) (some { rs:=[.v .own true [.int .i64 a,.int .i64 c]],outs:=[rdO bs p'] }):=⟨_,rfl,a,c,p',hp,rfl⟩
theorem ev_l3Lays (bs:Bs) (p:Nat) (b:RdB bs p) (hp:p+20≤1099511627776):Sat (LayD bs p) (ev E 88 [rdA bs p]):=by
 obtain ⟨size,many,hl,c1⟩:=ev_l3Lay bs p b (by omega)
 obtain ⟨k,hk,c2⟩:=ev_pick .ro bs (p+1+1) 36 ⟨b.b,by omega⟩ (by omega)
 rw [ev_fn Tryz.f88 rfl Tryz.func88 rfl rfl rfl (Nat.le_of_ble_eq_true rfl)]
 simp [c1,c2]
 by_cases f0:(k:Int)=0
 ·obtain ⟨v,hv,c3⟩:=ev_num .tn bs (p+1+1+1) [0,-1,9] ⟨b.b,by omega⟩ (by simp) (by simp)
  simp at c3
  simp [f0,c3]
  exact layD_of (by omega)
 ·have n0:=eqI_ne f0
  by_cases f1:(k:Int)=1
  ·obtain ⟨v,hv,c3⟩:=ev_num .tn bs (p+1+1+1) [0,-1,4] ⟨b.b,by omega⟩ (by simp) (by simp)
   simp at c3
   simp [f1,c3]
   exact layD_of (by omega)
  ·have n1:=eqI_ne f1
   by_cases f2:(k:Int)=2
   ·simp [f2]
    exact layD_of (by omega)
   ·have n2:=eqI_ne f2
    simp [n0,n1,n2]
    exact layD_of (by omega)
set_option maxRecDepth 100000
set_option maxHeartbeats 8000000
theorem ev_impl_StoreNew:ev E 89 []=some { rs:=[.v .own true (storeL newSt)],outs:=[] }:=by
 rw [ev_fn Tryz.f89 rfl Tryz.func89 rfl rfl rfl (Nat.le_of_ble_eq_true rfl)]
 simp [newSt]
theorem lp_iNew (size many:Int) (a:Code) (ha:a=lp Tryz.f35 0) :
  loopC E (ev E) 35 a { V:=[(2,adc 2),(3,adc 3),(13,vi 0)],H:=[bx (.c 2) (worldL noW),bx (.c 3) (worldL (newAt size many 0))],ps:=[] } =
   some (.exit 0,{ V:=[(2,adc 2),(3,adc 3),(13,vi 3),(14,vb false)],H:=[bx (.c 2) (worldL noW),bx (.c 3) (worldL (newAt size many 3))],ps:=[] }):=by
 have c:=ev_noOwn
 have w1:IntKind.i64.wrap 1=1:=by decide
 have w2:IntKind.i64.wrap 2=2:=by decide
 have w3:IntKind.i64.wrap 3=3:=by decide
 generalize noO.t=t0 at *
 rw [noW_L]
 simp only [newAt,newW,newSt,List.replicate]
 generalize noO=nO at *
 rw [loopC_of _ _ _ _ ha]
 simp [lp,loopsOf,Tryz.f35,c,w1]
 rw [loopC_of _ _ _ _ ha]
 simp [lp,loopsOf,Tryz.f35,c,w2]
 rw [loopC_of _ _ _ _ ha]
 simp [lp,loopsOf,Tryz.f35,c,w3]
 rw [loopC_of _ _ _ _ ha]
 simp [lp,loopsOf,Tryz.f35]
theorem ev_impl_WorldNew (m:M) (size many:Int):ev E 35 [.v m true (layL size many)]=some (rW1 .own (newWL size many)):=by
 have c1:∀ m,ev E 82 [.v m true (layL size many)]=some (rB (layOk size many)):=fun m=>ev_impl_LayOk m size many
 have c2:=ev_impl_StoreNew
 unfold newWL
 cases e:layOk size many
 ·rw [e] at c1
  rw [ev_fn Tryz.f35 rfl Tryz.func35 rfl rfl rfl (Nat.le_of_ble_eq_true rfl)]
  simp [c1,rW1,noW,noS]
 ·rw [e] at c1
  have l0:=lp_iNew size many _ rfl
  rw [noW_L] at l0
  simp only [newAt,newW,newSt,List.replicate] at l0
  simp only [newSt] at c2
  simp only [worldL,strsL,intsL,boolsL,holdL,noH,List.map_cons,List.map_nil] at l0
  rw [ev_fn Tryz.f35 rfl Tryz.func35 rfl rfl rfl (Nat.le_of_ble_eq_true rfl)]
  simp [c1,c2]
  rw [loopC_at ?_ l0]
  ·simp [rW1,newW,newSt,noH]
  ·rfl
set_option maxRecDepth 100000
set_option maxHeartbeats 8000000
theorem newW_file {size many:Int} (h:layOk size many=true):(newW size many).file=List.replicate 48 46:=by
 apply List.ext_getElem
 ·simp [WorldT.file]
 ·intro j h1 h2
  simp only [WorldT.file,List.getElem_map,List.getElem_range,List.getElem_replicate]
  unfold WorldT.byte fileAt newW newSt
  dsimp only
  have:∀ i:Nat,([[],[],[]]:List Bs).getD i []=[]:=fun i=>by
   rcases i with _ | _ | _ | i<;>rfl
  rw [this]
  rfl
theorem newW_text {size many:Int} (h:layOk size many=true):(newW size many).text=List.replicate 48 46:=by
 rw [← newW_file h]
 have P:=newW_ok h
 obtain ⟨t1,t2⟩:=P.textGet
 apply List.ext_getElem
 ·rw [t1,file_len]
 ·intro j h1 h2
  have hj:j<48:=by omega
  have:=t2 j hj
  rw [see_none (fun i hi=>by
   have:(newW size many).own i=noO:=by
    rcases i with _ | _ | _ | i
    ·rfl
    ·rfl
    ·rfl
    ·omega
   rw [this];rfl)] at this
  rw [List.getD_eq_getElem?_getD,List.getElem?_eq_getElem h1] at this
  simp only [Option.getD_some] at this
  rw [this]
  simp [WorldT.file]
end Go.Ev

