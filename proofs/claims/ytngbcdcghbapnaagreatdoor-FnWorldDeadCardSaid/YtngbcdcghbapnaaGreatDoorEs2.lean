/- My texts joined: EvT89, EvT91, EvT94, EvW13. No condition. -/
import Derived.Test.YtngbcdcghbapnaaGreatDoorEn32
set_option linter.unusedVariables false
set_option linter.unusedSimpArgs false

set_option maxRecDepth 100000
set_option maxHeartbeats 40000000
namespace Go.Ev
open Go.Proofs
structure StoreK (n:Nat) (s:StoreT):Prop where
 now:s.now.length≤n
 sure:s.sure.length≤n
 last:s.last.length≤n
 slast:s.slast.length≤n
 floors:s.floors.length≤n
 nowT:∀ x∈s.now,x.length≤n
 sureT:∀ x∈s.sure,x.length≤n
theorem StoreK.c {n:Nat} {s:StoreT} (h:StoreK n s) (hn:n≤4000000):StoreC s :=
 ⟨⟨by have:=h.now;omega,by have:=h.sure;omega,by have:=h.last;omega,by have:=h.slast;omega,by have:=h.floors;omega⟩,fun x hx=>by have:=h.nowT x hx;omega,fun x hx=>by have:=h.sureT x hx;omega⟩
end Go.Ev


set_option maxRecDepth 100000
set_option maxHeartbeats 8000000
namespace Go.Ev
open Go.Proofs
def OwR2 (m:M):Prop:=m=.own∨m=.ro
theorem OwR2.o {m:M} (h:OwR2 m):OwRo m:=h.imp_right .inl
end Go.Ev


set_option maxRecDepth 100000
set_option maxHeartbeats 40000000
namespace Go.Ev
open Go.Proofs
structure WorldK (n lo:Nat) (w:WorldT):Prop where
 st:StoreK n w.st
 locks:lo≤w.locks.length∧w.locks.length≤n
 holds:∀ h∈w.locks,h.r.length≤n∧h.w.length≤n
 owns:w.owns.length=3
 owned:∀ o∈w.owns,o.t.length≤n∧o.h.length≤n∧o.d.length≤n
 epochs:w.epochs.length=3
 alive:w.alive.length≤n
 kept:w.kept.length≤n
 late:w.late.length≤n
 keptT:∀ q∈w.kept,q.data.length≤n
 lateT:∀ q∈w.late,q.data.length≤n
theorem StoreK.mono {n n':Nat} {s:StoreT} (h:StoreK n s) (hn:n≤n'):StoreK n' s :=
 ⟨by have:=h.now;omega,by have:=h.sure;omega,by have:=h.last;omega,by have:=h.slast;omega,by have:=h.floors;omega,fun x hx=>by have:=h.nowT x hx;omega,fun x hx=>by have:=h.sureT x hx;omega⟩
theorem WorldK.mono {n n' lo:Nat} {w:WorldT} (h:WorldK n lo w) (hn:n≤n'):WorldK n' lo w :=
 ⟨h.st.mono hn,⟨h.locks.1,by have:=h.locks.2;omega⟩,fun x hx=>by have:=h.holds x hx;omega,h.owns,fun x hx=>by have:=h.owned x hx;omega,h.epochs,by have:=h.alive;omega,by have:=h.kept;omega,by have:=h.late;omega,fun x hx=>by have:=h.keptT x hx;omega,fun x hx=>by have:=h.lateT x hx;omega⟩
theorem WorldK.c {n lo:Nat} {w:WorldT} (h:WorldK n lo w) (hn:n≤4000000):WorldC w :=
 ⟨⟨(h.st.c hn).toStoreB,by have:=h.locks.2;omega,fun x hx=>by have:=h.holds x hx;exact ⟨by omega,by omega⟩,by have:=h.owns;omega,fun x hx=>by have:=h.owned x hx;exact ⟨by omega,by omega⟩,by have:=h.epochs;omega,by have:=h.alive;omega,by have:=h.kept;omega,by have:=h.late;omega⟩,h.st.c hn,fun x hx=>by have:=h.owned x hx;omega,fun x hx=>by have:=h.keptT x hx;omega,fun x hx=>by have:=h.lateT x hx;omega⟩
theorem StoreP.k {s:StoreT} (h:StoreP s):StoreK 10000 s :=
 ⟨by have:=h.now;omega,by have:=h.sure;omega,by have:=h.last;omega,by have:=h.slast;omega,by have:=h.floors;omega,fun x hx=>by have:=txtOk_len (h.nowT x hx);omega,fun x hx=>by have:=txtOk_len (h.sureT x hx);omega⟩
theorem WorldP.k {w:WorldT} (h:WorldP w):WorldK 10000 3 w:=by
 have h1:=h.lk.len
 have h2:=h.keptN
 have h3:=h.lateN
 have h4:=h.alive
 refine ⟨h.st.k,by omega,fun x hx=>?_,h.owns,fun x hx=>?_,h.epochs,by omega,by omega,by omega,fun q hq=>?_,fun q hq=>?_⟩
 ·obtain ⟨i,hi,rfl⟩:=List.getElem_of_mem hx
  have e:w.locks.getD i noH=w.locks[i]:=getD_lt _ hi
  have a:=spsOk_len (h.lk.r i (by omega))
  have b:=spsOk_len (h.lk.w i (by omega))
  rw [e] at a b
  omega
 ·obtain ⟨i,hi,rfl⟩:=List.getElem_of_mem hx
  have ho:=h.own i (by have:=h.owns;omega)
  rw [show w.own i=w.owns[i] from getD_lt _ hi] at ho
  have b:=ownOk_bd ho
  have b1:=spsOk_len b.2.1
  have b2:=spsOk_len b.2.2.1
  omega
 ·obtain ⟨i,hi,rfl⟩:=List.getElem_of_mem hq
  have hc:=storeAll_code w.kept (storeFall w.st) i (by rw [h.kept];simp [zeros];exact hi) hi (by simp [h.kept,zeros])
  have:=wrOk_len hc.wr
  omega
 ·have:=wrOk_len (h.late q hq).1.wr
  omega
end Go.Ev


namespace Go.Ev
theorem WriteR.sub {w x:WorldT} {i lo:Nat} {data:Bs} (hw:WorldP w) (hi:i<3) (R:WriteR w i lo data x):subS x.text ((lo:Int),(lo:Int)+data.length)=data:=by
 have hl:=wrOk_len R.wr
 obtain ⟨t1,t2⟩:=R.ok.textGet
 have e1:((lo:Int)+data.length).toNat=lo+data.length:=by omega
 apply List.ext_getElem?
 intro j
 simp only [subS,Int.toNat_natCast,e1,List.getElem?_take,List.getElem?_drop]
 by_cases hj:j<data.length
 ·rw [if_pos (by omega),List.getElem?_eq_getElem hj]
  have g:=t2 (lo+j) (by omega)
  rw [R.see hw hi (by omega),if_pos (by omega)] at g
  rw [List.getD_eq_getElem?_getD,List.getD_eq_getElem?_getD,List.getElem?_eq_getElem (by omega),show lo+j - lo=j by omega,List.getElem?_eq_getElem hj] at g
  simp only [Option.getD_some] at g
  rw [List.getElem?_eq_getElem (by omega),g]
 ·rw [if_neg (by omega),List.getElem?_eq_none (by omega)]
end Go.Ev

