/- My texts joined: EvT94, EvT95. No condition. -/
import Derived.Test.YtngbcdcghbapnaaGreatDoorEn1
import Derived.Test.YtngbcdcghbapnaaGreatDoorEn2
import Derived.Test.YtngbcdcghbapnaaGreatDoorEn5
import Derived.Test.YtngbcdcghbapnaaGreatDoorEn6
import Derived.Test.YtngbcdcghbapnaaGreatDoorEn7
import Derived.Test.YtngbcdcghbapnaaGreatDoorEn8
import Derived.Test.YtngbcdcghbapnaaGreatDoorEn9
import Derived.Test.YtngbcdcghbapnaaGreatDoorEn10
import Derived.Test.YtngbcdcghbapnaaGreatDoorEn11
import Derived.Test.YtngbcdcghbapnaaGreatDoorEn12
import Derived.Test.YtngbcdcghbapnaaGreatDoorEn13
import Derived.Test.YtngbcdcghbapnaaGreatDoorEn14
import Derived.Test.YtngbcdcghbapnaaGreatDoorEn16
import Derived.Test.YtngbcdcghbapnaaGreatDoorEn18
import Derived.Test.YtngbcdcghbapnaaGreatDoorEn19
import Derived.Test.YtngbcdcghbapnaaGreatDoorEn20
import Derived.Test.YtngbcdcghbapnaaGreatDoorEn21
import Derived.Test.YtngbcdcghbapnaaGreatDoorEn25
import Derived.Test.YtngbcdcghbapnaaGreatDoorEn26
import Derived.Test.YtngbcdcghbapnaaGreatDoorEn28
import Derived.Test.YtngbcdcghbapnaaGreatDoorEn30
import Derived.Test.YtngbcdcghbapnaaGreatDoorEn31
import Derived.Test.YtngbcdcghbapnaaGreatDoorEn32
import Derived.Test.YtngbcdcghbapnaaGreatDoorEn34
import Derived.Test.YtngbcdcghbapnaaGreatDoorEn35
set_option linter.unusedVariables false
set_option linter.unusedSimpArgs false

set_option maxRecDepth 100000
set_option maxHeartbeats 40000000
namespace Go.Ev
open Go.Proofs
structure WorldK (n lo:Nat) (w:WorldT):Prop where
 st:StoreK n w.st
 locks:lo≤w.locks.length∧w.locks.length≤n
 holds:∀ h∈w.locks,h.r.length≤n∧h.w.length≤n
 owns:w.owns.length=3
 owned:∀ o∈w.owns,o.t.length≤n∧o.h.length≤n∧o.d.length≤n
 epochs:w.epochs.length=3
 alive:w.alive.length≤n
 kept:w.kept.length≤n
 late:w.late.length≤n
 keptT:∀ q∈w.kept,q.data.length≤n
 lateT:∀ q∈w.late,q.data.length≤n
theorem StoreK.mono {n n':Nat} {s:StoreT} (h:StoreK n s) (hn:n≤n'):StoreK n' s :=
 ⟨by have:=h.now;omega,by have:=h.sure;omega,by have:=h.last;omega,by have:=h.slast;omega,by have:=h.floors;omega,fun x hx=>by have:=h.nowT x hx;omega,fun x hx=>by have:=h.sureT x hx;omega⟩
theorem WorldK.mono {n n' lo:Nat} {w:WorldT} (h:WorldK n lo w) (hn:n≤n'):WorldK n' lo w :=
 ⟨h.st.mono hn,⟨h.locks.1,by have:=h.locks.2;omega⟩,fun x hx=>by have:=h.holds x hx;omega,h.owns,fun x hx=>by have:=h.owned x hx;omega,h.epochs,by have:=h.alive;omega,by have:=h.kept;omega,by have:=h.late;omega,fun x hx=>by have:=h.keptT x hx;omega,fun x hx=>by have:=h.lateT x hx;omega⟩
theorem WorldK.c {n lo:Nat} {w:WorldT} (h:WorldK n lo w) (hn:n≤4000000):WorldC w :=
 ⟨⟨(h.st.c hn).toStoreB,by have:=h.locks.2;omega,fun x hx=>by have:=h.holds x hx;exact ⟨by omega,by omega⟩,by have:=h.owns;omega,fun x hx=>by have:=h.owned x hx;exact ⟨by omega,by omega⟩,by have:=h.epochs;omega,by have:=h.alive;omega,by have:=h.kept;omega,by have:=h.late;omega⟩,h.st.c hn,fun x hx=>by have:=h.owned x hx;omega,fun x hx=>by have:=h.keptT x hx;omega,fun x hx=>by have:=h.lateT x hx;omega⟩
theorem StoreP.k {s:StoreT} (h:StoreP s):StoreK 10000 s :=
 ⟨by have:=h.now;omega,by have:=h.sure;omega,by have:=h.last;omega,by have:=h.slast;omega,by have:=h.floors;omega,fun x hx=>by have:=txtOk_len (h.nowT x hx);omega,fun x hx=>by have:=txtOk_len (h.sureT x hx);omega⟩
theorem WorldP.k {w:WorldT} (h:WorldP w):WorldK 10000 3 w:=by
 have h1:=h.lk.len
 have h2:=h.keptN
 have h3:=h.lateN
 have h4:=h.alive
 refine ⟨h.st.k,by omega,fun x hx=>?_,h.owns,fun x hx=>?_,h.epochs,by omega,by omega,by omega,fun q hq=>?_,fun q hq=>?_⟩
 ·obtain ⟨i,hi,rfl⟩:=List.getElem_of_mem hx
  have e:w.locks.getD i noH=w.locks[i]:=getD_lt _ hi
  have a:=spsOk_len (h.lk.r i (by omega))
  have b:=spsOk_len (h.lk.w i (by omega))
  rw [e] at a b
  omega
 ·obtain ⟨i,hi,rfl⟩:=List.getElem_of_mem hx
  have ho:=h.own i (by have:=h.owns;omega)
  rw [show w.own i=w.owns[i] from getD_lt _ hi] at ho
  have b:=ownOk_bd ho
  have b1:=spsOk_len b.2.1
  have b2:=spsOk_len b.2.2.1
  omega
 ·obtain ⟨i,hi,rfl⟩:=List.getElem_of_mem hq
  have hc:=storeAll_code w.kept (storeFall w.st) i (by rw [h.kept];simp [zeros];exact hi) hi (by simp [h.kept,zeros])
  have:=wrOk_len hc.wr
  omega
 ·have:=wrOk_len (h.late q hq).1.wr
  omega
def WD (n lo:Nat) (ok:Bool) (bs:Bs) (p:Nat) (o:Out):Prop:=∃ (m:M) (w:WorldT) (p':Nat),OwRo m∧WorldK n lo w∧(ok=true→w.st.last.length=3)∧p'≤p+4000∧o={ rs:=[.v m true (worldL w)],outs:=[rdO bs p'] }
theorem wd_of {n lo:Nat} {ok:Bool} {bs:Bs} {p p':Nat} {m:M} {a b:Int} {now sure:List Bs} {last slast floors:List Int} {lk:List HoldT} {ow:List OwnT} {ep:List Int} {al:List Bool} {kp lt:List ReqT}
  (K:WorldK n lo ⟨a,b,⟨now,sure,last,slast,floors⟩,lk,ow,ep,al,kp,lt⟩) (hl:ok=true→last.length=3) (hm:OwRo m) (hp:p'≤p+4000) :
  Sat (WD n lo ok bs p) (some { rs:=[.v m true [.int .i64 a,.int .i64 b,.sl (strsL now),.sl (strsL sure),.sl (intsL last),.sl (intsL slast),.sl (intsL floors),.sl (lk.map holdL),.sl (ow.map ownL),.sl (intsL ep),.sl (boolsL al),.sl (kp.map reqL),.sl (lt.map reqL)]],outs:=[rdO bs p'] }) :=
 ⟨_,rfl,m,⟨a,b,⟨now,sure,last,slast,floors⟩,lk,ow,ep,al,kp,lt⟩,p',hm,K,hl,hp,rfl⟩
theorem ev_l7Bent (m:M) (hm:m.isOwn=false) (w:WorldT) (n lo:Nat) (hn1:1000≤n) (hn:n≤3000000) (hlo:2≤lo) (K:WorldK n lo w) (hl3:w.st.last.length=3) (bs:Bs) (p:Nat) (b:RdB bs p) (hp:p+8000≤1099511627776) :
  Sat (WD (n+400) (lo - 1) (storeOk w.st) bs p) (ev E 49 [rdA bs p,.v m true (worldL w)]):=by
 have c1:=fun m hm=>ev_l7Copy m hm w (K.c (by omega)).toWorldB
 obtain ⟨k,hk0,c2⟩:=ev_pick .ro bs p 100 b (by omega)
 have KC:=K.c (by omega)
 obtain ⟨sz,mn,st,lk,ow,ep,al,kp,lt⟩:=w
 dsimp only at *
 have sK:=K.st.mono (show n≤n+400 by omega)
 have hlk:lo - 1≤lk.length∧lk.length≤n+400:=by have:=K.locks;dsimp only at this;omega
 have hhd:∀ h∈lk,h.r.length≤n+400∧h.w.length≤n+400:=fun h hh=>by have:=K.holds h hh;omega
 have how:ow.length=3:=K.owns
 have hod:∀ o∈ow,o.t.length≤n+400∧o.h.length≤n+400∧o.d.length≤n+400:=fun o ho=>by have:=K.owned o ho;omega
 have hep:ep.length=3:=K.epochs
 have hal:al.length≤n+400:=by have:=K.alive;dsimp only at this;omega
 have hkp:kp.length≤n+400:=by have:=K.kept;dsimp only at this;omega
 have hlt:lt.length≤n+400:=by have:=K.late;dsimp only at this;omega
 have hkT:∀ q∈kp,q.data.length≤n+400:=fun q hq=>by have:=K.keptT q hq;omega
 have hlT:∀ q∈lt,q.data.length≤n+400:=fun q hq=>by have:=K.lateT q hq;omega
 have hoL:∀ ok:Bool,ok=true→st.last.length=3:=fun _ _=>hl3
 have e0:0<ep.length:=by omega
 have ene:ep≠[]:=fun h=>by rw [h] at e0;simp at e0
 rw [ev_fn Tryz.f49 rfl Tryz.func49 rfl rfl rfl (Nat.le_of_ble_eq_true rfl)]
 simp [c1,c2,hm]
 by_cases f0:(k:Int)=0
 ·simp [f0]
  exact wd_of ⟨sK,hlk,hhd,how,hod,hep,hal,hkp,hlt,hkT,hlT⟩ (hoL _) (.inl rfl) (by omega)
 have g0:=eqI_ne f0
 by_cases f1:(k:Int)=1
 ·have d0:=fun m hm=>ev_spec_StoreSync m hm st KC.stC
  obtain ⟨s2,hs2,hK2,hl2⟩:∃ s2,(if storeOk st=true then rS1 (storeSync st) else rS1 noS)=rS1 s2∧StoreK n s2∧(storeOk st=true→s2.last.length=3):=by
   cases storeOk st
   ·exact ⟨noS,rfl,by refine ⟨?_,?_,?_,?_,?_,?_,?_⟩<;>simp [noS],fun h=>by cases h⟩
   ·exact ⟨storeSync st,rfl,⟨K.st.now,K.st.now,K.st.last,K.st.last,K.st.floors,K.st.nowT,K.st.nowT⟩,fun _=>hl3⟩
  rw [hs2] at d0
  simp only [rS1] at d0
  obtain ⟨_,d1,m2,s3,p',hm2,hK3,hl4,hp',rfl⟩:=ev_l5Bent .tn rfl s2 n (by omega) (by omega) hK2 bs (p+1) ⟨b.b,by omega⟩ (by omega)
  have h3:storeOk st=true→s3.last.length=3:=fun h=>by rw [hl4];exact hl2 h
  obtain ⟨a1,a2,a3,a4,a5⟩:=s3
  rcases hm2 with rfl | rfl
  ·simp [f1,d0,d1]
   exact wd_of ⟨hK3.mono (by omega),hlk,hhd,how,hod,hep,hal,hkp,hlt,hkT,hlT⟩ h3 (.inl rfl) (by omega)
  ·simp [f1,d0,d1]
   exact wd_of ⟨hK3.mono (by omega),hlk,hhd,how,hod,hep,hal,hkp,hlt,hkT,hlT⟩ h3 (.inr (.inl rfl)) (by omega)
 have g1:=eqI_ne f1
 by_cases f2:(k:Int)=2
 ·obtain ⟨_,d1,m2,t2,p',hm2,q0,q1,q2,hp',rfl⟩:=ev_l4Bent .tn rfl lk n hn (by have:=K.locks;dsimp only at this;omega) (by have:=K.locks;dsimp only at this;omega) (fun h hh=>K.holds h hh) bs (p+1) ⟨b.b,by omega⟩ (by omega)
  have hlk2:lo - 1≤t2.length∧t2.length≤n+400:=by have:=K.locks;dsimp only at this;omega
  have hhd2:∀ h∈t2,h.r.length≤n+400∧h.w.length≤n+400:=fun h hh=>by have:=q2 h hh;omega
  rcases hm2 with rfl | rfl | rfl
  ·simp [f2,d1]
   exact wd_of ⟨sK,hlk2,hhd2,how,hod,hep,hal,hkp,hlt,hkT,hlT⟩ (hoL _) (.inl rfl) (by omega)
  ·simp [f2,d1]
   exact wd_of ⟨sK,hlk2,hhd2,how,hod,hep,hal,hkp,hlt,hkT,hlT⟩ (hoL _) (.inr (.inl rfl)) (by omega)
  ·simp [f2,d1]
   exact wd_of ⟨sK,hlk2,hhd2,how,hod,hep,hal,hkp,hlt,hkT,hlT⟩ (hoL _) (.inr (.inr rfl)) (by omega)
 have g2:=eqI_ne f2
 by_cases f3:(k:Int)=3
 ·obtain ⟨j,hj,d1⟩:=ev_pick .ro bs (p+1) 3 ⟨b.b,by omega⟩ (by omega)
  have hj:=hj (by omega)
  have hjl:j<ow.length:=by omega
  obtain ⟨q,t,h,d,O,hq,d2⟩:=ev_l6Some bs (p+1+1) ⟨b.b,by omega⟩ (by omega)
  have he:(ow.map ownL).set j (owL t h d)=(ow.set j ⟨t,h,d⟩).map ownL:=by simp [List.map_set]
  simp [f3,d1,d2,hjl]
  simp only [owL] at he
  rw [he]
  exact wd_of ⟨sK,hlk,hhd,by simpa using how,fun o ho=>by
   rcases List.mem_or_eq_of_mem_set ho with z | rfl
   ·exact hod o z
   ·have o1:=O.t;have o2:=O.h;have o3:=O.d
    dsimp only;omega,hep,hal,hkp,hlt,hkT,hlT⟩ (hoL _) (.inl rfl) (by omega)
 have g3:=eqI_ne f3
 by_cases f4:(k:Int)=4
 ·obtain ⟨y,hy,d1⟩:=ev_num .tn bs (p+1) [-1,101,IntKind.i64.wrap (ep[0]+1),100] ⟨b.b,by omega⟩ (by simp) (by simp)
  have he:(intsL ep).set 0 [.int .i64 y]=intsL (ep.set 0 y):=by simp [List.map_set]
  simp at d1
  simp [f4,d1,e0,ene]
  rw [he]
  exact wd_of ⟨sK,hlk,hhd,how,hod,by simpa using hep,hal,hkp,hlt,hkT,hlT⟩ (hoL _) (.inl rfl) (by omega)
 have g4:=eqI_ne f4
 by_cases f5:(k:Int)=5
 ·cases e1:ltI 0 (al.length:Int)
  ·simp [f5,e1]
   exact wd_of ⟨sK,hlk,hhd,how,hod,hep,hal,hkp,hlt,hkT,hlT⟩ (hoL _) (.inl rfl) (by omega)
  ·obtain ⟨j,hj,d1⟩:=ev_pick .ro bs (p+1) (al.length:Int) ⟨b.b,by omega⟩ (by omega)
   have hj:=hj (by have:=ltI_iff.1 e1;omega)
   have hjl:j<al.length:=by omega
   obtain ⟨j2,hj2,d2⟩:=ev_pick .ro bs (p+1+1) 2 ⟨b.b,by omega⟩ (by omega)
   have he:∀ y,(boolsL al).set j [.bool y]=boolsL (al.set j y):=fun y=>by simp [List.map_set]
   simp [f5,e1,d1,d2,hjl]
   rw [he]
   exact wd_of ⟨sK,hlk,hhd,how,hod,hep,by simpa using hal,hkp,hlt,hkT,hlT⟩ (hoL _) (.inl rfl) (by omega)
 have g5:=eqI_ne f5
 by_cases f6:(k:Int)=6
 ·obtain ⟨_,d1,q,p',hq,hp',rfl⟩:=ev_l5Ask .tn rfl st hl3 (by have:=K.st.floors;dsimp only at this;omega) bs (p+1) ⟨b.b,by omega⟩ (by omega)
  have h1:(kp.length+1)*56≤17592186044416:=by omega
  have h2:kp.length+1≤17592186044416:=by omega
  have he:kp.map reqL++[reqL q]=(kp++[q]).map reqL:=by simp
  simp [f6,d1,h1,h2]
  simp only [reqL] at he
  rw [he]
  exact wd_of ⟨sK,hlk,hhd,how,hod,hep,hal,by have:=K.kept;simp at this ⊢;omega,hlt,fun x hx=>by
   rcases List.mem_append.1 hx with z | z
   ·exact hkT x z
   ·rw [List.mem_singleton.1 z];omega,hlT⟩ (hoL _) (.inl rfl) (by omega)
 have g6:=eqI_ne f6
 by_cases f7:(k:Int)=7
 ·obtain ⟨_,d1,q,p',hq,hp',rfl⟩:=ev_l5Ask .tn rfl st hl3 (by have:=K.st.floors;dsimp only at this;omega) bs (p+1) ⟨b.b,by omega⟩ (by omega)
  have h1:(lt.length+1)*56≤17592186044416:=by omega
  have h2:lt.length+1≤17592186044416:=by omega
  have he:lt.map reqL++[reqL q]=(lt++[q]).map reqL:=by simp
  simp [f7,d1,h1,h2]
  simp only [reqL] at he
  rw [he]
  exact wd_of ⟨sK,hlk,hhd,how,hod,hep,hal,hkp,by have:=K.late;simp at this ⊢;omega,hkT,fun x hx=>by
   rcases List.mem_append.1 hx with z | z
   ·exact hlT x z
   ·rw [List.mem_singleton.1 z];omega⟩ (hoL _) (.inl rfl) (by omega)
 have g7:=eqI_ne f7
 by_cases f8:(k:Int)=8
 ·cases e1:ltI 0 (al.length:Int)
  ·simp [f8,e1]
   exact wd_of ⟨sK,hlk,hhd,how,hod,hep,hal,hkp,hlt,hkT,hlT⟩ (hoL _) (.inl rfl) (by omega)
  ·have h1:(1:Int)≤al.length:=by have:=ltI_iff.1 e1;omega
   have h2:1≤al.length:=by omega
   have e:(List.take al.length (boolsL al)).tail=boolsL (al.drop 1):=by
    rw [List.take_of_length_le (by simp)]
    simp
   simp [-List.map_drop,← List.map_drop,f8,e1,h1,h2]
   rw [e]
   exact wd_of ⟨sK,hlk,hhd,how,hod,hep,by simp;omega,hkp,hlt,hkT,hlT⟩ (hoL _) (.inr (.inl rfl)) (by omega)
 have g8:=eqI_ne f8
 by_cases f9:(k:Int)=9
 ·obtain ⟨s2,m2,hl,d1⟩:=ev_l3Lay bs (p+1) ⟨b.b,by omega⟩ (by omega)
  simp [f9,d1]
  exact wd_of ⟨sK,hlk,hhd,how,hod,hep,hal,hkp,hlt,hkT,hlT⟩ (hoL _) (.inl rfl) (by omega)
 have g9:=eqI_ne f9
 simp [g0,g1,g2,g3,g4,g5,g6,g7,g8,g9]
 exact wd_of ⟨sK,hlk,hhd,how,hod,hep,hal,hkp,hlt,hkT,hlT⟩ (hoL _) (.inl rfl) (by omega)
set_option maxRecDepth 100000
set_option maxHeartbeats 8000000
theorem drawn_w (bs:Bs) (hb:bs.length≤2000):∃ (w0:WorldT) (p0:Nat) (m:M) (w:WorldT) (p:Nat),WorldP w0∧OwRo m∧WorldK 11000 2 w∧(w.st.last.length=3)∧p0≤20000∧p≤30000 ∧
  ev E 50 [rdA bs 0]=some { rs:=[.v .own true (worldL w0)],outs:=[rdO bs p0] } ∧
  ev E 49 [rdA bs p0,.v .tn true (worldL w0)]=some { rs:=[.v m true (worldL w)],outs:=[rdO bs p] }:=by
 obtain ⟨w0,p0,h0,hp0,c1⟩:=ev_l7Some bs 0 ⟨hb,by omega⟩ (by omega)
 obtain ⟨_,c2,m,w,p,hm,hK,hl,hp,rfl⟩:=ev_l7Bent .tn rfl w0 10000 3 (by omega) (by omega) (by omega) h0.k h0.st.last bs p0 ⟨hb,by omega⟩ (by omega)
 exact ⟨w0,p0,m,w,p,h0,hm,hK.mono (by omega),hl (storeOk_iff.2 h0.st),by omega,by omega,c1,c2⟩
theorem ev_DrawWorldDo (bs:Bs):∃ (m:M) (w:WorldT) (e:EvT),OwRo m∧WorldC w∧e.data.length≤300∧ev E 15 [.v .ro false [.sl (rowsOfBytes bs)]]=some { rs:=[.v m true (worldL w),.v .own true (evL e)],outs:=[] }:=by
 have c0:=ev_l10Open bs
 have hb:(bs.take 2000).length≤2000:=by simp;omega
 generalize bs.take 2000=b2 at c0 hb
 obtain ⟨w0,p0,m,w,p,h0,hm,hK,hl,hp0,hp,c1,c2⟩:=drawn_w b2 hb
 have C:=hK.c (by omega)
 rcases hm with rfl | rfl | rfl
 ·obtain ⟨_,c3,e,p',he,hp',_,rfl⟩:=ev_l7Ev .tn rfl w C.toWorldB b2 p ⟨hb,by omega⟩ (by omega)
  refine ⟨.own,w,e,.inl rfl,C,he,?_⟩
  rw [ev_fn Tryz.f15 rfl Tryz.func15 rfl rfl rfl (Nat.le_of_ble_eq_true rfl)]
  simp [c0,c1,c2,c3]
 ·obtain ⟨_,c3,e,p',he,hp',_,rfl⟩:=ev_l7Ev .ro rfl w C.toWorldB b2 p ⟨hb,by omega⟩ (by omega)
  refine ⟨.ro,w,e,.inr (.inl rfl),C,he,?_⟩
  rw [ev_fn Tryz.f15 rfl Tryz.func15 rfl rfl rfl (Nat.le_of_ble_eq_true rfl)]
  simp [c0,c1,c2,c3]
 ·obtain ⟨_,c3,e,p',he,hp',_,rfl⟩:=ev_l7Ev .tn rfl w C.toWorldB b2 p ⟨hb,by omega⟩ (by omega)
  refine ⟨.tn,w,e,.inr (.inr rfl),C,he,?_⟩
  rw [ev_fn Tryz.f15 rfl Tryz.func15 rfl rfl rfl (Nat.le_of_ble_eq_true rfl)]
  simp [c0,c1,c2,c3]
theorem ev_DrawWorldText (bs:Bs):∃ (m:M) (w:WorldT),OwRo m∧WorldC w∧ev E 20 [.v .ro false [.sl (rowsOfBytes bs)]]=some { rs:=[.v m true (worldL w)],outs:=[] }:=by
 have c0:=ev_l10Open bs
 have hb:(bs.take 2000).length≤2000:=by simp;omega
 generalize bs.take 2000=b2 at c0 hb
 obtain ⟨w0,p0,m,w,p,h0,hm,hK,hl,hp0,hp,c1,c2⟩:=drawn_w b2 hb
 refine ⟨m,w,hm,hK.c (by omega),?_⟩
 rw [ev_fn Tryz.f20 rfl Tryz.func20 rfl rfl rfl (Nat.le_of_ble_eq_true rfl)]
 rcases hm with rfl | rfl | rfl<;>simp [c0,c1,c2]
theorem ev_DrawWorldOk (bs:Bs):∃ (m:M) (w:WorldT),OwRo m∧WorldC w∧ev E 27 [.v .ro false [.sl (rowsOfBytes bs)]]=some { rs:=[.v m true (worldL w)],outs:=[] }:=by
 have c0:=ev_l10Open bs
 have hb:(bs.take 2000).length≤2000:=by simp;omega
 generalize bs.take 2000=b2 at c0 hb
 obtain ⟨w0,p0,m,w,p,h0,hm,hK,hl,hp0,hp,c1,c2⟩:=drawn_w b2 hb
 rcases hm with rfl | rfl | rfl
 ·obtain ⟨_,c3,m',w',p',hm',hK',_,hp',rfl⟩:=ev_l7Bent .tn rfl w 11000 2 (by omega) (by omega) (by omega) hK hl b2 p ⟨hb,by omega⟩ (by omega)
  refine ⟨m',w',hm',hK'.c (by omega),?_⟩
  rw [ev_fn Tryz.f27 rfl Tryz.func27 rfl rfl rfl (Nat.le_of_ble_eq_true rfl)]
  rcases hm' with rfl | rfl | rfl<;>simp [c0,c1,c2,c3]
 ·obtain ⟨_,c3,m',w',p',hm',hK',_,hp',rfl⟩:=ev_l7Bent .ro rfl w 11000 2 (by omega) (by omega) (by omega) hK hl b2 p ⟨hb,by omega⟩ (by omega)
  refine ⟨cln m',w',cln_ok hm',hK'.c (by omega),?_⟩
  rw [ev_fn Tryz.f27 rfl Tryz.func27 rfl rfl rfl (Nat.le_of_ble_eq_true rfl)]
  rcases hm' with rfl | rfl | rfl<;>simp [c0,c1,c2,c3,cln]
 ·obtain ⟨_,c3,m',w',p',hm',hK',_,hp',rfl⟩:=ev_l7Bent .tn rfl w 11000 2 (by omega) (by omega) (by omega) hK hl b2 p ⟨hb,by omega⟩ (by omega)
  refine ⟨m',w',hm',hK'.c (by omega),?_⟩
  rw [ev_fn Tryz.f27 rfl Tryz.func27 rfl rfl rfl (Nat.le_of_ble_eq_true rfl)]
  rcases hm' with rfl | rfl | rfl<;>simp [c0,c1,c2,c3]
end Go.Ev

