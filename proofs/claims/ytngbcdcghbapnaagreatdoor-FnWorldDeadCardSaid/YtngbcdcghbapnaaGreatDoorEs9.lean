/- My texts joined: EvT94. No condition. -/
import Derived.Test.YtngbcdcghbapnaaGreatDoorEs8
set_option linter.unusedVariables false
set_option linter.unusedSimpArgs false

set_option maxRecDepth 100000
set_option maxHeartbeats 40000000
namespace Go.Ev
open Go.Proofs
def WD (n lo:Nat) (ok:Bool) (bs:Bs) (p:Nat) (o:Out):Prop:=∃ (m:M) (w:WorldT) (p':Nat),OwR2 m∧WorldK n lo w∧(ok=true→w.st.last.length=3)∧p'≤p+4000∧o={ rs:=[.v m true (worldL w)],outs:=[rdO bs p'] }
theorem wd_of {n lo:Nat} {ok:Bool} {bs:Bs} {p p':Nat} {m:M} {a b:Int} {now sure:List Bs} {last slast floors:List Int} {lk:List HoldT} {ow:List OwnT} {ep:List Int} {al:List Bool} {kp lt:List ReqT}
  (K:WorldK n lo ⟨a,b,⟨now,sure,last,slast,floors⟩,lk,ow,ep,al,kp,lt⟩) (hl:ok=true→last.length=3) (hm:OwR2 m) (hp:p'≤p+4000) :
  Sat (WD n lo ok bs p) (some { rs:=[.v m true [.int .i64 a,.int .i64 b,.sl (strsL now),.sl (strsL sure),.sl (intsL last),.sl (intsL slast),.sl (intsL floors),.sl (lk.map holdL),.sl (ow.map ownL),.sl (intsL ep),.sl (boolsL al),.sl (kp.map reqL),.sl (lt.map reqL)]],outs:=[rdO bs p'] }) :=
 ⟨_,rfl,m,⟨a,b,⟨now,sure,last,slast,floors⟩,lk,ow,ep,al,kp,lt⟩,p',hm,K,hl,hp,rfl⟩
theorem ev_l7Bent (m:M) (hm:m.isOwn=false) (w:WorldT) (n lo:Nat) (hn1:1000≤n) (hn:n≤3000000) (hlo:2≤lo) (K:WorldK n lo w) (hl3:w.st.last.length=3) (bs:Bs) (p:Nat) (b:RdB bs p) (hp:p+8000≤1099511627776) :
  Sat (WD (n+400) (lo - 1) (storeOk w.st) bs p) (ev E 49 [rdA bs p,.v m true (worldL w)]):=by
 have c1:=fun m hm=>ev_l7Copy m hm w (K.c (by omega)).toWorldB
 obtain ⟨k,hk0,c2⟩:=ev_pick .ro bs p 100 b (by omega)
 have KC:=K.c (by omega)
 obtain ⟨sz,mn,st,lk,ow,ep,al,kp,lt⟩:=w
 dsimp only at *
 have sK:=K.st.mono (show n≤n+400 by omega)
 have hlk:lo - 1≤lk.length∧lk.length≤n+400:=by have:=K.locks;dsimp only at this;omega
 have hhd:∀ h∈lk,h.r.length≤n+400∧h.w.length≤n+400:=fun h hh=>by have:=K.holds h hh;omega
 have how:ow.length=3:=K.owns
 have hod:∀ o∈ow,o.t.length≤n+400∧o.h.length≤n+400∧o.d.length≤n+400:=fun o ho=>by have:=K.owned o ho;omega
 have hep:ep.length=3:=K.epochs
 have hal:al.length≤n+400:=by have:=K.alive;dsimp only at this;omega
 have hkp:kp.length≤n+400:=by have:=K.kept;dsimp only at this;omega
 have hlt:lt.length≤n+400:=by have:=K.late;dsimp only at this;omega
 have hkT:∀ q∈kp,q.data.length≤n+400:=fun q hq=>by have:=K.keptT q hq;omega
 have hlT:∀ q∈lt,q.data.length≤n+400:=fun q hq=>by have:=K.lateT q hq;omega
 have hoL:∀ ok:Bool,ok=true→st.last.length=3:=fun _ _=>hl3
 have e0:0<ep.length:=by omega
 have ene:ep≠[]:=fun h=>by rw [h] at e0;simp at e0
 rw [ev_fn Tryz.f49 rfl Tryz.func49 rfl rfl rfl (Nat.le_of_ble_eq_true rfl)]
 simp [c1,c2,hm]
 by_cases f0:(k:Int)=0
 ·simp [f0]
  exact wd_of ⟨sK,hlk,hhd,how,hod,hep,hal,hkp,hlt,hkT,hlT⟩ (hoL _) (.inl rfl) (by omega)
 have g0:=eqI_ne f0
 by_cases f1:(k:Int)=1
 ·have d0:=fun m hm=>ev_spec_StoreSync m hm st KC.stC
  obtain ⟨s2,hs2,hK2,hl2⟩:∃ s2,(if storeOk st=true then rS1 (storeSync st) else rS1 noS)=rS1 s2∧StoreK n s2∧(storeOk st=true→s2.last.length=3):=by
   cases storeOk st
   ·exact ⟨noS,rfl,by refine ⟨?_,?_,?_,?_,?_,?_,?_⟩<;>simp [noS],fun h=>by cases h⟩
   ·exact ⟨storeSync st,rfl,⟨K.st.now,K.st.now,K.st.last,K.st.last,K.st.floors,K.st.nowT,K.st.nowT⟩,fun _=>hl3⟩
  rw [hs2] at d0
  simp only [rS1] at d0
  obtain ⟨_,d1,m2,s3,p',hm2,hK3,hl4,hp',rfl⟩:=ev_l5Bent .tn rfl s2 n (by omega) (by omega) hK2 bs (p+1) ⟨b.b,by omega⟩ (by omega)
  have h3:storeOk st=true→s3.last.length=3:=fun h=>by rw [hl4];exact hl2 h
  obtain ⟨a1,a2,a3,a4,a5⟩:=s3
  rcases hm2 with rfl | rfl
  ·simp [f1,d0,d1]
   exact wd_of ⟨hK3.mono (by omega),hlk,hhd,how,hod,hep,hal,hkp,hlt,hkT,hlT⟩ h3 (.inl rfl) (by omega)
  ·simp [f1,d0,d1]
   exact wd_of ⟨hK3.mono (by omega),hlk,hhd,how,hod,hep,hal,hkp,hlt,hkT,hlT⟩ h3 (.inr rfl) (by omega)
 have g1:=eqI_ne f1
 by_cases f2:(k:Int)=2
 ·obtain ⟨_,d1,m2,t2,p',hm2,q0,q1,q2,hp',rfl⟩:=ev_l4Bent .tn rfl lk n hn (by have:=K.locks;dsimp only at this;omega) (by have:=K.locks;dsimp only at this;omega) (fun h hh=>K.holds h hh) bs (p+1) ⟨b.b,by omega⟩ (by omega)
  have hlk2:lo - 1≤t2.length∧t2.length≤n+400:=by have:=K.locks;dsimp only at this;omega
  have hhd2:∀ h∈t2,h.r.length≤n+400∧h.w.length≤n+400:=fun h hh=>by have:=q2 h hh;omega
  rcases hm2 with rfl | rfl
  ·simp [f2,d1]
   exact wd_of ⟨sK,hlk2,hhd2,how,hod,hep,hal,hkp,hlt,hkT,hlT⟩ (hoL _) (.inl rfl) (by omega)
  ·simp [f2,d1]
   exact wd_of ⟨sK,hlk2,hhd2,how,hod,hep,hal,hkp,hlt,hkT,hlT⟩ (hoL _) (.inr rfl) (by omega)
 have g2:=eqI_ne f2
 by_cases f3:(k:Int)=3
 ·obtain ⟨j,hj,d1⟩:=ev_pick .ro bs (p+1) 3 ⟨b.b,by omega⟩ (by omega)
  have hj:=hj (by omega)
  have hjl:j<ow.length:=by omega
  obtain ⟨q,t,h,d,O,hq,d2⟩:=ev_l6Some bs (p+1+1) ⟨b.b,by omega⟩ (by omega)
  have he:(ow.map ownL).set j (owL t h d)=(ow.set j ⟨t,h,d⟩).map ownL:=by simp [List.map_set]
  simp [f3,d1,d2,hjl]
  simp only [owL] at he
  rw [he]
  exact wd_of ⟨sK,hlk,hhd,by simpa using how,fun o ho=>by
   rcases List.mem_or_eq_of_mem_set ho with z | rfl
   ·exact hod o z
   ·have o1:=O.t;have o2:=O.h;have o3:=O.d
    dsimp only;omega,hep,hal,hkp,hlt,hkT,hlT⟩ (hoL _) (.inl rfl) (by omega)
 have g3:=eqI_ne f3
 by_cases f4:(k:Int)=4
 ·obtain ⟨y,hy,d1⟩:=ev_num .tn bs (p+1) [-1,101,IntKind.i64.wrap (ep[0]+1),100] ⟨b.b,by omega⟩ (by simp) (by simp)
  have he:(intsL ep).set 0 [.int .i64 y]=intsL (ep.set 0 y):=by simp [List.map_set]
  simp at d1
  simp [f4,d1,e0,ene]
  rw [he]
  exact wd_of ⟨sK,hlk,hhd,how,hod,by simpa using hep,hal,hkp,hlt,hkT,hlT⟩ (hoL _) (.inl rfl) (by omega)
 have g4:=eqI_ne f4
 by_cases f5:(k:Int)=5
 ·cases e1:ltI 0 (al.length:Int)
  ·simp [f5,e1]
   exact wd_of ⟨sK,hlk,hhd,how,hod,hep,hal,hkp,hlt,hkT,hlT⟩ (hoL _) (.inl rfl) (by omega)
  ·obtain ⟨j,hj,d1⟩:=ev_pick .ro bs (p+1) (al.length:Int) ⟨b.b,by omega⟩ (by omega)
   have hj:=hj (by have:=ltI_iff.1 e1;omega)
   have hjl:j<al.length:=by omega
   obtain ⟨j2,hj2,d2⟩:=ev_pick .ro bs (p+1+1) 2 ⟨b.b,by omega⟩ (by omega)
   have he:∀ y,(boolsL al).set j [.bool y]=boolsL (al.set j y):=fun y=>by simp [List.map_set]
   simp [f5,e1,d1,d2,hjl]
   rw [he]
   exact wd_of ⟨sK,hlk,hhd,how,hod,hep,by simpa using hal,hkp,hlt,hkT,hlT⟩ (hoL _) (.inl rfl) (by omega)
 have g5:=eqI_ne f5
 by_cases f6:(k:Int)=6
 ·obtain ⟨_,d1,q,p',hq,hp',rfl⟩:=ev_l5Ask .tn rfl st hl3 (by have:=K.st.floors;dsimp only at this;omega) bs (p+1) ⟨b.b,by omega⟩ (by omega)
  have h1:(kp.length+1)*56≤17592186044416:=by omega
  have h2:kp.length+1≤17592186044416:=by omega
  have he:kp.map reqL++[reqL q]=(kp++[q]).map reqL:=by simp
  simp [f6,d1,h1,h2]
  simp only [reqL] at he
  rw [he]
  exact wd_of ⟨sK,hlk,hhd,how,hod,hep,hal,by have:=K.kept;simp at this ⊢;omega,hlt,fun x hx=>by
   rcases List.mem_append.1 hx with z | z
   ·exact hkT x z
   ·rw [List.mem_singleton.1 z];omega,hlT⟩ (hoL _) (.inl rfl) (by omega)
 have g6:=eqI_ne f6
 by_cases f7:(k:Int)=7
 ·obtain ⟨_,d1,q,p',hq,hp',rfl⟩:=ev_l5Ask .tn rfl st hl3 (by have:=K.st.floors;dsimp only at this;omega) bs (p+1) ⟨b.b,by omega⟩ (by omega)
  have h1:(lt.length+1)*56≤17592186044416:=by omega
  have h2:lt.length+1≤17592186044416:=by omega
  have he:lt.map reqL++[reqL q]=(lt++[q]).map reqL:=by simp
  simp [f7,d1,h1,h2]
  simp only [reqL] at he
  rw [he]
  exact wd_of ⟨sK,hlk,hhd,how,hod,hep,hal,hkp,by have:=K.late;simp at this ⊢;omega,hkT,fun x hx=>by
   rcases List.mem_append.1 hx with z | z
   ·exact hlT x z
   ·rw [List.mem_singleton.1 z];omega⟩ (hoL _) (.inl rfl) (by omega)
 have g7:=eqI_ne f7
 by_cases f8:(k:Int)=8
 ·cases e1:ltI 0 (al.length:Int)
  ·simp [f8,e1]
   exact wd_of ⟨sK,hlk,hhd,how,hod,hep,hal,hkp,hlt,hkT,hlT⟩ (hoL _) (.inl rfl) (by omega)
  ·have h1:(1:Int)≤al.length:=by have:=ltI_iff.1 e1;omega
   have h2:1≤al.length:=by omega
   have e:(List.take al.length (boolsL al)).tail=boolsL (al.drop 1):=by
    rw [List.take_of_length_le (by simp)]
    simp
   simp [-List.map_drop,← List.map_drop,f8,e1,h1,h2]
   rw [e]
   exact wd_of ⟨sK,hlk,hhd,how,hod,hep,by simp;omega,hkp,hlt,hkT,hlT⟩ (hoL _) (.inr rfl) (by omega)
 have g8:=eqI_ne f8
 by_cases f9:(k:Int)=9
 ·obtain ⟨s2,m2,hl,d1⟩:=ev_l3Lay bs (p+1) ⟨b.b,by omega⟩ (by omega)
  simp [f9,d1]
  exact wd_of ⟨sK,hlk,hhd,how,hod,hep,hal,hkp,hlt,hkT,hlT⟩ (hoL _) (.inl rfl) (by omega)
 have g9:=eqI_ne f9
 simp [g0,g1,g2,g3,g4,g5,g6,g7,g8,g9]
 exact wd_of ⟨sK,hlk,hhd,how,hod,hep,hal,hkp,hlt,hkT,hlT⟩ (hoL _) (.inl rfl) (by omega)
end Go.Ev

