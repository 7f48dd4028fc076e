/- My texts joined: EvT89, EvT91. No condition. -/
import Derived.Test.YtngbcdcghbapnaaGreatDoorEs6
set_option linter.unusedVariables false
set_option linter.unusedSimpArgs false

set_option maxRecDepth 100000
set_option maxHeartbeats 40000000
namespace Go.Ev
open Go.Proofs
def ReqD (bs:Bs) (p:Nat) (o:Out):Prop:=∃ (q:ReqT) (p':Nat),q.data.length≤300∧p'≤p+300∧o={ rs:=[.v .own true (reqL q)],outs:=[rdO bs p'] }
theorem reqD_of {bs:Bs} {p p':Nat} {a c f g h:Int} {x:Bs} (hx:x.length≤300) (hp:p'≤p+300) :
  Sat (ReqD bs p) (some { rs:=[.v .own true [.int .i64 a,.int .i64 c,.int .i64 f,.int .i64 g,.int .i64 h,.str x]],outs:=[rdO bs p'] }):=⟨_,rfl,⟨a,c,f,g,h,x⟩,p',hx,hp,rfl⟩
theorem ev_l5Ask (m:M) (hm:m.isOwn=false) (s:StoreT) (hl:s.last.length=3) (hf:s.floors.length≤4000000) (bs:Bs) (p:Nat) (b:RdB bs p) (hp:p+1000≤1099511627776):Sat (ReqD bs p) (ev E 126 [rdA bs p,.v m true (storeL s)]):=by
 obtain ⟨who,hwho,c1⟩:=ev_pick .ro bs p 3 b (by omega)
 obtain ⟨ep,hep,c2⟩:=ev_pick .ro bs (p+1) 4 ⟨b.b,by omega⟩ (by omega)
 obtain ⟨ob,hob,c3⟩:=ev_pick .ro bs (p+1+1) 3 ⟨b.b,by omega⟩ (by omega)
 obtain ⟨at0,hat0,c4⟩:=ev_pick .ro bs (p+1+1+1) 16 ⟨b.b,by omega⟩ (by omega)
 obtain ⟨x,hx,c5⟩:=ev_ofS .tn bs (p+1+1+1+1) [[120],[97,98],[113,55,46],[109,110,111,112]] ⟨b.b,by omega⟩ (by simp) (by simp)
 have hxl:x.length≤300:=by
  simp only [List.mem_cons,List.not_mem_nil,or_false] at hx
  rcases hx with rfl | rfl | rfl | rfl<;>simp
 obtain ⟨nn,hnn,c6⟩:=ev_num .tn bs (p+1+1+1+1+1) [1,1,1,1,1,0,2,-1] ⟨b.b,by omega⟩ (by simp) (by simp)
 have hwho:=hwho (by omega)
 have hw1:who<s.last.length:=by omega
 have hl':(s.last.length:Int)=3:=by omega
 simp at c5 c6
 obtain ⟨P0,hP0⟩:∃ P0,P0=p+1+1+1+1+1+1:=⟨_,rfl⟩
 rw [← hP0] at c6
 rw [ev_fn Tryz.f126 rfl Tryz.func126 rfl rfl rfl (Nat.le_of_ble_eq_true rfl)]
 have hwn:who<3:=by omega
 simp [c1,c2,c3,c4,c5,c6,hm,hw1,hl',hl,hwho,hwn]
 clear c1 c2 c3 c4 c5 c6
 cases e2:eqI (s.floors.length:Int) 3
 ·simp [e2]
  obtain ⟨k,hk,d0⟩:=ev_pick .ro bs (P0) 50 ⟨b.b,by omega⟩ (by omega)
  simp [d0]
  by_cases f0:(k:Int)=0
  ·obtain ⟨y,hy,d1⟩:=ev_l4WhoDraw bs (P0+1) ⟨b.b,by omega⟩ (by omega)
   simp [f0,d1]
   exact reqD_of (by assumption) (by omega)
  ·have f0:=eqI_ne f0
   simp [f0]
   by_cases f1:(k:Int)=1
   ·obtain ⟨y,hy,d1⟩:=ev_num .tn bs (P0+1) [-1,3] ⟨b.b,by omega⟩ (by simp) (by simp)
    simp at d1
    simp [f1,d1]
    exact reqD_of (by assumption) (by omega)
   ·have f1:=eqI_ne f1
    simp [f1]
    by_cases f2:(k:Int)=2
    ·obtain ⟨y,hy,d1⟩:=ev_num .tn bs (P0+1) [-1,48,9223372036854775807] ⟨b.b,by omega⟩ (by simp) (by simp)
     simp at d1
     simp [f2,d1]
     exact reqD_of (by assumption) (by omega)
    ·have f2:=eqI_ne f2
     simp [f2]
     by_cases f3:(k:Int)=3
     ·obtain ⟨y,hy,d1⟩:=ev_ofS .tn bs (P0+1) [[],[65],[97,32,98]] ⟨b.b,by omega⟩ (by simp) (by simp)
      have hyl:y.length≤300:=by
       simp only [List.mem_cons,List.not_mem_nil,or_false] at hy
       rcases hy with rfl | rfl | rfl<;>simp
      simp at d1
      simp [f3,d1]
      exact reqD_of (by assumption) (by omega)
     ·have f3:=eqI_ne f3
      simp [f3]
      by_cases f4:(k:Int)=4
      ·obtain ⟨y,hy,d1⟩:=ev_num .tn bs (P0+1) [0,-1,1001] ⟨b.b,by omega⟩ (by simp) (by simp)
       simp at d1
       simp [f4,d1]
       exact reqD_of (by assumption) (by omega)
      ·have f4:=eqI_ne f4
       simp [f4]
       by_cases f5:(k:Int)=5
       ·obtain ⟨y,hy,d1⟩:=ev_num .tn bs (P0+1) [-1,101] ⟨b.b,by omega⟩ (by simp) (by simp)
        simp at d1
        simp [f5,d1]
        exact reqD_of (by assumption) (by omega)
       ·have f5:=eqI_ne f5
        simp [f5]
        exact reqD_of (by assumption) (by omega)
 ·have hf3:who<s.floors.length:=by have:=eqI3.1 e2;omega
  obtain ⟨k3,hk3,c7⟩:=ev_pick .ro bs P0 3 ⟨b.b,by omega⟩ (by omega)
  cases e3:ltI 0 (k3:Int)
  ·simp [e2,c7,e3]
   obtain ⟨k,hk,d0⟩:=ev_pick .ro bs (P0+1) 50 ⟨b.b,by omega⟩ (by omega)
   simp [d0]
   by_cases f0:(k:Int)=0
   ·obtain ⟨y,hy,d1⟩:=ev_l4WhoDraw bs (P0+1+1) ⟨b.b,by omega⟩ (by omega)
    simp [f0,d1]
    exact reqD_of (by assumption) (by omega)
   ·have f0:=eqI_ne f0
    simp [f0]
    by_cases f1:(k:Int)=1
    ·obtain ⟨y,hy,d1⟩:=ev_num .tn bs (P0+1+1) [-1,3] ⟨b.b,by omega⟩ (by simp) (by simp)
     simp at d1
     simp [f1,d1]
     exact reqD_of (by assumption) (by omega)
    ·have f1:=eqI_ne f1
     simp [f1]
     by_cases f2:(k:Int)=2
     ·obtain ⟨y,hy,d1⟩:=ev_num .tn bs (P0+1+1) [-1,48,9223372036854775807] ⟨b.b,by omega⟩ (by simp) (by simp)
      simp at d1
      simp [f2,d1]
      exact reqD_of (by assumption) (by omega)
     ·have f2:=eqI_ne f2
      simp [f2]
      by_cases f3:(k:Int)=3
      ·obtain ⟨y,hy,d1⟩:=ev_ofS .tn bs (P0+1+1) [[],[65],[97,32,98]] ⟨b.b,by omega⟩ (by simp) (by simp)
       have hyl:y.length≤300:=by
        simp only [List.mem_cons,List.not_mem_nil,or_false] at hy
        rcases hy with rfl | rfl | rfl<;>simp
       simp at d1
       simp [f3,d1]
       exact reqD_of (by assumption) (by omega)
      ·have f3:=eqI_ne f3
       simp [f3]
       by_cases f4:(k:Int)=4
       ·obtain ⟨y,hy,d1⟩:=ev_num .tn bs (P0+1+1) [0,-1,1001] ⟨b.b,by omega⟩ (by simp) (by simp)
        simp at d1
        simp [f4,d1]
        exact reqD_of (by assumption) (by omega)
       ·have f4:=eqI_ne f4
        simp [f4]
        by_cases f5:(k:Int)=5
        ·obtain ⟨y,hy,d1⟩:=ev_num .tn bs (P0+1+1) [-1,101] ⟨b.b,by omega⟩ (by simp) (by simp)
         simp at d1
         simp [f5,d1]
         exact reqD_of (by assumption) (by omega)
        ·have f5:=eqI_ne f5
         simp [f5]
         exact reqD_of (by assumption) (by omega)
  ·obtain ⟨k2,hk2,c8⟩:=ev_pick .ro bs (P0+1) 2 ⟨b.b,by omega⟩ (by omega)
   simp [e2,c7,e3,hf3,c8,hm]
   obtain ⟨k,hk,d0⟩:=ev_pick .ro bs (P0+1+1) 50 ⟨b.b,by omega⟩ (by omega)
   simp [d0]
   by_cases f0:(k:Int)=0
   ·obtain ⟨y,hy,d1⟩:=ev_l4WhoDraw bs (P0+1+1+1) ⟨b.b,by omega⟩ (by omega)
    simp [f0,d1]
    exact reqD_of (by assumption) (by omega)
   ·have f0:=eqI_ne f0
    simp [f0]
    by_cases f1:(k:Int)=1
    ·obtain ⟨y,hy,d1⟩:=ev_num .tn bs (P0+1+1+1) [-1,3] ⟨b.b,by omega⟩ (by simp) (by simp)
     simp at d1
     simp [f1,d1]
     exact reqD_of (by assumption) (by omega)
    ·have f1:=eqI_ne f1
     simp [f1]
     by_cases f2:(k:Int)=2
     ·obtain ⟨y,hy,d1⟩:=ev_num .tn bs (P0+1+1+1) [-1,48,9223372036854775807] ⟨b.b,by omega⟩ (by simp) (by simp)
      simp at d1
      simp [f2,d1]
      exact reqD_of (by assumption) (by omega)
     ·have f2:=eqI_ne f2
      simp [f2]
      by_cases f3:(k:Int)=3
      ·obtain ⟨y,hy,d1⟩:=ev_ofS .tn bs (P0+1+1+1) [[],[65],[97,32,98]] ⟨b.b,by omega⟩ (by simp) (by simp)
       have hyl:y.length≤300:=by
        simp only [List.mem_cons,List.not_mem_nil,or_false] at hy
        rcases hy with rfl | rfl | rfl<;>simp
       simp at d1
       simp [f3,d1]
       exact reqD_of (by assumption) (by omega)
      ·have f3:=eqI_ne f3
       simp [f3]
       by_cases f4:(k:Int)=4
       ·obtain ⟨y,hy,d1⟩:=ev_num .tn bs (P0+1+1+1) [0,-1,1001] ⟨b.b,by omega⟩ (by simp) (by simp)
        simp at d1
        simp [f4,d1]
        exact reqD_of (by assumption) (by omega)
       ·have f4:=eqI_ne f4
        simp [f4]
        by_cases f5:(k:Int)=5
        ·obtain ⟨y,hy,d1⟩:=ev_num .tn bs (P0+1+1+1) [-1,101] ⟨b.b,by omega⟩ (by simp) (by simp)
         simp at d1
         simp [f5,d1]
         exact reqD_of (by assumption) (by omega)
        ·have f5:=eqI_ne f5
         simp [f5]
         exact reqD_of (by assumption) (by omega)
def StD (n l:Nat) (bs:Bs) (p:Nat) (o:Out):Prop:=∃ (m:M) (s:StoreT) (p':Nat),(m=.own∨m=.ro)∧StoreK n s∧s.last.length=l∧p'≤p+10∧o={ rs:=[.v m true (storeL s)],outs:=[rdO bs p'] }
theorem stD_own {n l:Nat} {bs:Bs} {p p':Nat} {a b:List Bs} {c d f:List Int} (h:StoreK n ⟨a,b,c,d,f⟩) (hl:c.length=l) (hp:p'≤p+10) :
  Sat (StD n l bs p) (some { rs:=[.v .own true [.sl (strsL a),.sl (strsL b),.sl (intsL c),.sl (intsL d),.sl (intsL f)]],outs:=[rdO bs p'] }):=⟨_,rfl,.own,⟨a,b,c,d,f⟩,p',.inl rfl,h,hl,hp,rfl⟩
theorem stD_ro {n l:Nat} {bs:Bs} {p p':Nat} {a b:List Bs} {c d f:List Int} (h:StoreK n ⟨a,b,c,d,f⟩) (hl:c.length=l) (hp:p'≤p+10) :
  Sat (StD n l bs p) (some { rs:=[.v .ro true [.sl (strsL a),.sl (strsL b),.sl (intsL c),.sl (intsL d),.sl (intsL f)]],outs:=[rdO bs p'] }):=⟨_,rfl,.ro,⟨a,b,c,d,f⟩,p',.inr rfl,h,hl,hp,rfl⟩
theorem ev_l5Bent (m:M) (hm:m.isOwn=false) (s:StoreT) (n:Nat) (hn1:1≤n) (hn:n≤4000000) (C:StoreK n s) (bs:Bs) (p:Nat) (b:RdB bs p) (hp:p+20≤1099511627776):Sat (StD n s.last.length bs p) (ev E 122 [rdA bs p,.v m true (storeL s)]):=by
 have c1:=fun m hm=>ev_l5Copy m hm s (C.c hn).toStoreB
 obtain ⟨k,hk,c2⟩:=ev_pick .ro bs p 72 b (by omega)
 obtain ⟨sn,ss,sl,sq,sf⟩:=s
 obtain ⟨b1,b2,b3,b4,b5,b6,b7⟩:=C
 dsimp only at *
 rw [ev_fn Tryz.f122 rfl Tryz.func122 rfl rfl rfl (Nat.le_of_ble_eq_true rfl)]
 simp [c1,c2,hm]
 by_cases f0:(k:Int)=0
 ·cases e1:ltI 0 (sn.length:Int)
  ·simp [f0,e1]
   exact stD_own ⟨b1,b2,b3,b4,b5,b6,b7⟩ rfl (by omega)
  ·have h1:(1:Int)≤sn.length:=by have:=ltI_iff.1 e1;omega
   have h2:1≤sn.length:=by omega
   have e:(List.take sn.length (strsL sn)).tail=strsL (sn.drop 1):=by
    rw [List.take_of_length_le (by simp)]
    simp
   simp [-List.map_drop,← List.map_drop,f0,e1,h1,h2]
   rw [e]
   exact stD_ro ⟨by simp;omega,b2,b3,b4,b5,fun x hx=>b6 x (List.mem_of_mem_drop hx),b7⟩ rfl (by omega)
 ·have f0:=eqI_ne f0
  by_cases f1:(k:Int)=1
  ·cases e1:ltI 0 (ss.length:Int)
   ·simp [f1,e1]
    exact stD_own ⟨b1,b2,b3,b4,b5,b6,b7⟩ rfl (by omega)
   ·have h1:0<ss.length:=by have:=ltI_iff.1 e1;omega
    have h2:ss≠[]:=fun h=>by rw [h] at h1;simp at h1
    have hs:(strsL ss).set 0 [.str [65]]=strsL (ss.set 0 [65]):=by simp [List.map_set]
    simp [f1,e1,h1,h2]
    rw [hs]
    exact stD_own ⟨b1,by simp;omega,b3,b4,b5,b6,fun x hx=>by rcases List.mem_or_eq_of_mem_set hx with h | h;exact b7 x h;subst h;simpa using hn1⟩ rfl (by omega)
  ·have f1:=eqI_ne f1
   by_cases f2:(k:Int)=2
   ·cases e1:ltI 0 (sl.length:Int)
    ·simp [f2,e1]
     exact stD_own ⟨b1,b2,b3,b4,b5,b6,b7⟩ rfl (by omega)
    ·obtain ⟨y,hy,d1⟩:=ev_num .tn bs (p+1) [-1,1000,1001] ⟨b.b,by omega⟩ (by simp) (by simp)
     simp at d1
     have h1:0<sl.length:=by have:=ltI_iff.1 e1;omega
     have h2:sl≠[]:=fun h=>by rw [h] at h1;simp at h1
     have hs:(intsL sl).set 0 [.int .i64 y]=intsL (sl.set 0 y):=by simp [List.map_set]
     simp [f2,e1,d1,h1,h2]
     rw [hs]
     exact stD_own ⟨b1,b2,by simp;omega,b4,b5,b6,b7⟩ (by simp) (by omega)
   ·have f2:=eqI_ne f2
    by_cases f3:(k:Int)=3
    ·cases e1:ltI 1 (sq.length:Int)
     ·simp [f3,e1]
      exact stD_own ⟨b1,b2,b3,b4,b5,b6,b7⟩ rfl (by omega)
     ·cases e2:ltI 1 (sl.length:Int)
      ·simp [f3,e1,e2]
       exact stD_own ⟨b1,b2,b3,b4,b5,b6,b7⟩ rfl (by omega)
      ·obtain ⟨y,hy,d1⟩:=ev_num .tn bs (p+1) [1,-1] ⟨b.b,by omega⟩ (by simp) (by simp)
       simp at d1
       have h1:1<sq.length:=by have:=ltI_iff.1 e1;omega
       have hl1:1<sl.length:=by have:=ltI_iff.1 e2;omega
       have hs:(intsL sq).set 1 [.int .i64 (IntKind.i64.wrap (sl[1]+y))]=intsL (sq.set 1 (IntKind.i64.wrap (sl[1]+y))):=by simp [List.map_set]
       simp [f3,e1,e2,d1,hl1,h1]
       rw [hs]
       exact stD_own ⟨b1,b2,b3,by simp;omega,b5,b6,b7⟩ rfl (by omega)
    ·have f3:=eqI_ne f3
     by_cases f4:(k:Int)=4
     ·cases e1:ltI 0 (sf.length:Int)
      ·simp [f4,e1]
       exact stD_own ⟨b1,b2,b3,b4,b5,b6,b7⟩ rfl (by omega)
      ·obtain ⟨y,hy,d1⟩:=ev_num .tn bs (p+1) [-1,100,101] ⟨b.b,by omega⟩ (by simp) (by simp)
       simp at d1
       have h1:0<sf.length:=by have:=ltI_iff.1 e1;omega
       have h2:sf≠[]:=fun h=>by rw [h] at h1;simp at h1
       have hs:(intsL sf).set 0 [.int .i64 y]=intsL (sf.set 0 y):=by simp [List.map_set]
       simp [f4,e1,d1,h1,h2]
       rw [hs]
       exact stD_own ⟨b1,b2,b3,b4,by simp;omega,b6,b7⟩ rfl (by omega)
     ·have f4:=eqI_ne f4
      by_cases f5:(k:Int)=5
      ·simp [f5]
       exact stD_own (f:=[]) ⟨b1,b2,b3,b4,by simp,b6,b7⟩ rfl (by omega)
      ·have f5:=eqI_ne f5
       simp [f0,f1,f2,f3,f4,f5]
       exact stD_own ⟨b1,b2,b3,b4,b5,b6,b7⟩ rfl (by omega)
set_option maxRecDepth 100000
set_option maxHeartbeats 8000000
theorem ev_l7Some (bs:Bs) (p:Nat) (b:RdB bs p) (hp:p+20000≤1099511627776) :
  ∃ (w:WorldT) (p':Nat),WorldP w∧p'≤p+10000∧ev E 50 [rdA bs p]=some { rs:=[.v .own true (worldL w)],outs:=[rdO bs p'] }:=by
 obtain ⟨size,many,hl,c1⟩:=ev_l3Lay bs p b (by omega)
 obtain ⟨v,hv,c2⟩:=ev_num .tn bs (p+1+1) [8,14,20,4,0,30] ⟨b.b,by omega⟩ (by simp) (by simp)
 simp only [List.mem_cons,List.not_mem_nil,or_false] at hv
 obtain ⟨N,rfl⟩:∃ N:Nat,v=N:=⟨v.toNat,by omega⟩
 have hN:N≤30:=by omega
 obtain ⟨fs,p',q1,q2,q3,c3⟩:=ev_l7Evs .ro .own bs (p+1+1+1) ⟨b.b,by omega⟩ size many N (by omega) (by omega)
 have c4:=fun m ml hml=>ev_spec_WorldPlay m ml hml size many fs (by omega) (fun e he=>by have:=q2 e he;omega)
 have hP:worldPlay size many fs=playW (newW size many) fs:=by
  unfold worldPlay
  rw [if_pos]
  rw [hl,Bool.true_and,Bool.not_eq_true',ltI_not]
  omega
 rw [hP] at c4
 have hok:=playW_ok fs (newW_ok hl)
 simp only [rWC] at c4
 refine ⟨(playW (newW size many) fs).1,p',hok,by omega,?_⟩
 generalize playW (newW size many) fs=z at *
 simp at c2
 rw [ev_fn Tryz.f50 rfl Tryz.func50 rfl rfl rfl (Nat.le_of_ble_eq_true rfl)]
 simp [c1,c2,c3,c4]
def LkD (n l:Nat) (bs:Bs) (p:Nat) (o:Out):Prop:=∃ (m:M) (t:List HoldT) (p':Nat),OwR2 m∧l≤t.length∧t.length≤n∧(∀ h∈t,h.r.length≤n∧h.w.length≤n)∧p'≤p+200∧o={ rs:=[.v m false [.sl (t.map holdL)]],outs:=[rdO bs p'] }
theorem lkD_of {n l:Nat} {bs:Bs} {p p':Nat} {m:M} {t:List HoldT} (hm:OwR2 m) (h0:l≤t.length) (h1:t.length≤n) (h2:∀ h∈t,h.r.length≤n∧h.w.length≤n) (hp:p'≤p+200):Sat (LkD n l bs p) (some { rs:=[.v m false [.sl (t.map holdL)]],outs:=[rdO bs p'] }):=⟨_,rfl,m,t,p',hm,h0,h1,h2,hp,rfl⟩
theorem lkD_eq {n l:Nat} {bs:Bs} {p p':Nat} {m:M} {xs:List (List L)} (t:List HoldT) (he:xs=t.map holdL) (hm:OwR2 m) (h0:l≤t.length) (h1:t.length≤n) (h2:∀ h∈t,h.r.length≤n∧h.w.length≤n) (hp:p'≤p+200):Sat (LkD n l bs p) (some { rs:=[.v m false [.sl xs]],outs:=[rdO bs p'] }):=by
 subst he
 exact lkD_of hm h0 h1 h2 hp
theorem ev_l4Bent (m:M) (hm:m.isOwn=false) (t:List HoldT) (n:Nat) (hn:n≤3000000) (h2:2≤t.length) (h3:t.length≤n) (hk:∀ h∈t,h.r.length≤n∧h.w.length≤n) (bs:Bs) (p:Nat) (b:RdB bs p) (hp:p+1000≤1099511627776):Sat (LkD (n+100) (t.length - 1) bs p) (ev E 124 [rdA bs p,.v m false [.sl (t.map holdL)]]):=by
 have c1:=fun m hm=>ev_l4Copy m hm t (by omega) (fun h hh=>⟨by have:=(hk h hh).1;omega,by have:=(hk h hh).2;omega⟩)
 obtain ⟨k,hk0,c2⟩:=ev_pick .ro bs p 40 b (by omega)
 have hk':∀ h∈t,h.r.length≤n+100∧h.w.length≤n+100:=fun h hh=>⟨by have:=(hk h hh).1;omega,by have:=(hk h hh).2;omega⟩
 have l0:0<t.length:=by omega
 have l1:1<t.length:=by omega
 have l1':1≤t.length:=by omega
 have l1i:(1:Int)≤t.length:=by omega
 have ne:t≠[]:=fun h=>by rw [h] at l0;simp at l0
 rw [ev_fn Tryz.f124 rfl Tryz.func124 rfl rfl rfl (Nat.le_of_ble_eq_true rfl)]
 simp [c1,c2,hm]
 by_cases f0:(k:Int)=0
 ·have e:(List.take t.length (t.map holdL)).tail=(t.drop 1).map holdL:=by
   rw [List.take_of_length_le (by simp)]
   simp
  simp [-List.map_drop,← List.map_drop,f0,l1',l1i]
  exact lkD_eq (t.drop 1) (by first | exact e | simp [e] | simp) (.inr rfl) (by simp) (by simp;omega) (fun h hh=>hk' h (List.mem_of_mem_drop hh)) (by omega)
 ·have f0:=eqI_ne f0
  by_cases f1:(k:Int)=1
  ·obtain ⟨s,hs,d1⟩:=ev_l1Span bs (p+1) ⟨b.b,by omega⟩ (by omega)
   have hw:=(hk t[0] (List.getElem_mem l0)).2
   have a1:(t[0].w.length+1)*16≤17592186044416:=by omega
   have a2:t[0].w.length+1≤17592186044416:=by omega
   simp [f1,d1,l0,ne,a1,a2]
   exact lkD_eq (t.set 0 ⟨t[0].r,t[0].w++[s]⟩) (by simp [List.map_set,holdL]) (.inl rfl) (by simp<;>omega) (by rw [List.length_set];omega) (fun h hh=>by
    rcases List.mem_or_eq_of_mem_set hh with g | rfl
    ·exact hk' h g
    ·have:=(hk t[0] (List.getElem_mem l0)).1
     refine ⟨?_,?_⟩
     ·show t[0].r.length≤n+100
      omega
     ·show (t[0].w++[s]).length≤n+100
      rw [List.length_append,List.length_singleton]
      omega) (by omega)
  ·have f1:=eqI_ne f1
   by_cases f2:(k:Int)=2
   ·obtain ⟨q,x,hx,hq,d1⟩:=ev_l1Lists bs (p+1) ⟨b.b,by omega⟩ (by omega)
    simp [f2,d1,l1]
    exact lkD_eq (t.set 1 ⟨x,t[1].w⟩) (by simp [List.map_set,holdL]) (.inl rfl) (by simp<;>omega) (by rw [List.length_set];omega) (fun h hh=>by
     rcases List.mem_or_eq_of_mem_set hh with g | rfl
     ·exact hk' h g
     ·have:=(hk t[1] (List.getElem_mem l1)).2
      refine ⟨?_,?_⟩
      ·show x.length≤n+100
       omega
      ·show t[1].w.length≤n+100
       omega) (by omega)
   ·have f2:=eqI_ne f2
    by_cases f3:(k:Int)=3
    ·have a1:(t.length+1)*48≤17592186044416:=by omega
     have a2:t.length≤17592186044415:=by omega
     simp [f3,a1,a2]
     exact lkD_eq (t++[noH]) (by simp [noH,holdL]) (.inl rfl) (by simp<;>omega) (by rw [List.length_append,List.length_singleton];omega) (fun h hh=>by
      rcases List.mem_append.1 hh with g | g
      ·exact hk' h g
      ·rw [List.mem_singleton.1 g];simp [noH]) (by omega)
    ·have f3:=eqI_ne f3
     simp [f0,f1,f2,f3]
     exact lkD_of (.inl rfl) (by omega) (by omega) hk' (by omega)
end Go.Ev

