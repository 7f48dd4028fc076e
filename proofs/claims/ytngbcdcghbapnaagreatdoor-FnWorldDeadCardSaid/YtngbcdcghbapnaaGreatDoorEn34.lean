/- My texts joined: EvT88. No condition. -/
import Derived.Test.YtngbcdcghbapnaaGreatDoorEn1
import Derived.Test.YtngbcdcghbapnaaGreatDoorEn2
import Derived.Test.YtngbcdcghbapnaaGreatDoorEn5
import Derived.Test.YtngbcdcghbapnaaGreatDoorEn6
import Derived.Test.YtngbcdcghbapnaaGreatDoorEn7
import Derived.Test.YtngbcdcghbapnaaGreatDoorEn8
import Derived.Test.YtngbcdcghbapnaaGreatDoorEn9
import Derived.Test.YtngbcdcghbapnaaGreatDoorEn11
import Derived.Test.YtngbcdcghbapnaaGreatDoorEn12
import Derived.Test.YtngbcdcghbapnaaGreatDoorEn13
import Derived.Test.YtngbcdcghbapnaaGreatDoorEn14
import Derived.Test.YtngbcdcghbapnaaGreatDoorEn16
import Derived.Test.YtngbcdcghbapnaaGreatDoorEn18
import Derived.Test.YtngbcdcghbapnaaGreatDoorEn19
import Derived.Test.YtngbcdcghbapnaaGreatDoorEn27
import Derived.Test.YtngbcdcghbapnaaGreatDoorEn32
import Derived.Test.YtngbcdcghbapnaaGreatDoorEn33
set_option linter.unusedVariables false
set_option linter.unusedSimpArgs false

set_option maxRecDepth 100000
set_option maxHeartbeats 40000000
namespace Go.Ev
open Go.Proofs
def iOk (n:Int):Prop:=-9223372036854775808≤n∧n≤9223372036854775807
def LkI (w:WorldT):Prop:=∀ h∈w.locks,(∀ s∈h.r,iOk s.1∧iOk s.2)∧∀ s∈h.w,iOk s.1∧iOk s.2
theorem lkI_w {w:WorldT} (hS:LkI w) {i:Nat} (hi:i<w.locks.length) {j:Nat} (hj:j<w.locks[i].w.length):iOk (w.locks[i].w[j]).1∧iOk (w.locks[i].w[j]).2:=(hS _ (List.getElem_mem hi)).2 _ (List.getElem_mem hj)
theorem lkI_a {w:WorldT} (hS:LkI w) {i:Nat} (hi:i<w.locks.length) {j:Nat} (hj:j<(w.locks[i].w++w.locks[i].r).length):iOk ((w.locks[i].w++w.locks[i].r)[j]).1∧iOk ((w.locks[i].w++w.locks[i].r)[j]).2 :=
 (List.mem_append.1 (List.getElem_mem hj)).elim (fun q=>(hS _ (List.getElem_mem hi)).2 _ q) fun q=>(hS _ (List.getElem_mem hi)).1 _ q
def EvD (J:Prop) (bs:Bs) (p:Nat) (o:Out):Prop:=∃ (e:EvT) (p':Nat),e.data.length≤300∧p'≤p+300∧(J→iOk e.who∧iOk e.span.1∧iOk e.span.2∧iOk e.pos)∧o={ rs:=[.v .own true (evL e)],outs:=[rdO bs p'] }
theorem evD_of {J:Prop} {bs:Bs} {p p':Nat} {a c f g h:Int} {b:Bool} {x:Bs} (hx:x.length≤300) (hp:p'≤p+300) (hj:J→iOk c∧iOk f∧iOk g∧iOk h) :
  Sat (EvD J bs p) (some { rs:=[.v .own true [.int .i64 a,.int .i64 c,.bool b,.int .i64 f,.int .i64 g,.int .i64 h,.str x]],outs:=[rdO bs p'] }):=⟨_,rfl,⟨a,c,b,(f,g),h,x⟩,p',hx,hp,hj,rfl⟩
theorem ev_l7Ev (m:M) (hm:m.isOwn=false) (w:WorldT) (B:WorldB w) (bs:Bs) (p:Nat) (b:RdB bs p) (hp:p+1000≤1099511627776):Sat (EvD (LkI w) bs p) (ev E 51 [rdA bs p,.v m true (worldL w)]):=by
 obtain ⟨v,hv,c1⟩:=ev_num .tn bs p [1,1,1,2,2,3,3,3,3,4,5,6,7,8,9] b (by simp) (by simp)
 obtain ⟨who,hwho,c2⟩:=ev_pick .ro bs (p+1) 3 ⟨b.b,by omega⟩ (by omega)
 obtain ⟨wr,hwr,c3⟩:=ev_pick .ro bs (p+1+1) 2 ⟨b.b,by omega⟩ (by omega)
 obtain ⟨s,hs,c4⟩:=ev_l1Span bs (p+1+1+1) ⟨b.b,by omega⟩ (by omega)
 obtain ⟨at0,hat0,c5⟩:=ev_pick .ro bs (p+1+1+1+2) 30 ⟨b.b,by omega⟩ (by omega)
 obtain ⟨x,hx,c6⟩:=ev_ofS .tn bs (p+1+1+1+2+1) [[120],[97,98],[113,55,46],[109,110,111,112,113]] ⟨b.b,by omega⟩ (by simp) (by simp)
 have hxl:x.length≤300:=by
  simp only [List.mem_cons,List.not_mem_nil,or_false] at hx
  rcases hx with rfl | rfl | rfl | rfl<;>simp
 obtain ⟨k4,hk4,c7⟩:=ev_pick .ro bs (p+1+1+1+2+1+1) 4 ⟨b.b,by omega⟩ (by omega)
 have hwho:=hwho (by omega)
 have hl:=B.locks
 simp at c1 c6
 obtain ⟨P0,hP0⟩:∃ P0,P0=p+1+1+1+2+1+1:=⟨_,rfl⟩
 rw [← hP0] at c6 c7
 rw [ev_fn Tryz.f51 rfl Tryz.func51 rfl rfl rfl (Nat.le_of_ble_eq_true rfl)]
 simp [c1,c2,c3,c4,c5,c6,hm]
 clear c1 c2 c3 c4 c5 c6
 cases e1:eqI (w.locks.length:Int) 3
 ·simp [e1,hm]
  by_cases k9:v=9
  ·obtain ⟨g,hg,c9⟩:=ev_num .tn bs (P0) [0,0,1,2,-1] ⟨b.b,by omega⟩ (by simp) (by simp)
   simp at c9
   simp [k9,c9]
   obtain ⟨k,hk,d0⟩:=ev_pick .ro bs (P0+1) 60 ⟨b.b,by omega⟩ (by omega)
   simp [d0]
   by_cases f0:(k:Int)=0
   ·obtain ⟨y,hy,d1⟩:=ev_num .tn bs (P0+1+1) [0,10,-1] ⟨b.b,by omega⟩ (by simp) (by simp)
    simp at d1
    simp [f0,d1]
    exact evD_of (by first | assumption | (simp;omega)) (by omega) fun hS=>⟨by first | (unfold iOk;omega) | exact (hsp hS).1 | exact (hsp hS).2 | (simp at hg;unfold iOk;omega),by first | (unfold iOk;omega) | exact (hsp hS).1 | exact (hsp hS).2 | (simp at hg;unfold iOk;omega),by first | (unfold iOk;omega) | exact (hsp hS).1 | exact (hsp hS).2 | (simp at hg;unfold iOk;omega),by first | (unfold iOk;omega) | exact (hsp hS).1 | exact (hsp hS).2 | (simp at hg;unfold iOk;omega)⟩
   ·have f0:=eqI_ne f0
    simp [f0]
    by_cases f1:(k:Int)=1
    ·obtain ⟨y,hy,d1⟩:=ev_l4WhoDraw bs (P0+1+1) ⟨b.b,by omega⟩ (by omega)
     simp [f1,d1]
     exact evD_of (by first | assumption | (simp;omega)) (by omega) fun hS=>⟨by first | (unfold iOk;omega) | exact (hsp hS).1 | exact (hsp hS).2 | (simp at hg;unfold iOk;omega),by first | (unfold iOk;omega) | exact (hsp hS).1 | exact (hsp hS).2 | (simp at hg;unfold iOk;omega),by first | (unfold iOk;omega) | exact (hsp hS).1 | exact (hsp hS).2 | (simp at hg;unfold iOk;omega),by first | (unfold iOk;omega) | exact (hsp hS).1 | exact (hsp hS).2 | (simp at hg;unfold iOk;omega)⟩
    ·have f1:=eqI_ne f1
     simp [f1]
     by_cases f2:(k:Int)=2
     ·obtain ⟨y,hy,d1⟩:=ev_l1SomeB bs (P0+1+1) ⟨b.b,by omega⟩ (by omega)
      simp [f2,d1]
      exact evD_of (by first | assumption | (simp;omega)) (by omega) fun hS=>⟨by first | (unfold iOk;omega) | exact (hsp hS).1 | exact (hsp hS).2 | (simp at hg;unfold iOk;omega),by first | (unfold iOk;omega) | exact (hsp hS).1 | exact (hsp hS).2 | (simp at hg;unfold iOk;omega),by first | (unfold iOk;omega) | exact (hsp hS).1 | exact (hsp hS).2 | (simp at hg;unfold iOk;omega),by first | (unfold iOk;omega) | exact (hsp hS).1 | exact (hsp hS).2 | (simp at hg;unfold iOk;omega)⟩
     ·have f2:=eqI_ne f2
      simp [f2]
      by_cases f3:(k:Int)=3
      ·obtain ⟨y,q,hy,hq,d1⟩:=ev_l2Data bs (P0+1+1) ⟨b.b,by omega⟩ (by omega)
       have hy300:y.length≤300:=by omega
       simp [f3,d1]
       exact evD_of (by first | assumption | (simp;omega)) (by omega) fun hS=>⟨by first | (unfold iOk;omega) | exact (hsp hS).1 | exact (hsp hS).2 | (simp at hg;unfold iOk;omega),by first | (unfold iOk;omega) | exact (hsp hS).1 | exact (hsp hS).2 | (simp at hg;unfold iOk;omega),by first | (unfold iOk;omega) | exact (hsp hS).1 | exact (hsp hS).2 | (simp at hg;unfold iOk;omega),by first | (unfold iOk;omega) | exact (hsp hS).1 | exact (hsp hS).2 | (simp at hg;unfold iOk;omega)⟩
      ·have f3:=eqI_ne f3
       simp [f3]
       by_cases f4:(k:Int)=4
       ·obtain ⟨y,hy,d1⟩:=ev_l2At .ro bs (P0+1+1) [97,98,99] ⟨b.b,by omega⟩ (by omega) (by simp)
        simp [f4,d1]
        exact evD_of (by first | assumption | (simp;omega)) (by omega) fun hS=>⟨by first | (unfold iOk;omega) | exact (hsp hS).1 | exact (hsp hS).2 | (simp at hg;unfold iOk;omega),by first | (unfold iOk;omega) | exact (hsp hS).1 | exact (hsp hS).2 | (simp at hg;unfold iOk;omega),by first | (unfold iOk;omega) | exact (hsp hS).1 | exact (hsp hS).2 | (simp at hg;unfold iOk;omega),by first | (unfold iOk;omega) | exact (hsp hS).1 | exact (hsp hS).2 | (simp at hg;unfold iOk;omega)⟩
       ·have f4:=eqI_ne f4
        simp [f4]
        exact evD_of (by first | assumption | (simp;omega)) (by omega) fun hS=>⟨by first | (unfold iOk;omega) | exact (hsp hS).1 | exact (hsp hS).2 | (simp at hg;unfold iOk;omega),by first | (unfold iOk;omega) | exact (hsp hS).1 | exact (hsp hS).2 | (simp at hg;unfold iOk;omega),by first | (unfold iOk;omega) | exact (hsp hS).1 | exact (hsp hS).2 | (simp at hg;unfold iOk;omega),by first | (unfold iOk;omega) | exact (hsp hS).1 | exact (hsp hS).2 | (simp at hg;unfold iOk;omega)⟩
  ·have n9:=eqI_ne k9
   simp [n9]
   obtain ⟨k,hk,d0⟩:=ev_pick .ro bs (P0) 60 ⟨b.b,by omega⟩ (by omega)
   simp [d0]
   by_cases f0:(k:Int)=0
   ·obtain ⟨y,hy,d1⟩:=ev_num .tn bs (P0+1) [0,10,-1] ⟨b.b,by omega⟩ (by simp) (by simp)
    simp at d1
    simp [f0,d1]
    exact evD_of (by first | assumption | (simp;omega)) (by omega) fun hS=>⟨by first | (unfold iOk;omega) | exact (hsp hS).1 | exact (hsp hS).2 | (simp at hg;unfold iOk;omega),by first | (unfold iOk;omega) | exact (hsp hS).1 | exact (hsp hS).2 | (simp at hg;unfold iOk;omega),by first | (unfold iOk;omega) | exact (hsp hS).1 | exact (hsp hS).2 | (simp at hg;unfold iOk;omega),by first | (unfold iOk;omega) | exact (hsp hS).1 | exact (hsp hS).2 | (simp at hg;unfold iOk;omega)⟩
   ·have f0:=eqI_ne f0
    simp [f0]
    by_cases f1:(k:Int)=1
    ·obtain ⟨y,hy,d1⟩:=ev_l4WhoDraw bs (P0+1) ⟨b.b,by omega⟩ (by omega)
     simp [f1,d1]
     exact evD_of (by first | assumption | (simp;omega)) (by omega) fun hS=>⟨by first | (unfold iOk;omega) | exact (hsp hS).1 | exact (hsp hS).2 | (simp at hg;unfold iOk;omega),by first | (unfold iOk;omega) | exact (hsp hS).1 | exact (hsp hS).2 | (simp at hg;unfold iOk;omega),by first | (unfold iOk;omega) | exact (hsp hS).1 | exact (hsp hS).2 | (simp at hg;unfold iOk;omega),by first | (unfold iOk;omega) | exact (hsp hS).1 | exact (hsp hS).2 | (simp at hg;unfold iOk;omega)⟩
    ·have f1:=eqI_ne f1
     simp [f1]
     by_cases f2:(k:Int)=2
     ·obtain ⟨y,hy,d1⟩:=ev_l1SomeB bs (P0+1) ⟨b.b,by omega⟩ (by omega)
      simp [f2,d1]
      exact evD_of (by first | assumption | (simp;omega)) (by omega) fun hS=>⟨by first | (unfold iOk;omega) | exact (hsp hS).1 | exact (hsp hS).2 | (simp at hg;unfold iOk;omega),by first | (unfold iOk;omega) | exact (hsp hS).1 | exact (hsp hS).2 | (simp at hg;unfold iOk;omega),by first | (unfold iOk;omega) | exact (hsp hS).1 | exact (hsp hS).2 | (simp at hg;unfold iOk;omega),by first | (unfold iOk;omega) | exact (hsp hS).1 | exact (hsp hS).2 | (simp at hg;unfold iOk;omega)⟩
     ·have f2:=eqI_ne f2
      simp [f2]
      by_cases f3:(k:Int)=3
      ·obtain ⟨y,q,hy,hq,d1⟩:=ev_l2Data bs (P0+1) ⟨b.b,by omega⟩ (by omega)
       have hy300:y.length≤300:=by omega
       simp [f3,d1]
       exact evD_of (by first | assumption | (simp;omega)) (by omega) fun hS=>⟨by first | (unfold iOk;omega) | exact (hsp hS).1 | exact (hsp hS).2 | (simp at hg;unfold iOk;omega),by first | (unfold iOk;omega) | exact (hsp hS).1 | exact (hsp hS).2 | (simp at hg;unfold iOk;omega),by first | (unfold iOk;omega) | exact (hsp hS).1 | exact (hsp hS).2 | (simp at hg;unfold iOk;omega),by first | (unfold iOk;omega) | exact (hsp hS).1 | exact (hsp hS).2 | (simp at hg;unfold iOk;omega)⟩
      ·have f3:=eqI_ne f3
       simp [f3]
       by_cases f4:(k:Int)=4
       ·obtain ⟨y,hy,d1⟩:=ev_l2At .ro bs (P0+1) [97,98,99] ⟨b.b,by omega⟩ (by omega) (by simp)
        simp [f4,d1]
        exact evD_of (by first | assumption | (simp;omega)) (by omega) fun hS=>⟨by first | (unfold iOk;omega) | exact (hsp hS).1 | exact (hsp hS).2 | (simp at hg;unfold iOk;omega),by first | (unfold iOk;omega) | exact (hsp hS).1 | exact (hsp hS).2 | (simp at hg;unfold iOk;omega),by first | (unfold iOk;omega) | exact (hsp hS).1 | exact (hsp hS).2 | (simp at hg;unfold iOk;omega),by first | (unfold iOk;omega) | exact (hsp hS).1 | exact (hsp hS).2 | (simp at hg;unfold iOk;omega)⟩
       ·have f4:=eqI_ne f4
        simp [f4]
        exact evD_of (by first | assumption | (simp;omega)) (by omega) fun hS=>⟨by first | (unfold iOk;omega) | exact (hsp hS).1 | exact (hsp hS).2 | (simp at hg;unfold iOk;omega),by first | (unfold iOk;omega) | exact (hsp hS).1 | exact (hsp hS).2 | (simp at hg;unfold iOk;omega),by first | (unfold iOk;omega) | exact (hsp hS).1 | exact (hsp hS).2 | (simp at hg;unfold iOk;omega),by first | (unfold iOk;omega) | exact (hsp hS).1 | exact (hsp hS).2 | (simp at hg;unfold iOk;omega)⟩
 ·have hl3:=eqI3.1 e1
  have hw1:who<w.locks.length:=by omega
  have HB:=B.holds _ (List.getElem_mem hw1)
  cases e2:ltI 0 (k4:Int)
  ·simp [e1,c7,e2,hm]
   by_cases k9:v=9
   ·obtain ⟨g,hg,c9⟩:=ev_num .tn bs (P0+1) [0,0,1,2,-1] ⟨b.b,by omega⟩ (by simp) (by simp)
    simp at c9
    simp [k9,c9]
    obtain ⟨k,hk,d0⟩:=ev_pick .ro bs (P0+1+1) 60 ⟨b.b,by omega⟩ (by omega)
    simp [d0]
    by_cases f0:(k:Int)=0
    ·obtain ⟨y,hy,d1⟩:=ev_num .tn bs (P0+1+1+1) [0,10,-1] ⟨b.b,by omega⟩ (by simp) (by simp)
     simp at d1
     simp [f0,d1]
     exact evD_of (by first | assumption | (simp;omega)) (by omega) fun hS=>⟨by first | (unfold iOk;omega) | exact (hsp hS).1 | exact (hsp hS).2 | (simp at hg;unfold iOk;omega),by first | (unfold iOk;omega) | exact (hsp hS).1 | exact (hsp hS).2 | (simp at hg;unfold iOk;omega),by first | (unfold iOk;omega) | exact (hsp hS).1 | exact (hsp hS).2 | (simp at hg;unfold iOk;omega),by first | (unfold iOk;omega) | exact (hsp hS).1 | exact (hsp hS).2 | (simp at hg;unfold iOk;omega)⟩
    ·have f0:=eqI_ne f0
     simp [f0]
     by_cases f1:(k:Int)=1
     ·obtain ⟨y,hy,d1⟩:=ev_l4WhoDraw bs (P0+1+1+1) ⟨b.b,by omega⟩ (by omega)
      simp [f1,d1]
      exact evD_of (by first | assumption | (simp;omega)) (by omega) fun hS=>⟨by first | (unfold iOk;omega) | exact (hsp hS).1 | exact (hsp hS).2 | (simp at hg;unfold iOk;omega),by first | (unfold iOk;omega) | exact (hsp hS).1 | exact (hsp hS).2 | (simp at hg;unfold iOk;omega),by first | (unfold iOk;omega) | exact (hsp hS).1 | exact (hsp hS).2 | (simp at hg;unfold iOk;omega),by first | (unfold iOk;omega) | exact (hsp hS).1 | exact (hsp hS).2 | (simp at hg;unfold iOk;omega)⟩
     ·have f1:=eqI_ne f1
      simp [f1]
      by_cases f2:(k:Int)=2
      ·obtain ⟨y,hy,d1⟩:=ev_l1SomeB bs (P0+1+1+1) ⟨b.b,by omega⟩ (by omega)
       simp [f2,d1]
       exact evD_of (by first | assumption | (simp;omega)) (by omega) fun hS=>⟨by first | (unfold iOk;omega) | exact (hsp hS).1 | exact (hsp hS).2 | (simp at hg;unfold iOk;omega),by first | (unfold iOk;omega) | exact (hsp hS).1 | exact (hsp hS).2 | (simp at hg;unfold iOk;omega),by first | (unfold iOk;omega) | exact (hsp hS).1 | exact (hsp hS).2 | (simp at hg;unfold iOk;omega),by first | (unfold iOk;omega) | exact (hsp hS).1 | exact (hsp hS).2 | (simp at hg;unfold iOk;omega)⟩
      ·have f2:=eqI_ne f2
       simp [f2]
       by_cases f3:(k:Int)=3
       ·obtain ⟨y,q,hy,hq,d1⟩:=ev_l2Data bs (P0+1+1+1) ⟨b.b,by omega⟩ (by omega)
        have hy300:y.length≤300:=by omega
        simp [f3,d1]
        exact evD_of (by first | assumption | (simp;omega)) (by omega) fun hS=>⟨by first | (unfold iOk;omega) | exact (hsp hS).1 | exact (hsp hS).2 | (simp at hg;unfold iOk;omega),by first | (unfold iOk;omega) | exact (hsp hS).1 | exact (hsp hS).2 | (simp at hg;unfold iOk;omega),by first | (unfold iOk;omega) | exact (hsp hS).1 | exact (hsp hS).2 | (simp at hg;unfold iOk;omega),by first | (unfold iOk;omega) | exact (hsp hS).1 | exact (hsp hS).2 | (simp at hg;unfold iOk;omega)⟩
       ·have f3:=eqI_ne f3
        simp [f3]
        by_cases f4:(k:Int)=4
        ·obtain ⟨y,hy,d1⟩:=ev_l2At .ro bs (P0+1+1+1) [97,98,99] ⟨b.b,by omega⟩ (by omega) (by simp)
         simp [f4,d1]
         exact evD_of (by first | assumption | (simp;omega)) (by omega) fun hS=>⟨by first | (unfold iOk;omega) | exact (hsp hS).1 | exact (hsp hS).2 | (simp at hg;unfold iOk;omega),by first | (unfold iOk;omega) | exact (hsp hS).1 | exact (hsp hS).2 | (simp at hg;unfold iOk;omega),by first | (unfold iOk;omega) | exact (hsp hS).1 | exact (hsp hS).2 | (simp at hg;unfold iOk;omega),by first | (unfold iOk;omega) | exact (hsp hS).1 | exact (hsp hS).2 | (simp at hg;unfold iOk;omega)⟩
        ·have f4:=eqI_ne f4
         simp [f4]
         exact evD_of (by first | assumption | (simp;omega)) (by omega) fun hS=>⟨by first | (unfold iOk;omega) | exact (hsp hS).1 | exact (hsp hS).2 | (simp at hg;unfold iOk;omega),by first | (unfold iOk;omega) | exact (hsp hS).1 | exact (hsp hS).2 | (simp at hg;unfold iOk;omega),by first | (unfold iOk;omega) | exact (hsp hS).1 | exact (hsp hS).2 | (simp at hg;unfold iOk;omega),by first | (unfold iOk;omega) | exact (hsp hS).1 | exact (hsp hS).2 | (simp at hg;unfold iOk;omega)⟩
   ·have n9:=eqI_ne k9
    simp [n9]
    obtain ⟨k,hk,d0⟩:=ev_pick .ro bs (P0+1) 60 ⟨b.b,by omega⟩ (by omega)
    simp [d0]
    by_cases f0:(k:Int)=0
    ·obtain ⟨y,hy,d1⟩:=ev_num .tn bs (P0+1+1) [0,10,-1] ⟨b.b,by omega⟩ (by simp) (by simp)
     simp at d1
     simp [f0,d1]
     exact evD_of (by first | assumption | (simp;omega)) (by omega) fun hS=>⟨by first | (unfold iOk;omega) | exact (hsp hS).1 | exact (hsp hS).2 | (simp at hg;unfold iOk;omega),by first | (unfold iOk;omega) | exact (hsp hS).1 | exact (hsp hS).2 | (simp at hg;unfold iOk;omega),by first | (unfold iOk;omega) | exact (hsp hS).1 | exact (hsp hS).2 | (simp at hg;unfold iOk;omega),by first | (unfold iOk;omega) | exact (hsp hS).1 | exact (hsp hS).2 | (simp at hg;unfold iOk;omega)⟩
    ·have f0:=eqI_ne f0
     simp [f0]
     by_cases f1:(k:Int)=1
     ·obtain ⟨y,hy,d1⟩:=ev_l4WhoDraw bs (P0+1+1) ⟨b.b,by omega⟩ (by omega)
      simp [f1,d1]
      exact evD_of (by first | assumption | (simp;omega)) (by omega) fun hS=>⟨by first | (unfold iOk;omega) | exact (hsp hS).1 | exact (hsp hS).2 | (simp at hg;unfold iOk;omega),by first | (unfold iOk;omega) | exact (hsp hS).1 | exact (hsp hS).2 | (simp at hg;unfold iOk;omega),by first | (unfold iOk;omega) | exact (hsp hS).1 | exact (hsp hS).2 | (simp at hg;unfold iOk;omega),by first | (unfold iOk;omega) | exact (hsp hS).1 | exact (hsp hS).2 | (simp at hg;unfold iOk;omega)⟩
     ·have f1:=eqI_ne f1
      simp [f1]
      by_cases f2:(k:Int)=2
      ·obtain ⟨y,hy,d1⟩:=ev_l1SomeB bs (P0+1+1) ⟨b.b,by omega⟩ (by omega)
       simp [f2,d1]
       exact evD_of (by first | assumption | (simp;omega)) (by omega) fun hS=>⟨by first | (unfold iOk;omega) | exact (hsp hS).1 | exact (hsp hS).2 | (simp at hg;unfold iOk;omega),by first | (unfold iOk;omega) | exact (hsp hS).1 | exact (hsp hS).2 | (simp at hg;unfold iOk;omega),by first | (unfold iOk;omega) | exact (hsp hS).1 | exact (hsp hS).2 | (simp at hg;unfold iOk;omega),by first | (unfold iOk;omega) | exact (hsp hS).1 | exact (hsp hS).2 | (simp at hg;unfold iOk;omega)⟩
      ·have f2:=eqI_ne f2
       simp [f2]
       by_cases f3:(k:Int)=3
       ·obtain ⟨y,q,hy,hq,d1⟩:=ev_l2Data bs (P0+1+1) ⟨b.b,by omega⟩ (by omega)
        have hy300:y.length≤300:=by omega
        simp [f3,d1]
        exact evD_of (by first | assumption | (simp;omega)) (by omega) fun hS=>⟨by first | (unfold iOk;omega) | exact (hsp hS).1 | exact (hsp hS).2 | (simp at hg;unfold iOk;omega),by first | (unfold iOk;omega) | exact (hsp hS).1 | exact (hsp hS).2 | (simp at hg;unfold iOk;omega),by first | (unfold iOk;omega) | exact (hsp hS).1 | exact (hsp hS).2 | (simp at hg;unfold iOk;omega),by first | (unfold iOk;omega) | exact (hsp hS).1 | exact (hsp hS).2 | (simp at hg;unfold iOk;omega)⟩
       ·have f3:=eqI_ne f3
        simp [f3]
        by_cases f4:(k:Int)=4
        ·obtain ⟨y,hy,d1⟩:=ev_l2At .ro bs (P0+1+1) [97,98,99] ⟨b.b,by omega⟩ (by omega) (by simp)
         simp [f4,d1]
         exact evD_of (by first | assumption | (simp;omega)) (by omega) fun hS=>⟨by first | (unfold iOk;omega) | exact (hsp hS).1 | exact (hsp hS).2 | (simp at hg;unfold iOk;omega),by first | (unfold iOk;omega) | exact (hsp hS).1 | exact (hsp hS).2 | (simp at hg;unfold iOk;omega),by first | (unfold iOk;omega) | exact (hsp hS).1 | exact (hsp hS).2 | (simp at hg;unfold iOk;omega),by first | (unfold iOk;omega) | exact (hsp hS).1 | exact (hsp hS).2 | (simp at hg;unfold iOk;omega)⟩
        ·have f4:=eqI_ne f4
         simp [f4]
         exact evD_of (by first | assumption | (simp;omega)) (by omega) fun hS=>⟨by first | (unfold iOk;omega) | exact (hsp hS).1 | exact (hsp hS).2 | (simp at hg;unfold iOk;omega),by first | (unfold iOk;omega) | exact (hsp hS).1 | exact (hsp hS).2 | (simp at hg;unfold iOk;omega),by first | (unfold iOk;omega) | exact (hsp hS).1 | exact (hsp hS).2 | (simp at hg;unfold iOk;omega),by first | (unfold iOk;omega) | exact (hsp hS).1 | exact (hsp hS).2 | (simp at hg;unfold iOk;omega)⟩
  ·have b1:=HB.1
   have b2:=HB.2
   simp [e1,c7,e2,hw1,hm]
   by_cases k2:v=2
   ·subst k2
    have h1:w.locks[who].w.length*16≤17592186044416:=by omega
    have h2:w.locks[who].w.length≤17592186044416:=by omega
    have h3:(w.locks[who].w.length+w.locks[who].r.length)*16≤17592186044416:=by omega
    have h4:w.locks[who].w.length+w.locks[who].r.length≤17592186044416:=by omega
    cases e3:ltI 0 ((w.locks[who].w.length:Int)+w.locks[who].r.length)
    ·simp [h1,h2,h3,h4,e3,hm,hw1]
     obtain ⟨k,hk,d0⟩:=ev_pick .ro bs (P0+1) 60 ⟨b.b,by omega⟩ (by omega)
     simp [d0]
     by_cases f0:(k:Int)=0
     ·obtain ⟨y,hy,d1⟩:=ev_num .tn bs (P0+1+1) [0,10,-1] ⟨b.b,by omega⟩ (by simp) (by simp)
      simp at d1
      simp [f0,d1]
      exact evD_of (by first | assumption | (simp;omega)) (by omega) fun hS=>⟨by first | (unfold iOk;omega) | exact (hsp hS).1 | exact (hsp hS).2 | (simp at hg;unfold iOk;omega),by first | (unfold iOk;omega) | exact (hsp hS).1 | exact (hsp hS).2 | (simp at hg;unfold iOk;omega),by first | (unfold iOk;omega) | exact (hsp hS).1 | exact (hsp hS).2 | (simp at hg;unfold iOk;omega),by first | (unfold iOk;omega) | exact (hsp hS).1 | exact (hsp hS).2 | (simp at hg;unfold iOk;omega)⟩
     ·have f0:=eqI_ne f0
      simp [f0]
      by_cases f1:(k:Int)=1
      ·obtain ⟨y,hy,d1⟩:=ev_l4WhoDraw bs (P0+1+1) ⟨b.b,by omega⟩ (by omega)
       simp [f1,d1]
       exact evD_of (by first | assumption | (simp;omega)) (by omega) fun hS=>⟨by first | (unfold iOk;omega) | exact (hsp hS).1 | exact (hsp hS).2 | (simp at hg;unfold iOk;omega),by first | (unfold iOk;omega) | exact (hsp hS).1 | exact (hsp hS).2 | (simp at hg;unfold iOk;omega),by first | (unfold iOk;omega) | exact (hsp hS).1 | exact (hsp hS).2 | (simp at hg;unfold iOk;omega),by first | (unfold iOk;omega) | exact (hsp hS).1 | exact (hsp hS).2 | (simp at hg;unfold iOk;omega)⟩
      ·have f1:=eqI_ne f1
       simp [f1]
       by_cases f2:(k:Int)=2
       ·obtain ⟨y,hy,d1⟩:=ev_l1SomeB bs (P0+1+1) ⟨b.b,by omega⟩ (by omega)
        simp [f2,d1]
        exact evD_of (by first | assumption | (simp;omega)) (by omega) fun hS=>⟨by first | (unfold iOk;omega) | exact (hsp hS).1 | exact (hsp hS).2 | (simp at hg;unfold iOk;omega),by first | (unfold iOk;omega) | exact (hsp hS).1 | exact (hsp hS).2 | (simp at hg;unfold iOk;omega),by first | (unfold iOk;omega) | exact (hsp hS).1 | exact (hsp hS).2 | (simp at hg;unfold iOk;omega),by first | (unfold iOk;omega) | exact (hsp hS).1 | exact (hsp hS).2 | (simp at hg;unfold iOk;omega)⟩
       ·have f2:=eqI_ne f2
        simp [f2]
        by_cases f3:(k:Int)=3
        ·obtain ⟨y,q,hy,hq,d1⟩:=ev_l2Data bs (P0+1+1) ⟨b.b,by omega⟩ (by omega)
         have hy300:y.length≤300:=by omega
         simp [f3,d1]
         exact evD_of (by first | assumption | (simp;omega)) (by omega) fun hS=>⟨by first | (unfold iOk;omega) | exact (hsp hS).1 | exact (hsp hS).2 | (simp at hg;unfold iOk;omega),by first | (unfold iOk;omega) | exact (hsp hS).1 | exact (hsp hS).2 | (simp at hg;unfold iOk;omega),by first | (unfold iOk;omega) | exact (hsp hS).1 | exact (hsp hS).2 | (simp at hg;unfold iOk;omega),by first | (unfold iOk;omega) | exact (hsp hS).1 | exact (hsp hS).2 | (simp at hg;unfold iOk;omega)⟩
        ·have f3:=eqI_ne f3
         simp [f3]
         by_cases f4:(k:Int)=4
         ·obtain ⟨y,hy,d1⟩:=ev_l2At .ro bs (P0+1+1) [97,98,99] ⟨b.b,by omega⟩ (by omega) (by simp)
          simp [f4,d1]
          exact evD_of (by first | assumption | (simp;omega)) (by omega) fun hS=>⟨by first | (unfold iOk;omega) | exact (hsp hS).1 | exact (hsp hS).2 | (simp at hg;unfold iOk;omega),by first | (unfold iOk;omega) | exact (hsp hS).1 | exact (hsp hS).2 | (simp at hg;unfold iOk;omega),by first | (unfold iOk;omega) | exact (hsp hS).1 | exact (hsp hS).2 | (simp at hg;unfold iOk;omega),by first | (unfold iOk;omega) | exact (hsp hS).1 | exact (hsp hS).2 | (simp at hg;unfold iOk;omega)⟩
         ·have f4:=eqI_ne f4
          simp [f4]
          exact evD_of (by first | assumption | (simp;omega)) (by omega) fun hS=>⟨by first | (unfold iOk;omega) | exact (hsp hS).1 | exact (hsp hS).2 | (simp at hg;unfold iOk;omega),by first | (unfold iOk;omega) | exact (hsp hS).1 | exact (hsp hS).2 | (simp at hg;unfold iOk;omega),by first | (unfold iOk;omega) | exact (hsp hS).1 | exact (hsp hS).2 | (simp at hg;unfold iOk;omega),by first | (unfold iOk;omega) | exact (hsp hS).1 | exact (hsp hS).2 | (simp at hg;unfold iOk;omega)⟩
    ·have h30:=ltI_iff.1 e3
     obtain ⟨j,hj,d2⟩:=ev_pick .ro bs (P0+1) ((w.locks[who].w.length:Int)+w.locks[who].r.length) ⟨b.b,by omega⟩ (by omega)
     have hj:=hj (by have:=ltI_iff.1 e3;omega)
     have hjl:j<(w.locks[who].w++w.locks[who].r).length:=by (try simp);omega
     have hsp:LkI w→iOk ((w.locks[who].w++w.locks[who].r)[j]).1∧iOk ((w.locks[who].w++w.locks[who].r)[j]).2:=fun hS=>lkI_a hS hw1 hjl
     have hg:((w.locks[who].w++w.locks[who].r).map spL)[j]?=some (spL (w.locks[who].w++w.locks[who].r)[j]):=by rw [List.getElem?_map,List.getElem?_eq_getElem hjl];rfl
     generalize (w.locks[who].w++w.locks[who].r)[j]=sp at hg hsp
     try simp only [List.map_append] at hg
     have c8:=fun m m'=>ev_spec_l1Min m m' 5 (IntKind.i64.wrap (sp.2 - sp.1))
     have c10:=fun m m'=>ev_spec_l1Max m m' 1 (minI 5 (IntKind.i64.wrap (sp.2 - sp.1)))
     have hmx:1≤maxI 1 (minI 5 (IntKind.i64.wrap (sp.2 - sp.1)))∧maxI 1 (minI 5 (IntKind.i64.wrap (sp.2 - sp.1)))≤5:=by simp only [maxI,minI,ltI,decide_eq_true_eq];split<;>split<;>omega
     obtain ⟨n,hn,d3⟩:=ev_pick .own bs (P0+1+1) (maxI 1 (minI 5 (IntKind.i64.wrap (sp.2 - sp.1)))) ⟨b.b,by omega⟩ (by omega)
     have hn:=hn hmx.1
     have hw:IntKind.i64.wrap (1+(n:Int))=((1+n:Nat):Int):=by rw [wrap64 (by omega)];push_cast;rfl
     have c11:=fun m m'=>ev_l2Long m m' [122] (1+n) (by omega) (by simp)
     have hxl2:([122]++List.replicate (1+n - 1) 46:Bs).length≤300:=by simp;omega
     push_cast at c11 hw
     simp [h1,h2,h3,h4,e3,hm,hw1,hjl,hg,c8,c10,c11,d2,d3,hw]
     obtain ⟨k,hk,d0⟩:=ev_pick .ro bs (P0+1+1+1) 60 ⟨b.b,by omega⟩ (by omega)
     simp [d0]
     by_cases f0:(k:Int)=0
     ·obtain ⟨y,hy,d1⟩:=ev_num .tn bs (P0+1+1+1+1) [0,10,-1] ⟨b.b,by omega⟩ (by simp) (by simp)
      simp at d1
      simp [f0,d1]
      exact evD_of (by first | assumption | (simp;omega)) (by omega) fun hS=>⟨by first | (unfold iOk;omega) | exact (hsp hS).1 | exact (hsp hS).2 | (simp at hg;unfold iOk;omega),by first | (unfold iOk;omega) | exact (hsp hS).1 | exact (hsp hS).2 | (simp at hg;unfold iOk;omega),by first | (unfold iOk;omega) | exact (hsp hS).1 | exact (hsp hS).2 | (simp at hg;unfold iOk;omega),by first | (unfold iOk;omega) | exact (hsp hS).1 | exact (hsp hS).2 | (simp at hg;unfold iOk;omega)⟩
     ·have f0:=eqI_ne f0
      simp [f0]
      by_cases f1:(k:Int)=1
      ·obtain ⟨y,hy,d1⟩:=ev_l4WhoDraw bs (P0+1+1+1+1) ⟨b.b,by omega⟩ (by omega)
       simp [f1,d1]
       exact evD_of (by first | assumption | (simp;omega)) (by omega) fun hS=>⟨by first | (unfold iOk;omega) | exact (hsp hS).1 | exact (hsp hS).2 | (simp at hg;unfold iOk;omega),by first | (unfold iOk;omega) | exact (hsp hS).1 | exact (hsp hS).2 | (simp at hg;unfold iOk;omega),by first | (unfold iOk;omega) | exact (hsp hS).1 | exact (hsp hS).2 | (simp at hg;unfold iOk;omega),by first | (unfold iOk;omega) | exact (hsp hS).1 | exact (hsp hS).2 | (simp at hg;unfold iOk;omega)⟩
      ·have f1:=eqI_ne f1
       simp [f1]
       by_cases f2:(k:Int)=2
       ·obtain ⟨y,hy,d1⟩:=ev_l1SomeB bs (P0+1+1+1+1) ⟨b.b,by omega⟩ (by omega)
        simp [f2,d1]
        exact evD_of (by first | assumption | (simp;omega)) (by omega) fun hS=>⟨by first | (unfold iOk;omega) | exact (hsp hS).1 | exact (hsp hS).2 | (simp at hg;unfold iOk;omega),by first | (unfold iOk;omega) | exact (hsp hS).1 | exact (hsp hS).2 | (simp at hg;unfold iOk;omega),by first | (unfold iOk;omega) | exact (hsp hS).1 | exact (hsp hS).2 | (simp at hg;unfold iOk;omega),by first | (unfold iOk;omega) | exact (hsp hS).1 | exact (hsp hS).2 | (simp at hg;unfold iOk;omega)⟩
       ·have f2:=eqI_ne f2
        simp [f2]
        by_cases f3:(k:Int)=3
        ·obtain ⟨y,q,hy,hq,d1⟩:=ev_l2Data bs (P0+1+1+1+1) ⟨b.b,by omega⟩ (by omega)
         have hy300:y.length≤300:=by omega
         simp [f3,d1]
         exact evD_of (by first | assumption | (simp;omega)) (by omega) fun hS=>⟨by first | (unfold iOk;omega) | exact (hsp hS).1 | exact (hsp hS).2 | (simp at hg;unfold iOk;omega),by first | (unfold iOk;omega) | exact (hsp hS).1 | exact (hsp hS).2 | (simp at hg;unfold iOk;omega),by first | (unfold iOk;omega) | exact (hsp hS).1 | exact (hsp hS).2 | (simp at hg;unfold iOk;omega),by first | (unfold iOk;omega) | exact (hsp hS).1 | exact (hsp hS).2 | (simp at hg;unfold iOk;omega)⟩
        ·have f3:=eqI_ne f3
         simp [f3]
         by_cases f4:(k:Int)=4
         ·obtain ⟨y,hy,d1⟩:=ev_l2At .ro bs (P0+1+1+1+1) [97,98,99] ⟨b.b,by omega⟩ (by omega) (by simp)
          simp [f4,d1]
          exact evD_of (by first | assumption | (simp;omega)) (by omega) fun hS=>⟨by first | (unfold iOk;omega) | exact (hsp hS).1 | exact (hsp hS).2 | (simp at hg;unfold iOk;omega),by first | (unfold iOk;omega) | exact (hsp hS).1 | exact (hsp hS).2 | (simp at hg;unfold iOk;omega),by first | (unfold iOk;omega) | exact (hsp hS).1 | exact (hsp hS).2 | (simp at hg;unfold iOk;omega),by first | (unfold iOk;omega) | exact (hsp hS).1 | exact (hsp hS).2 | (simp at hg;unfold iOk;omega)⟩
         ·have f4:=eqI_ne f4
          simp [f4]
          exact evD_of (by first | assumption | (simp;omega)) (by omega) fun hS=>⟨by first | (unfold iOk;omega) | exact (hsp hS).1 | exact (hsp hS).2 | (simp at hg;unfold iOk;omega),by first | (unfold iOk;omega) | exact (hsp hS).1 | exact (hsp hS).2 | (simp at hg;unfold iOk;omega),by first | (unfold iOk;omega) | exact (hsp hS).1 | exact (hsp hS).2 | (simp at hg;unfold iOk;omega),by first | (unfold iOk;omega) | exact (hsp hS).1 | exact (hsp hS).2 | (simp at hg;unfold iOk;omega)⟩
   ·have n2:=eqI_ne k2
    cases e3:ltI 0 (w.locks[who].w.length:Int)
    ·simp [n2,e3,hm,hw1]
     by_cases k9:v=9
     ·obtain ⟨g,hg,c9⟩:=ev_num .tn bs (P0+1) [0,0,1,2,-1] ⟨b.b,by omega⟩ (by simp) (by simp)
      simp at c9
      simp [k9,c9]
      obtain ⟨k,hk,d0⟩:=ev_pick .ro bs (P0+1+1) 60 ⟨b.b,by omega⟩ (by omega)
      simp [d0]
      by_cases f0:(k:Int)=0
      ·obtain ⟨y,hy,d1⟩:=ev_num .tn bs (P0+1+1+1) [0,10,-1] ⟨b.b,by omega⟩ (by simp) (by simp)
       simp at d1
       simp [f0,d1]
       exact evD_of (by first | assumption | (simp;omega)) (by omega) fun hS=>⟨by first | (unfold iOk;omega) | exact (hsp hS).1 | exact (hsp hS).2 | (simp at hg;unfold iOk;omega),by first | (unfold iOk;omega) | exact (hsp hS).1 | exact (hsp hS).2 | (simp at hg;unfold iOk;omega),by first | (unfold iOk;omega) | exact (hsp hS).1 | exact (hsp hS).2 | (simp at hg;unfold iOk;omega),by first | (unfold iOk;omega) | exact (hsp hS).1 | exact (hsp hS).2 | (simp at hg;unfold iOk;omega)⟩
      ·have f0:=eqI_ne f0
       simp [f0]
       by_cases f1:(k:Int)=1
       ·obtain ⟨y,hy,d1⟩:=ev_l4WhoDraw bs (P0+1+1+1) ⟨b.b,by omega⟩ (by omega)
        simp [f1,d1]
        exact evD_of (by first | assumption | (simp;omega)) (by omega) fun hS=>⟨by first | (unfold iOk;omega) | exact (hsp hS).1 | exact (hsp hS).2 | (simp at hg;unfold iOk;omega),by first | (unfold iOk;omega) | exact (hsp hS).1 | exact (hsp hS).2 | (simp at hg;unfold iOk;omega),by first | (unfold iOk;omega) | exact (hsp hS).1 | exact (hsp hS).2 | (simp at hg;unfold iOk;omega),by first | (unfold iOk;omega) | exact (hsp hS).1 | exact (hsp hS).2 | (simp at hg;unfold iOk;omega)⟩
       ·have f1:=eqI_ne f1
        simp [f1]
        by_cases f2:(k:Int)=2
        ·obtain ⟨y,hy,d1⟩:=ev_l1SomeB bs (P0+1+1+1) ⟨b.b,by omega⟩ (by omega)
         simp [f2,d1]
         exact evD_of (by first | assumption | (simp;omega)) (by omega) fun hS=>⟨by first | (unfold iOk;omega) | exact (hsp hS).1 | exact (hsp hS).2 | (simp at hg;unfold iOk;omega),by first | (unfold iOk;omega) | exact (hsp hS).1 | exact (hsp hS).2 | (simp at hg;unfold iOk;omega),by first | (unfold iOk;omega) | exact (hsp hS).1 | exact (hsp hS).2 | (simp at hg;unfold iOk;omega),by first | (unfold iOk;omega) | exact (hsp hS).1 | exact (hsp hS).2 | (simp at hg;unfold iOk;omega)⟩
        ·have f2:=eqI_ne f2
         simp [f2]
         by_cases f3:(k:Int)=3
         ·obtain ⟨y,q,hy,hq,d1⟩:=ev_l2Data bs (P0+1+1+1) ⟨b.b,by omega⟩ (by omega)
          have hy300:y.length≤300:=by omega
          simp [f3,d1]
          exact evD_of (by first | assumption | (simp;omega)) (by omega) fun hS=>⟨by first | (unfold iOk;omega) | exact (hsp hS).1 | exact (hsp hS).2 | (simp at hg;unfold iOk;omega),by first | (unfold iOk;omega) | exact (hsp hS).1 | exact (hsp hS).2 | (simp at hg;unfold iOk;omega),by first | (unfold iOk;omega) | exact (hsp hS).1 | exact (hsp hS).2 | (simp at hg;unfold iOk;omega),by first | (unfold iOk;omega) | exact (hsp hS).1 | exact (hsp hS).2 | (simp at hg;unfold iOk;omega)⟩
         ·have f3:=eqI_ne f3
          simp [f3]
          by_cases f4:(k:Int)=4
          ·obtain ⟨y,hy,d1⟩:=ev_l2At .ro bs (P0+1+1+1) [97,98,99] ⟨b.b,by omega⟩ (by omega) (by simp)
           simp [f4,d1]
           exact evD_of (by first | assumption | (simp;omega)) (by omega) fun hS=>⟨by first | (unfold iOk;omega) | exact (hsp hS).1 | exact (hsp hS).2 | (simp at hg;unfold iOk;omega),by first | (unfold iOk;omega) | exact (hsp hS).1 | exact (hsp hS).2 | (simp at hg;unfold iOk;omega),by first | (unfold iOk;omega) | exact (hsp hS).1 | exact (hsp hS).2 | (simp at hg;unfold iOk;omega),by first | (unfold iOk;omega) | exact (hsp hS).1 | exact (hsp hS).2 | (simp at hg;unfold iOk;omega)⟩
          ·have f4:=eqI_ne f4
           simp [f4]
           exact evD_of (by first | assumption | (simp;omega)) (by omega) fun hS=>⟨by first | (unfold iOk;omega) | exact (hsp hS).1 | exact (hsp hS).2 | (simp at hg;unfold iOk;omega),by first | (unfold iOk;omega) | exact (hsp hS).1 | exact (hsp hS).2 | (simp at hg;unfold iOk;omega),by first | (unfold iOk;omega) | exact (hsp hS).1 | exact (hsp hS).2 | (simp at hg;unfold iOk;omega),by first | (unfold iOk;omega) | exact (hsp hS).1 | exact (hsp hS).2 | (simp at hg;unfold iOk;omega)⟩
     ·have n9:=eqI_ne k9
      simp [n9]
      obtain ⟨k,hk,d0⟩:=ev_pick .ro bs (P0+1) 60 ⟨b.b,by omega⟩ (by omega)
      simp [d0]
      by_cases f0:(k:Int)=0
      ·obtain ⟨y,hy,d1⟩:=ev_num .tn bs (P0+1+1) [0,10,-1] ⟨b.b,by omega⟩ (by simp) (by simp)
       simp at d1
       simp [f0,d1]
       exact evD_of (by first | assumption | (simp;omega)) (by omega) fun hS=>⟨by first | (unfold iOk;omega) | exact (hsp hS).1 | exact (hsp hS).2 | (simp at hg;unfold iOk;omega),by first | (unfold iOk;omega) | exact (hsp hS).1 | exact (hsp hS).2 | (simp at hg;unfold iOk;omega),by first | (unfold iOk;omega) | exact (hsp hS).1 | exact (hsp hS).2 | (simp at hg;unfold iOk;omega),by first | (unfold iOk;omega) | exact (hsp hS).1 | exact (hsp hS).2 | (simp at hg;unfold iOk;omega)⟩
      ·have f0:=eqI_ne f0
       simp [f0]
       by_cases f1:(k:Int)=1
       ·obtain ⟨y,hy,d1⟩:=ev_l4WhoDraw bs (P0+1+1) ⟨b.b,by omega⟩ (by omega)
        simp [f1,d1]
        exact evD_of (by first | assumption | (simp;omega)) (by omega) fun hS=>⟨by first | (unfold iOk;omega) | exact (hsp hS).1 | exact (hsp hS).2 | (simp at hg;unfold iOk;omega),by first | (unfold iOk;omega) | exact (hsp hS).1 | exact (hsp hS).2 | (simp at hg;unfold iOk;omega),by first | (unfold iOk;omega) | exact (hsp hS).1 | exact (hsp hS).2 | (simp at hg;unfold iOk;omega),by first | (unfold iOk;omega) | exact (hsp hS).1 | exact (hsp hS).2 | (simp at hg;unfold iOk;omega)⟩
       ·have f1:=eqI_ne f1
        simp [f1]
        by_cases f2:(k:Int)=2
        ·obtain ⟨y,hy,d1⟩:=ev_l1SomeB bs (P0+1+1) ⟨b.b,by omega⟩ (by omega)
         simp [f2,d1]
         exact evD_of (by first | assumption | (simp;omega)) (by omega) fun hS=>⟨by first | (unfold iOk;omega) | exact (hsp hS).1 | exact (hsp hS).2 | (simp at hg;unfold iOk;omega),by first | (unfold iOk;omega) | exact (hsp hS).1 | exact (hsp hS).2 | (simp at hg;unfold iOk;omega),by first | (unfold iOk;omega) | exact (hsp hS).1 | exact (hsp hS).2 | (simp at hg;unfold iOk;omega),by first | (unfold iOk;omega) | exact (hsp hS).1 | exact (hsp hS).2 | (simp at hg;unfold iOk;omega)⟩
        ·have f2:=eqI_ne f2
         simp [f2]
         by_cases f3:(k:Int)=3
         ·obtain ⟨y,q,hy,hq,d1⟩:=ev_l2Data bs (P0+1+1) ⟨b.b,by omega⟩ (by omega)
          have hy300:y.length≤300:=by omega
          simp [f3,d1]
          exact evD_of (by first | assumption | (simp;omega)) (by omega) fun hS=>⟨by first | (unfold iOk;omega) | exact (hsp hS).1 | exact (hsp hS).2 | (simp at hg;unfold iOk;omega),by first | (unfold iOk;omega) | exact (hsp hS).1 | exact (hsp hS).2 | (simp at hg;unfold iOk;omega),by first | (unfold iOk;omega) | exact (hsp hS).1 | exact (hsp hS).2 | (simp at hg;unfold iOk;omega),by first | (unfold iOk;omega) | exact (hsp hS).1 | exact (hsp hS).2 | (simp at hg;unfold iOk;omega)⟩
         ·have f3:=eqI_ne f3
          simp [f3]
          by_cases f4:(k:Int)=4
          ·obtain ⟨y,hy,d1⟩:=ev_l2At .ro bs (P0+1+1) [97,98,99] ⟨b.b,by omega⟩ (by omega) (by simp)
           simp [f4,d1]
           exact evD_of (by first | assumption | (simp;omega)) (by omega) fun hS=>⟨by first | (unfold iOk;omega) | exact (hsp hS).1 | exact (hsp hS).2 | (simp at hg;unfold iOk;omega),by first | (unfold iOk;omega) | exact (hsp hS).1 | exact (hsp hS).2 | (simp at hg;unfold iOk;omega),by first | (unfold iOk;omega) | exact (hsp hS).1 | exact (hsp hS).2 | (simp at hg;unfold iOk;omega),by first | (unfold iOk;omega) | exact (hsp hS).1 | exact (hsp hS).2 | (simp at hg;unfold iOk;omega)⟩
          ·have f4:=eqI_ne f4
           simp [f4]
           exact evD_of (by first | assumption | (simp;omega)) (by omega) fun hS=>⟨by first | (unfold iOk;omega) | exact (hsp hS).1 | exact (hsp hS).2 | (simp at hg;unfold iOk;omega),by first | (unfold iOk;omega) | exact (hsp hS).1 | exact (hsp hS).2 | (simp at hg;unfold iOk;omega),by first | (unfold iOk;omega) | exact (hsp hS).1 | exact (hsp hS).2 | (simp at hg;unfold iOk;omega),by first | (unfold iOk;omega) | exact (hsp hS).1 | exact (hsp hS).2 | (simp at hg;unfold iOk;omega)⟩
    ·by_cases k3:v=3
     ·subst k3
      obtain ⟨j,hj,d2⟩:=ev_pick .ro bs (P0+1) (w.locks[who].w.length:Int) ⟨b.b,by omega⟩ (by omega)
      have hj:=hj (by have:=ltI_iff.1 e3;omega)
      have hjl:j<(w.locks[who].w).length:=by (try simp);omega
      have hsp:LkI w→iOk ((w.locks[who].w)[j]).1∧iOk ((w.locks[who].w)[j]).2:=fun hS=>lkI_w hS hw1 hjl
      have c8:=fun m m'=>ev_spec_l1Min m m' 5 (IntKind.i64.wrap (w.locks[who].w[j].2 - w.locks[who].w[j].1))
      have c10:=fun m m'=>ev_spec_l1Max m m' 1 (minI 5 (IntKind.i64.wrap (w.locks[who].w[j].2 - w.locks[who].w[j].1)))
      have hmx:1≤maxI 1 (minI 5 (IntKind.i64.wrap (w.locks[who].w[j].2 - w.locks[who].w[j].1)))∧maxI 1 (minI 5 (IntKind.i64.wrap (w.locks[who].w[j].2 - w.locks[who].w[j].1)))≤5:=by simp only [maxI,minI,ltI,decide_eq_true_eq];split<;>split<;>omega
      obtain ⟨n,hn,d3⟩:=ev_pick .own bs (P0+1+1) (maxI 1 (minI 5 (IntKind.i64.wrap (w.locks[who].w[j].2 - w.locks[who].w[j].1)))) ⟨b.b,by omega⟩ (by omega)
      have hn:=hn hmx.1
      have hw:IntKind.i64.wrap (1+(n:Int))=((1+n:Nat):Int):=by rw [wrap64 (by omega)];push_cast;rfl
      have c11:=fun m m'=>ev_l2Long m m' [122] (1+n) (by omega) (by simp)
      have hxl2:([122]++List.replicate (1+n - 1) 46:Bs).length≤300:=by simp;omega
      push_cast at c11 hw
      simp [e3,hm,hw1,hjl,c8,c10,c11,d2,d3,hw]
      obtain ⟨k,hk,d0⟩:=ev_pick .ro bs (P0+1+1+1) 60 ⟨b.b,by omega⟩ (by omega)
      simp [d0]
      by_cases f0:(k:Int)=0
      ·obtain ⟨y,hy,d1⟩:=ev_num .tn bs (P0+1+1+1+1) [0,10,-1] ⟨b.b,by omega⟩ (by simp) (by simp)
       simp at d1
       simp [f0,d1]
       exact evD_of (by first | assumption | (simp;omega)) (by omega) fun hS=>⟨by first | (unfold iOk;omega) | exact (hsp hS).1 | exact (hsp hS).2 | (simp at hg;unfold iOk;omega),by first | (unfold iOk;omega) | exact (hsp hS).1 | exact (hsp hS).2 | (simp at hg;unfold iOk;omega),by first | (unfold iOk;omega) | exact (hsp hS).1 | exact (hsp hS).2 | (simp at hg;unfold iOk;omega),by first | (unfold iOk;omega) | exact (hsp hS).1 | exact (hsp hS).2 | (simp at hg;unfold iOk;omega)⟩
      ·have f0:=eqI_ne f0
       simp [f0]
       by_cases f1:(k:Int)=1
       ·obtain ⟨y,hy,d1⟩:=ev_l4WhoDraw bs (P0+1+1+1+1) ⟨b.b,by omega⟩ (by omega)
        simp [f1,d1]
        exact evD_of (by first | assumption | (simp;omega)) (by omega) fun hS=>⟨by first | (unfold iOk;omega) | exact (hsp hS).1 | exact (hsp hS).2 | (simp at hg;unfold iOk;omega),by first | (unfold iOk;omega) | exact (hsp hS).1 | exact (hsp hS).2 | (simp at hg;unfold iOk;omega),by first | (unfold iOk;omega) | exact (hsp hS).1 | exact (hsp hS).2 | (simp at hg;unfold iOk;omega),by first | (unfold iOk;omega) | exact (hsp hS).1 | exact (hsp hS).2 | (simp at hg;unfold iOk;omega)⟩
       ·have f1:=eqI_ne f1
        simp [f1]
        by_cases f2:(k:Int)=2
        ·obtain ⟨y,hy,d1⟩:=ev_l1SomeB bs (P0+1+1+1+1) ⟨b.b,by omega⟩ (by omega)
         simp [f2,d1]
         exact evD_of (by first | assumption | (simp;omega)) (by omega) fun hS=>⟨by first | (unfold iOk;omega) | exact (hsp hS).1 | exact (hsp hS).2 | (simp at hg;unfold iOk;omega),by first | (unfold iOk;omega) | exact (hsp hS).1 | exact (hsp hS).2 | (simp at hg;unfold iOk;omega),by first | (unfold iOk;omega) | exact (hsp hS).1 | exact (hsp hS).2 | (simp at hg;unfold iOk;omega),by first | (unfold iOk;omega) | exact (hsp hS).1 | exact (hsp hS).2 | (simp at hg;unfold iOk;omega)⟩
        ·have f2:=eqI_ne f2
         simp [f2]
         by_cases f3:(k:Int)=3
         ·obtain ⟨y,q,hy,hq,d1⟩:=ev_l2Data bs (P0+1+1+1+1) ⟨b.b,by omega⟩ (by omega)
          have hy300:y.length≤300:=by omega
          simp [f3,d1]
          exact evD_of (by first | assumption | (simp;omega)) (by omega) fun hS=>⟨by first | (unfold iOk;omega) | exact (hsp hS).1 | exact (hsp hS).2 | (simp at hg;unfold iOk;omega),by first | (unfold iOk;omega) | exact (hsp hS).1 | exact (hsp hS).2 | (simp at hg;unfold iOk;omega),by first | (unfold iOk;omega) | exact (hsp hS).1 | exact (hsp hS).2 | (simp at hg;unfold iOk;omega),by first | (unfold iOk;omega) | exact (hsp hS).1 | exact (hsp hS).2 | (simp at hg;unfold iOk;omega)⟩
         ·have f3:=eqI_ne f3
          simp [f3]
          by_cases f4:(k:Int)=4
          ·obtain ⟨y,hy,d1⟩:=ev_l2At .ro bs (P0+1+1+1+1) [97,98,99] ⟨b.b,by omega⟩ (by omega) (by simp)
           simp [f4,d1]
           exact evD_of (by first | assumption | (simp;omega)) (by omega) fun hS=>⟨by first | (unfold iOk;omega) | exact (hsp hS).1 | exact (hsp hS).2 | (simp at hg;unfold iOk;omega),by first | (unfold iOk;omega) | exact (hsp hS).1 | exact (hsp hS).2 | (simp at hg;unfold iOk;omega),by first | (unfold iOk;omega) | exact (hsp hS).1 | exact (hsp hS).2 | (simp at hg;unfold iOk;omega),by first | (unfold iOk;omega) | exact (hsp hS).1 | exact (hsp hS).2 | (simp at hg;unfold iOk;omega)⟩
          ·have f4:=eqI_ne f4
           simp [f4]
           exact evD_of (by first | assumption | (simp;omega)) (by omega) fun hS=>⟨by first | (unfold iOk;omega) | exact (hsp hS).1 | exact (hsp hS).2 | (simp at hg;unfold iOk;omega),by first | (unfold iOk;omega) | exact (hsp hS).1 | exact (hsp hS).2 | (simp at hg;unfold iOk;omega),by first | (unfold iOk;omega) | exact (hsp hS).1 | exact (hsp hS).2 | (simp at hg;unfold iOk;omega),by first | (unfold iOk;omega) | exact (hsp hS).1 | exact (hsp hS).2 | (simp at hg;unfold iOk;omega)⟩
     ·have n3:=eqI_ne k3
      simp [n2,n3,e3,hm,hw1]
      by_cases k9:v=9
      ·obtain ⟨g,hg,c9⟩:=ev_num .tn bs (P0+1) [0,0,1,2,-1] ⟨b.b,by omega⟩ (by simp) (by simp)
       simp at c9
       simp [k9,c9]
       obtain ⟨k,hk,d0⟩:=ev_pick .ro bs (P0+1+1) 60 ⟨b.b,by omega⟩ (by omega)
       simp [d0]
       by_cases f0:(k:Int)=0
       ·obtain ⟨y,hy,d1⟩:=ev_num .tn bs (P0+1+1+1) [0,10,-1] ⟨b.b,by omega⟩ (by simp) (by simp)
        simp at d1
        simp [f0,d1]
        exact evD_of (by first | assumption | (simp;omega)) (by omega) fun hS=>⟨by first | (unfold iOk;omega) | exact (hsp hS).1 | exact (hsp hS).2 | (simp at hg;unfold iOk;omega),by first | (unfold iOk;omega) | exact (hsp hS).1 | exact (hsp hS).2 | (simp at hg;unfold iOk;omega),by first | (unfold iOk;omega) | exact (hsp hS).1 | exact (hsp hS).2 | (simp at hg;unfold iOk;omega),by first | (unfold iOk;omega) | exact (hsp hS).1 | exact (hsp hS).2 | (simp at hg;unfold iOk;omega)⟩
       ·have f0:=eqI_ne f0
        simp [f0]
        by_cases f1:(k:Int)=1
        ·obtain ⟨y,hy,d1⟩:=ev_l4WhoDraw bs (P0+1+1+1) ⟨b.b,by omega⟩ (by omega)
         simp [f1,d1]
         exact evD_of (by first | assumption | (simp;omega)) (by omega) fun hS=>⟨by first | (unfold iOk;omega) | exact (hsp hS).1 | exact (hsp hS).2 | (simp at hg;unfold iOk;omega),by first | (unfold iOk;omega) | exact (hsp hS).1 | exact (hsp hS).2 | (simp at hg;unfold iOk;omega),by first | (unfold iOk;omega) | exact (hsp hS).1 | exact (hsp hS).2 | (simp at hg;unfold iOk;omega),by first | (unfold iOk;omega) | exact (hsp hS).1 | exact (hsp hS).2 | (simp at hg;unfold iOk;omega)⟩
        ·have f1:=eqI_ne f1
         simp [f1]
         by_cases f2:(k:Int)=2
         ·obtain ⟨y,hy,d1⟩:=ev_l1SomeB bs (P0+1+1+1) ⟨b.b,by omega⟩ (by omega)
          simp [f2,d1]
          exact evD_of (by first | assumption | (simp;omega)) (by omega) fun hS=>⟨by first | (unfold iOk;omega) | exact (hsp hS).1 | exact (hsp hS).2 | (simp at hg;unfold iOk;omega),by first | (unfold iOk;omega) | exact (hsp hS).1 | exact (hsp hS).2 | (simp at hg;unfold iOk;omega),by first | (unfold iOk;omega) | exact (hsp hS).1 | exact (hsp hS).2 | (simp at hg;unfold iOk;omega),by first | (unfold iOk;omega) | exact (hsp hS).1 | exact (hsp hS).2 | (simp at hg;unfold iOk;omega)⟩
         ·have f2:=eqI_ne f2
          simp [f2]
          by_cases f3:(k:Int)=3
          ·obtain ⟨y,q,hy,hq,d1⟩:=ev_l2Data bs (P0+1+1+1) ⟨b.b,by omega⟩ (by omega)
           have hy300:y.length≤300:=by omega
           simp [f3,d1]
           exact evD_of (by first | assumption | (simp;omega)) (by omega) fun hS=>⟨by first | (unfold iOk;omega) | exact (hsp hS).1 | exact (hsp hS).2 | (simp at hg;unfold iOk;omega),by first | (unfold iOk;omega) | exact (hsp hS).1 | exact (hsp hS).2 | (simp at hg;unfold iOk;omega),by first | (unfold iOk;omega) | exact (hsp hS).1 | exact (hsp hS).2 | (simp at hg;unfold iOk;omega),by first | (unfold iOk;omega) | exact (hsp hS).1 | exact (hsp hS).2 | (simp at hg;unfold iOk;omega)⟩
          ·have f3:=eqI_ne f3
           simp [f3]
           by_cases f4:(k:Int)=4
           ·obtain ⟨y,hy,d1⟩:=ev_l2At .ro bs (P0+1+1+1) [97,98,99] ⟨b.b,by omega⟩ (by omega) (by simp)
            simp [f4,d1]
            exact evD_of (by first | assumption | (simp;omega)) (by omega) fun hS=>⟨by first | (unfold iOk;omega) | exact (hsp hS).1 | exact (hsp hS).2 | (simp at hg;unfold iOk;omega),by first | (unfold iOk;omega) | exact (hsp hS).1 | exact (hsp hS).2 | (simp at hg;unfold iOk;omega),by first | (unfold iOk;omega) | exact (hsp hS).1 | exact (hsp hS).2 | (simp at hg;unfold iOk;omega),by first | (unfold iOk;omega) | exact (hsp hS).1 | exact (hsp hS).2 | (simp at hg;unfold iOk;omega)⟩
           ·have f4:=eqI_ne f4
            simp [f4]
            exact evD_of (by first | assumption | (simp;omega)) (by omega) fun hS=>⟨by first | (unfold iOk;omega) | exact (hsp hS).1 | exact (hsp hS).2 | (simp at hg;unfold iOk;omega),by first | (unfold iOk;omega) | exact (hsp hS).1 | exact (hsp hS).2 | (simp at hg;unfold iOk;omega),by first | (unfold iOk;omega) | exact (hsp hS).1 | exact (hsp hS).2 | (simp at hg;unfold iOk;omega),by first | (unfold iOk;omega) | exact (hsp hS).1 | exact (hsp hS).2 | (simp at hg;unfold iOk;omega)⟩
      ·have n9:=eqI_ne k9
       simp [n9]
       obtain ⟨k,hk,d0⟩:=ev_pick .ro bs (P0+1) 60 ⟨b.b,by omega⟩ (by omega)
       simp [d0]
       by_cases f0:(k:Int)=0
       ·obtain ⟨y,hy,d1⟩:=ev_num .tn bs (P0+1+1) [0,10,-1] ⟨b.b,by omega⟩ (by simp) (by simp)
        simp at d1
        simp [f0,d1]
        exact evD_of (by first | assumption | (simp;omega)) (by omega) fun hS=>⟨by first | (unfold iOk;omega) | exact (hsp hS).1 | exact (hsp hS).2 | (simp at hg;unfold iOk;omega),by first | (unfold iOk;omega) | exact (hsp hS).1 | exact (hsp hS).2 | (simp at hg;unfold iOk;omega),by first | (unfold iOk;omega) | exact (hsp hS).1 | exact (hsp hS).2 | (simp at hg;unfold iOk;omega),by first | (unfold iOk;omega) | exact (hsp hS).1 | exact (hsp hS).2 | (simp at hg;unfold iOk;omega)⟩
       ·have f0:=eqI_ne f0
        simp [f0]
        by_cases f1:(k:Int)=1
        ·obtain ⟨y,hy,d1⟩:=ev_l4WhoDraw bs (P0+1+1) ⟨b.b,by omega⟩ (by omega)
         simp [f1,d1]
         exact evD_of (by first | assumption | (simp;omega)) (by omega) fun hS=>⟨by first | (unfold iOk;omega) | exact (hsp hS).1 | exact (hsp hS).2 | (simp at hg;unfold iOk;omega),by first | (unfold iOk;omega) | exact (hsp hS).1 | exact (hsp hS).2 | (simp at hg;unfold iOk;omega),by first | (unfold iOk;omega) | exact (hsp hS).1 | exact (hsp hS).2 | (simp at hg;unfold iOk;omega),by first | (unfold iOk;omega) | exact (hsp hS).1 | exact (hsp hS).2 | (simp at hg;unfold iOk;omega)⟩
        ·have f1:=eqI_ne f1
         simp [f1]
         by_cases f2:(k:Int)=2
         ·obtain ⟨y,hy,d1⟩:=ev_l1SomeB bs (P0+1+1) ⟨b.b,by omega⟩ (by omega)
          simp [f2,d1]
          exact evD_of (by first | assumption | (simp;omega)) (by omega) fun hS=>⟨by first | (unfold iOk;omega) | exact (hsp hS).1 | exact (hsp hS).2 | (simp at hg;unfold iOk;omega),by first | (unfold iOk;omega) | exact (hsp hS).1 | exact (hsp hS).2 | (simp at hg;unfold iOk;omega),by first | (unfold iOk;omega) | exact (hsp hS).1 | exact (hsp hS).2 | (simp at hg;unfold iOk;omega),by first | (unfold iOk;omega) | exact (hsp hS).1 | exact (hsp hS).2 | (simp at hg;unfold iOk;omega)⟩
         ·have f2:=eqI_ne f2
          simp [f2]
          by_cases f3:(k:Int)=3
          ·obtain ⟨y,q,hy,hq,d1⟩:=ev_l2Data bs (P0+1+1) ⟨b.b,by omega⟩ (by omega)
           have hy300:y.length≤300:=by omega
           simp [f3,d1]
           exact evD_of (by first | assumption | (simp;omega)) (by omega) fun hS=>⟨by first | (unfold iOk;omega) | exact (hsp hS).1 | exact (hsp hS).2 | (simp at hg;unfold iOk;omega),by first | (unfold iOk;omega) | exact (hsp hS).1 | exact (hsp hS).2 | (simp at hg;unfold iOk;omega),by first | (unfold iOk;omega) | exact (hsp hS).1 | exact (hsp hS).2 | (simp at hg;unfold iOk;omega),by first | (unfold iOk;omega) | exact (hsp hS).1 | exact (hsp hS).2 | (simp at hg;unfold iOk;omega)⟩
          ·have f3:=eqI_ne f3
           simp [f3]
           by_cases f4:(k:Int)=4
           ·obtain ⟨y,hy,d1⟩:=ev_l2At .ro bs (P0+1+1) [97,98,99] ⟨b.b,by omega⟩ (by omega) (by simp)
            simp [f4,d1]
            exact evD_of (by first | assumption | (simp;omega)) (by omega) fun hS=>⟨by first | (unfold iOk;omega) | exact (hsp hS).1 | exact (hsp hS).2 | (simp at hg;unfold iOk;omega),by first | (unfold iOk;omega) | exact (hsp hS).1 | exact (hsp hS).2 | (simp at hg;unfold iOk;omega),by first | (unfold iOk;omega) | exact (hsp hS).1 | exact (hsp hS).2 | (simp at hg;unfold iOk;omega),by first | (unfold iOk;omega) | exact (hsp hS).1 | exact (hsp hS).2 | (simp at hg;unfold iOk;omega)⟩
           ·have f4:=eqI_ne f4
            simp [f4]
            exact evD_of (by first | assumption | (simp;omega)) (by omega) fun hS=>⟨by first | (unfold iOk;omega) | exact (hsp hS).1 | exact (hsp hS).2 | (simp at hg;unfold iOk;omega),by first | (unfold iOk;omega) | exact (hsp hS).1 | exact (hsp hS).2 | (simp at hg;unfold iOk;omega),by first | (unfold iOk;omega) | exact (hsp hS).1 | exact (hsp hS).2 | (simp at hg;unfold iOk;omega),by first | (unfold iOk;omega) | exact (hsp hS).1 | exact (hsp hS).2 | (simp at hg;unfold iOk;omega)⟩
end Go.Ev

