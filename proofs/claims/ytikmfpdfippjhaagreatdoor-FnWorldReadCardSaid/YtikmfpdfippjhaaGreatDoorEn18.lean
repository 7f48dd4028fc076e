/- My texts joined: EvT89, EvT90, EvT91, EvT94, EvT95. No condition. -/
import Derived.Test.YtikmfpdfippjhaaGreatDoorEn9
import Derived.Test.YtikmfpdfippjhaaGreatDoorEn17
set_option linter.unusedVariables false
set_option linter.unusedSimpArgs false

set_option maxRecDepth 100000
set_option maxHeartbeats 40000000
namespace Go.Ev
open Go.Proofs
theorem ev_l3Lay (bs:Bs) (p:Nat) (b:RdB bs p) (hp:p+2≤1099511627776):∃ size many:Int,layOk size many=true∧ev E 65 [rdA bs p]=some { rs:=[.v .own true (layL size many)],outs:=[rdO bs (p+1+1)] }:=by
  obtain ⟨v,hv,c1⟩:=ev_num .tn bs p [1,2,3,4,5,8] b (by simp) (by simp)
  obtain ⟨k,hk,c2⟩:=ev_pick .ro bs (p+1) 3 ⟨b.b,by omega⟩ (by omega)
  have hk:=hk (by omega)
  have hw:IntKind.i64.wrap (1+(k:Int))=1+(k:Int):=wrap64 (by omega)
  refine ⟨v,1+k,layOk_iff.2 ?_,?_⟩
  · simp only [List.mem_cons,List.not_mem_nil,or_false] at hv
    omega
  · simp at c1
    rw [ev_fn Tryz.f65 rfl Tryz.func65 rfl rfl rfl (Nat.le_of_ble_eq_true rfl)]
    simp [c1,c2,hw]
def ReqD (bs:Bs) (p:Nat) (o:Out):Prop:=∃ (q:ReqT) (p':Nat),q.data.length≤300∧p'≤p+300∧o={ rs:=[.v .own true (reqL q)],outs:=[rdO bs p'] }
theorem reqD_of {bs:Bs} {p p':Nat} {a c f g h:Int} {x:Bs} (hx:x.length≤300) (hp:p'≤p+300) :
    Sat (ReqD bs p) (some { rs:=[.v .own true [.int .i64 a,.int .i64 c,.int .i64 f,.int .i64 g,.int .i64 h,.str x]],outs:=[rdO bs p'] }):=⟨_,rfl,⟨a,c,f,g,h,x⟩,p',hx,hp,rfl⟩
theorem ev_l5Ask (m:M) (hm:m.isOwn=false) (s:StoreT) (hl:s.last.length=3) (hf:s.floors.length≤4000000) (bs:Bs) (p:Nat) (b:RdB bs p) (hp:p+1000≤1099511627776):Sat (ReqD bs p) (ev E 64 [rdA bs p,.v m true (storeL s)]):=by
  obtain ⟨who,hwho,c1⟩:=ev_pick .ro bs p 3 b (by omega)
  obtain ⟨ep,hep,c2⟩:=ev_pick .ro bs (p+1) 4 ⟨b.b,by omega⟩ (by omega)
  obtain ⟨ob,hob,c3⟩:=ev_pick .ro bs (p+1+1) 3 ⟨b.b,by omega⟩ (by omega)
  obtain ⟨at0,hat0,c4⟩:=ev_pick .ro bs (p+1+1+1) 16 ⟨b.b,by omega⟩ (by omega)
  obtain ⟨x,hx,c5⟩:=ev_ofS .tn bs (p+1+1+1+1) [[120],[97,98],[113,55,46],[109,110,111,112]] ⟨b.b,by omega⟩ (by simp) (by simp)
  have hxl:x.length≤300:=by
    simp only [List.mem_cons,List.not_mem_nil,or_false] at hx
    rcases hx with rfl | rfl | rfl | rfl<;>simp
  obtain ⟨nn,hnn,c6⟩:=ev_num .tn bs (p+1+1+1+1+1) [1,1,1,1,1,0,2,-1] ⟨b.b,by omega⟩ (by simp) (by simp)
  have hwho:=hwho (by omega)
  have hw1:who<s.last.length:=by omega
  have hl':(s.last.length:Int)=3:=by omega
  simp at c5 c6
  obtain ⟨P0,hP0⟩:∃ P0,P0=p+1+1+1+1+1+1:=⟨_,rfl⟩
  rw [← hP0] at c6
  rw [ev_fn Tryz.f64 rfl Tryz.func64 rfl rfl rfl (Nat.le_of_ble_eq_true rfl)]
  have hwn:who<3:=by omega
  simp [c1,c2,c3,c4,c5,c6,hm,hw1,hl',hl,hwho,hwn]
  clear c1 c2 c3 c4 c5 c6
  cases e2:eqI (s.floors.length:Int) 3
  · simp [e2]
    obtain ⟨k,hk,d0⟩:=ev_pick .ro bs (P0) 50 ⟨b.b,by omega⟩ (by omega)
    simp [d0]
    by_cases f0:(k:Int)=0
    · obtain ⟨y,hy,d1⟩:=ev_l4WhoDraw bs (P0+1) ⟨b.b,by omega⟩ (by omega)
      simp [f0,d1]
      exact reqD_of (by assumption) (by omega)
    · have f0:=eqI_ne f0
      simp [f0]
      by_cases f1:(k:Int)=1
      · obtain ⟨y,hy,d1⟩:=ev_num .tn bs (P0+1) [-1,3] ⟨b.b,by omega⟩ (by simp) (by simp)
        simp at d1
        simp [f1,d1]
        exact reqD_of (by assumption) (by omega)
      · have f1:=eqI_ne f1
        simp [f1]
        by_cases f2:(k:Int)=2
        · obtain ⟨y,hy,d1⟩:=ev_num .tn bs (P0+1) [-1,48,9223372036854775807] ⟨b.b,by omega⟩ (by simp) (by simp)
          simp at d1
          simp [f2,d1]
          exact reqD_of (by assumption) (by omega)
        · have f2:=eqI_ne f2
          simp [f2]
          by_cases f3:(k:Int)=3
          · obtain ⟨y,hy,d1⟩:=ev_ofS .tn bs (P0+1) [[],[65],[97,32,98]] ⟨b.b,by omega⟩ (by simp) (by simp)
            have hyl:y.length≤300:=by
              simp only [List.mem_cons,List.not_mem_nil,or_false] at hy
              rcases hy with rfl | rfl | rfl<;>simp
            simp at d1
            simp [f3,d1]
            exact reqD_of (by assumption) (by omega)
          · have f3:=eqI_ne f3
            simp [f3]
            by_cases f4:(k:Int)=4
            · obtain ⟨y,hy,d1⟩:=ev_num .tn bs (P0+1) [0,-1,1001] ⟨b.b,by omega⟩ (by simp) (by simp)
              simp at d1
              simp [f4,d1]
              exact reqD_of (by assumption) (by omega)
            · have f4:=eqI_ne f4
              simp [f4]
              by_cases f5:(k:Int)=5
              · obtain ⟨y,hy,d1⟩:=ev_num .tn bs (P0+1) [-1,101] ⟨b.b,by omega⟩ (by simp) (by simp)
                simp at d1
                simp [f5,d1]
                exact reqD_of (by assumption) (by omega)
              · have f5:=eqI_ne f5
                simp [f5]
                exact reqD_of (by assumption) (by omega)
  · have hf3:who<s.floors.length:=by have:=eqI3.1 e2;omega
    obtain ⟨k3,hk3,c7⟩:=ev_pick .ro bs P0 3 ⟨b.b,by omega⟩ (by omega)
    cases e3:ltI 0 (k3:Int)
    · simp [e2,c7,e3]
      obtain ⟨k,hk,d0⟩:=ev_pick .ro bs (P0+1) 50 ⟨b.b,by omega⟩ (by omega)
      simp [d0]
      by_cases f0:(k:Int)=0
      · obtain ⟨y,hy,d1⟩:=ev_l4WhoDraw bs (P0+1+1) ⟨b.b,by omega⟩ (by omega)
        simp [f0,d1]
        exact reqD_of (by assumption) (by omega)
      · have f0:=eqI_ne f0
        simp [f0]
        by_cases f1:(k:Int)=1
        · obtain ⟨y,hy,d1⟩:=ev_num .tn bs (P0+1+1) [-1,3] ⟨b.b,by omega⟩ (by simp) (by simp)
          simp at d1
          simp [f1,d1]
          exact reqD_of (by assumption) (by omega)
        · have f1:=eqI_ne f1
          simp [f1]
          by_cases f2:(k:Int)=2
          · obtain ⟨y,hy,d1⟩:=ev_num .tn bs (P0+1+1) [-1,48,9223372036854775807] ⟨b.b,by omega⟩ (by simp) (by simp)
            simp at d1
            simp [f2,d1]
            exact reqD_of (by assumption) (by omega)
          · have f2:=eqI_ne f2
            simp [f2]
            by_cases f3:(k:Int)=3
            · obtain ⟨y,hy,d1⟩:=ev_ofS .tn bs (P0+1+1) [[],[65],[97,32,98]] ⟨b.b,by omega⟩ (by simp) (by simp)
              have hyl:y.length≤300:=by
                simp only [List.mem_cons,List.not_mem_nil,or_false] at hy
                rcases hy with rfl | rfl | rfl<;>simp
              simp at d1
              simp [f3,d1]
              exact reqD_of (by assumption) (by omega)
            · have f3:=eqI_ne f3
              simp [f3]
              by_cases f4:(k:Int)=4
              · obtain ⟨y,hy,d1⟩:=ev_num .tn bs (P0+1+1) [0,-1,1001] ⟨b.b,by omega⟩ (by simp) (by simp)
                simp at d1
                simp [f4,d1]
                exact reqD_of (by assumption) (by omega)
              · have f4:=eqI_ne f4
                simp [f4]
                by_cases f5:(k:Int)=5
                · obtain ⟨y,hy,d1⟩:=ev_num .tn bs (P0+1+1) [-1,101] ⟨b.b,by omega⟩ (by simp) (by simp)
                  simp at d1
                  simp [f5,d1]
                  exact reqD_of (by assumption) (by omega)
                · have f5:=eqI_ne f5
                  simp [f5]
                  exact reqD_of (by assumption) (by omega)
    · obtain ⟨k2,hk2,c8⟩:=ev_pick .ro bs (P0+1) 2 ⟨b.b,by omega⟩ (by omega)
      simp [e2,c7,e3,hf3,c8,hm]
      obtain ⟨k,hk,d0⟩:=ev_pick .ro bs (P0+1+1) 50 ⟨b.b,by omega⟩ (by omega)
      simp [d0]
      by_cases f0:(k:Int)=0
      · obtain ⟨y,hy,d1⟩:=ev_l4WhoDraw bs (P0+1+1+1) ⟨b.b,by omega⟩ (by omega)
        simp [f0,d1]
        exact reqD_of (by assumption) (by omega)
      · have f0:=eqI_ne f0
        simp [f0]
        by_cases f1:(k:Int)=1
        · obtain ⟨y,hy,d1⟩:=ev_num .tn bs (P0+1+1+1) [-1,3] ⟨b.b,by omega⟩ (by simp) (by simp)
          simp at d1
          simp [f1,d1]
          exact reqD_of (by assumption) (by omega)
        · have f1:=eqI_ne f1
          simp [f1]
          by_cases f2:(k:Int)=2
          · obtain ⟨y,hy,d1⟩:=ev_num .tn bs (P0+1+1+1) [-1,48,9223372036854775807] ⟨b.b,by omega⟩ (by simp) (by simp)
            simp at d1
            simp [f2,d1]
            exact reqD_of (by assumption) (by omega)
          · have f2:=eqI_ne f2
            simp [f2]
            by_cases f3:(k:Int)=3
            · obtain ⟨y,hy,d1⟩:=ev_ofS .tn bs (P0+1+1+1) [[],[65],[97,32,98]] ⟨b.b,by omega⟩ (by simp) (by simp)
              have hyl:y.length≤300:=by
                simp only [List.mem_cons,List.not_mem_nil,or_false] at hy
                rcases hy with rfl | rfl | rfl<;>simp
              simp at d1
              simp [f3,d1]
              exact reqD_of (by assumption) (by omega)
            · have f3:=eqI_ne f3
              simp [f3]
              by_cases f4:(k:Int)=4
              · obtain ⟨y,hy,d1⟩:=ev_num .tn bs (P0+1+1+1) [0,-1,1001] ⟨b.b,by omega⟩ (by simp) (by simp)
                simp at d1
                simp [f4,d1]
                exact reqD_of (by assumption) (by omega)
              · have f4:=eqI_ne f4
                simp [f4]
                by_cases f5:(k:Int)=5
                · obtain ⟨y,hy,d1⟩:=ev_num .tn bs (P0+1+1+1) [-1,101] ⟨b.b,by omega⟩ (by simp) (by simp)
                  simp at d1
                  simp [f5,d1]
                  exact reqD_of (by assumption) (by omega)
                · have f5:=eqI_ne f5
                  simp [f5]
                  exact reqD_of (by assumption) (by omega)
structure StoreK (n:Nat) (s:StoreT):Prop where
  now:s.now.length≤n
  sure:s.sure.length≤n
  last:s.last.length≤n
  slast:s.slast.length≤n
  floors:s.floors.length≤n
  nowT:∀ x∈s.now,x.length≤n
  sureT:∀ x∈s.sure,x.length≤n
theorem StoreK.c {n:Nat} {s:StoreT} (h:StoreK n s) (hn:n≤4000000):StoreC s :=
  ⟨⟨by have:=h.now;omega,by have:=h.sure;omega,by have:=h.last;omega,by have:=h.slast;omega,by have:=h.floors;omega⟩,fun x hx=>by have:=h.nowT x hx;omega,fun x hx=>by have:=h.sureT x hx;omega⟩
def StD (n l:Nat) (bs:Bs) (p:Nat) (o:Out):Prop:=∃ (m:M) (s:StoreT) (p':Nat),(m=.own∨m=.ro)∧StoreK n s∧s.last.length=l∧p'≤p+10∧o={ rs:=[.v m true (storeL s)],outs:=[rdO bs p'] }
theorem stD_own {n l:Nat} {bs:Bs} {p p':Nat} {a b:List Bs} {c d f:List Int} (h:StoreK n ⟨a,b,c,d,f⟩) (hl:c.length=l) (hp:p'≤p+10) :
    Sat (StD n l bs p) (some { rs:=[.v .own true [.sl (strsL a),.sl (strsL b),.sl (intsL c),.sl (intsL d),.sl (intsL f)]],outs:=[rdO bs p'] }):=⟨_,rfl,.own,⟨a,b,c,d,f⟩,p',.inl rfl,h,hl,hp,rfl⟩
theorem stD_ro {n l:Nat} {bs:Bs} {p p':Nat} {a b:List Bs} {c d f:List Int} (h:StoreK n ⟨a,b,c,d,f⟩) (hl:c.length=l) (hp:p'≤p+10) :
    Sat (StD n l bs p) (some { rs:=[.v .ro true [.sl (strsL a),.sl (strsL b),.sl (intsL c),.sl (intsL d),.sl (intsL f)]],outs:=[rdO bs p'] }):=⟨_,rfl,.ro,⟨a,b,c,d,f⟩,p',.inr rfl,h,hl,hp,rfl⟩
theorem ev_l5Bent (m:M) (hm:m.isOwn=false) (s:StoreT) (n:Nat) (hn1:1≤n) (hn:n≤4000000) (C:StoreK n s) (bs:Bs) (p:Nat) (b:RdB bs p) (hp:p+20≤1099511627776):Sat (StD n s.last.length bs p) (ev E 59 [rdA bs p,.v m true (storeL s)]):=by
  have c1:=fun m hm=>ev_l5Copy m hm s (C.c hn).toStoreB
  obtain ⟨k,hk,c2⟩:=ev_pick .ro bs p 72 b (by omega)
  obtain ⟨sn,ss,sl,sq,sf⟩:=s
  obtain ⟨b1,b2,b3,b4,b5,b6,b7⟩:=C
  dsimp only at *
  rw [ev_fn Tryz.f59 rfl Tryz.func59 rfl rfl rfl (Nat.le_of_ble_eq_true rfl)]
  simp [c1,c2,hm]
  by_cases f0:(k:Int)=0
  · cases e1:ltI 0 (sn.length:Int)
    · simp [f0,e1]
      exact stD_own ⟨b1,b2,b3,b4,b5,b6,b7⟩ rfl (by omega)
    · have h1:(1:Int)≤sn.length:=by have:=ltI_iff.1 e1;omega
      have h2:1≤sn.length:=by omega
      have e:(List.take sn.length (strsL sn)).tail=strsL (sn.drop 1):=by
        rw [List.take_of_length_le (by simp)]
        simp
      simp [-List.map_drop,← List.map_drop,f0,e1,h1,h2]
      rw [e]
      exact stD_ro ⟨by simp;omega,b2,b3,b4,b5,fun x hx=>b6 x (List.mem_of_mem_drop hx),b7⟩ rfl (by omega)
  · have f0:=eqI_ne f0
    by_cases f1:(k:Int)=1
    · cases e1:ltI 0 (ss.length:Int)
      · simp [f1,e1]
        exact stD_own ⟨b1,b2,b3,b4,b5,b6,b7⟩ rfl (by omega)
      · have h1:0<ss.length:=by have:=ltI_iff.1 e1;omega
        have h2:ss≠[]:=fun h=>by rw [h] at h1;simp at h1
        have hs:(strsL ss).set 0 [.str [65]]=strsL (ss.set 0 [65]):=by simp [List.map_set]
        simp [f1,e1,h1,h2]
        rw [hs]
        exact stD_own ⟨b1,by simp;omega,b3,b4,b5,b6,fun x hx=>by rcases List.mem_or_eq_of_mem_set hx with h | h;exact b7 x h;subst h;simpa using hn1⟩ rfl (by omega)
    · have f1:=eqI_ne f1
      by_cases f2:(k:Int)=2
      · cases e1:ltI 0 (sl.length:Int)
        · simp [f2,e1]
          exact stD_own ⟨b1,b2,b3,b4,b5,b6,b7⟩ rfl (by omega)
        · obtain ⟨y,hy,d1⟩:=ev_num .tn bs (p+1) [-1,1000,1001] ⟨b.b,by omega⟩ (by simp) (by simp)
          simp at d1
          have h1:0<sl.length:=by have:=ltI_iff.1 e1;omega
          have h2:sl≠[]:=fun h=>by rw [h] at h1;simp at h1
          have hs:(intsL sl).set 0 [.int .i64 y]=intsL (sl.set 0 y):=by simp [List.map_set]
          simp [f2,e1,d1,h1,h2]
          rw [hs]
          exact stD_own ⟨b1,b2,by simp;omega,b4,b5,b6,b7⟩ (by simp) (by omega)
      · have f2:=eqI_ne f2
        by_cases f3:(k:Int)=3
        · cases e1:ltI 1 (sq.length:Int)
          · simp [f3,e1]
            exact stD_own ⟨b1,b2,b3,b4,b5,b6,b7⟩ rfl (by omega)
          · cases e2:ltI 1 (sl.length:Int)
            · simp [f3,e1,e2]
              exact stD_own ⟨b1,b2,b3,b4,b5,b6,b7⟩ rfl (by omega)
            · obtain ⟨y,hy,d1⟩:=ev_num .tn bs (p+1) [1,-1] ⟨b.b,by omega⟩ (by simp) (by simp)
              simp at d1
              have h1:1<sq.length:=by have:=ltI_iff.1 e1;omega
              have hl1:1<sl.length:=by have:=ltI_iff.1 e2;omega
              have hs:(intsL sq).set 1 [.int .i64 (IntKind.i64.wrap (sl[1]+y))]=intsL (sq.set 1 (IntKind.i64.wrap (sl[1]+y))):=by simp [List.map_set]
              simp [f3,e1,e2,d1,hl1,h1]
              rw [hs]
              exact stD_own ⟨b1,b2,b3,by simp;omega,b5,b6,b7⟩ rfl (by omega)
        · have f3:=eqI_ne f3
          by_cases f4:(k:Int)=4
          · cases e1:ltI 0 (sf.length:Int)
            · simp [f4,e1]
              exact stD_own ⟨b1,b2,b3,b4,b5,b6,b7⟩ rfl (by omega)
            · obtain ⟨y,hy,d1⟩:=ev_num .tn bs (p+1) [-1,100,101] ⟨b.b,by omega⟩ (by simp) (by simp)
              simp at d1
              have h1:0<sf.length:=by have:=ltI_iff.1 e1;omega
              have h2:sf≠[]:=fun h=>by rw [h] at h1;simp at h1
              have hs:(intsL sf).set 0 [.int .i64 y]=intsL (sf.set 0 y):=by simp [List.map_set]
              simp [f4,e1,d1,h1,h2]
              rw [hs]
              exact stD_own ⟨b1,b2,b3,b4,by simp;omega,b6,b7⟩ rfl (by omega)
          · have f4:=eqI_ne f4
            by_cases f5:(k:Int)=5
            · simp [f5]
              exact stD_own (f:=[]) ⟨b1,b2,b3,b4,by simp,b6,b7⟩ rfl (by omega)
            · have f5:=eqI_ne f5
              simp [f0,f1,f2,f3,f4,f5]
              exact stD_own ⟨b1,b2,b3,b4,b5,b6,b7⟩ rfl (by omega)
set_option maxRecDepth 100000
set_option maxHeartbeats 8000000
theorem ev_spec_StoreNew:ev E 171 []=some { rs:=[.v .own true (storeL newSt)],outs:=[] }:=by
  rw [ev_fn Tryz.f171 rfl Tryz.func171 rfl rfl rfl (Nat.le_of_ble_eq_true rfl)]
  simp [newSt]
theorem ev_l4None:ev E 172 []=some { rs:=[.v .own false [.sl ([noH,noH,noH].map holdL)]],outs:=[] }:=by
  rw [ev_fn Tryz.f172 rfl Tryz.func172 rfl rfl rfl (Nat.le_of_ble_eq_true rfl)]
  simp [noH]
def newWL (size many:Int):WorldT:=if layOk size many=true then newW size many else noW
def newAt (size many:Int) (i:Nat):WorldT:={ newW size many with owns:=List.replicate i noO,alive:=List.replicate i true }
theorem lp_sNew (size many:Int) (a:Code) (ha:a=lp Tryz.f120 0) :
    loopC E (ev E) 120 a { V:=[(2,adc 2),(3,adc 3),(4,vi 0)],H:=[bx (.c 2) (worldL noW),bx (.c 3) (worldL (newAt size many 0))],ps:=[] } =
      some (.exit 0,{ V:=[(2,adc 2),(3,adc 3),(4,vi 3),(15,vb false)],H:=[bx (.c 2) (worldL noW),bx (.c 3) (worldL (newAt size many 3))],ps:=[] }):=by
  have c:ev E 113 []=some { rs:=[.v .own true (ownL noO)],outs:=[] }:=ev_l6None
  have w1:IntKind.i64.wrap 1=1:=by decide
  have w2:IntKind.i64.wrap 2=2:=by decide
  have w3:IntKind.i64.wrap 3=3:=by decide
  generalize noO.t=t0 at *
  rw [noW_L]
  simp only [newAt,newW,newSt,List.replicate]
  generalize noO=nO at *
  rw [loopC_of _ _ _ _ ha]
  simp [lp,loopsOf,Tryz.f120,c,w1]
  rw [loopC_of _ _ _ _ ha]
  simp [lp,loopsOf,Tryz.f120,c,w2]
  rw [loopC_of _ _ _ _ ha]
  simp [lp,loopsOf,Tryz.f120,c,w3]
  rw [loopC_of _ _ _ _ ha]
  simp [lp,loopsOf,Tryz.f120]
theorem ev_spec_WorldNew (m:M) (size many:Int):ev E 120 [.v m true (layL size many)]=some (rW1 .own (newWL size many)):=by
  have c1:∀ m,ev E 119 [.v m true (layL size many)]=some (rB (layOk size many)):=fun m=>ev_spec_LayOk m size many
  have c2:=ev_spec_StoreNew
  have c3:=ev_l4None
  unfold newWL
  cases e:layOk size many
  · rw [e] at c1
    rw [ev_fn Tryz.f120 rfl Tryz.func120 rfl rfl rfl (Nat.le_of_ble_eq_true rfl)]
    simp [c1,rW1,noW,noS]
  · rw [e] at c1
    have l0:=fun a ha=>lp_sNew size many a ha
    rw [noW_L] at l0
    simp only [newAt,newW,newSt,List.replicate] at l0
    simp only [newSt] at c2
    rw [ev_fn Tryz.f120 rfl Tryz.func120 rfl rfl rfl (Nat.le_of_ble_eq_true rfl)]
    simp [c1,c2,c3]
    simp at l0
    simp only [worldL,strsL,intsL,boolsL,List.map_cons,List.map_nil] at l0
    rw [loopC_at ?_ l0]
    · simp [rW1,newW,newSt]
    · rfl
def cln:M→M
  | .tn=>.ro
  | m=>m
theorem cln_ok {m:M} (h:OwRo m):OwRo (cln m):=by
  rcases h with rfl | rfl | rfl
  · exact .inl rfl
  · exact .inr (.inl rfl)
  · exact .inr (.inl rfl)
theorem lp_sPlay (ml:M) (hml:ml.isOwn=false) (es:List EvT) (hb:es.length≤1000) (hd:∀ e∈es,e.data.length≤4000000) (a:Code) (ha:a=lp Tryz.f66 0):∀ (n i:Nat) (m:M) (w:WorldT) (cs:List Int),i+n=es.length→OwRo m→WorldP w→cs.length=i →
    ∃ m',OwRo m'∧loopC E (ev E) 66 a { V:=[(1,.v ml false [.sl (es.map evL)]),(4,adc 4),(6,at1 6),(7,adc 7),(8,vi i)],H:=[bx (.c 4) (worldL noW),ow (.c 6) [.sl (intsL cs)],bxm (.c 7) m (worldL w)],ps:=[] } =
      some (.exit 0,{ V:=[(1,.v ml false [.sl (es.map evL)]),(4,adc 4),(6,at1 6),(7,adc 7),(8,vi es.length),(26,vb false)],H:=[bx (.c 4) (worldL noW),ow (.c 6) [.sl (intsL (cs++(playW w (es.drop i)).2))],bxm (.c 7) m' (worldL (playW w (es.drop i)).1)],ps:=[] })
  | 0,i,m,w,cs,h,hm,hw,hc=>by
    refine ⟨m,hm,?_⟩
    rw [loopC_of _ _ _ _ ha,noW_L]
    obtain rfl:i=es.length:=by omega
    rcases hm with rfl | rfl | rfl<;>simp [lp,loopsOf,Tryz.f66,playW,hml]
  | n+1,i,m,w,cs,h,hm,hw,hc=>by
    have hlt:i<es.length:=by omega
    have hwr:=wrapN i (by omega)
    have c1:=fun m hm=>ev_l7Copy m hm w hw.wb
    have h1:(cs.length+1)*8≤17592186044416:=by omega
    have h2:cs.length+1≤17592186044416:=by omega
    obtain ⟨mz,hmz,c2⟩:=ev_l7Do w hw es[i] (hd _ (List.getElem_mem hlt))
    obtain ⟨m',hm',ih⟩:=lp_sPlay ml hml es hb hd a ha n (i+1) (cln mz) (doW w es[i]).1 (cs++[(doW w es[i]).2.2]) (by omega) (cln_ok hmz) (doW_ok hw _) (by simp;omega)
    push_cast at ih
    simp only [rWS] at c2
    refine ⟨m',hm',?_⟩
    rw [loopC_of _ _ _ _ ha,List.drop_eq_getElem_cons hlt,playW]
    clear ha
    dsimp only
    generalize doW w es[i]=z at *
    generalize playW z.1 (es.drop (i+1))=y at *
    rw [noW_L] at ih ⊢
    rcases hm with rfl | rfl | rfl<;>rcases hmz with rfl | rfl | rfl
    all_goals
      simp [lp,loopsOf,Tryz.f66,hlt,hwr,hml,c1,c2,h1,h2]
      simpa [cln] using ih
def worldPlay (size many:Int) (es:List EvT):WorldT × List Int:=if (layOk size many&&!ltI 60 es.length)=true then playW (newW size many) es else (noW,[])
def rWC (w:WorldT) (cs:List Int):Out:={ rs:=[.v .own true (worldL w),.v .own false [.sl (intsL cs)]],outs:=[] }
theorem ev_spec_WorldPlay (m ml:M) (hml:ml.isOwn=false) (size many:Int) (es:List EvT) (hb:es.length≤4000000) (hd:∀ e∈es,e.data.length≤4000000) :
    ev E 66 [.v m true (layL size many),.v ml false [.sl (es.map evL)]]=some (rWC (worldPlay size many es).1 (worldPlay size many es).2):=by
  have c1:∀ m,ev E 119 [.v m true (layL size many)]=some (rB (layOk size many)):=fun m=>ev_spec_LayOk m size many
  have c2:=fun m=>ev_spec_WorldNew m size many
  simp only [newWL,rW1] at c2
  unfold worldPlay
  cases e:layOk size many
  · rw [e] at c1
    rw [ev_fn Tryz.f66 rfl Tryz.func66 rfl rfl rfl (Nat.le_of_ble_eq_true rfl)]
    simp [c1,hml,rWC,noW,noS]
  · rw [e] at c1 c2
    simp only [if_true] at c2
    cases e2:ltI 60 es.length
    · have h60:=ltI_not.1 e2
      have hN:=newW_ok e
      obtain ⟨m',hm',l0⟩:=lp_sPlay ml hml es (by omega) hd _ rfl es.length 0 .own (newW size many) [] (by omega) (.inl rfl) hN rfl
      have c3:=fun m hm=>ev_l7Copy m hm _ (playW_ok es hN).wb
      push_cast at l0
      simp only [List.drop_zero,List.nil_append,List.map_nil] at l0
      rw [noW_L] at l0
      simp only [Bool.not_false,Bool.and_true,if_true]
      generalize newW size many=w0 at *
      generalize playW w0 es=z at *
      rw [ev_fn Tryz.f66 rfl Tryz.func66 rfl rfl rfl (Nat.le_of_ble_eq_true rfl)]
      simp [c1,c2,e2,hml]
      rw [loopC_at ?_ l0]
      · rcases hm' with rfl | rfl | rfl<;>simp [c3,rWC]
      · rfl
    · rw [ev_fn Tryz.f66 rfl Tryz.func66 rfl rfl rfl (Nat.le_of_ble_eq_true rfl)]
      simp [c1,e2,hml,rWC,noW,noS]
set_option maxRecDepth 100000
set_option maxHeartbeats 8000000
theorem noW_wb:WorldB noW:=by
  refine ⟨⟨?_,?_,?_,?_,?_⟩,?_,?_,?_,?_,?_,?_,?_,?_⟩<;>simp [noW,noS]
def WOk (w:WorldT):Prop:=WorldP w∨w=noW
theorem WOk.wb {w:WorldT} (h:WOk w):WorldB w:=by
  rcases h with h | rfl
  · exact h.wb
  · exact noW_wb
theorem lp_l7Evs (bs:Bs) (hb:bs.length≤2000) (mn:M) (N:Nat) (hN:N≤1000) (a:Code) (ha:a=lp Tryz.f67 0):∀ (n i p:Nat) (m:M) (w:WorldT) (es:List EvT),i+n=N→OwRo m→WOk w→es.length=i→(∀ e∈es,e.data.length≤300)→p+300*n+1000≤1099511627776 →
    ∃ (m':M) (p':Nat) (w':WorldT) (fs:List EvT),fs.length=N∧(∀ e∈fs,e.data.length≤300)∧p'≤p+300*n∧loopC E (ev E) 67 a { V:=[(0,adp 0),(2,.v mn false [.int .i64 N]),(7,at1 7),(8,adc 8),(9,vi i)],H:=[rdH bs p,ow (.c 7) [.sl (es.map evL)],bxm (.c 8) m (worldL w)],ps:=[0] } =
      some (.exit 0,{ V:=[(0,adp 0),(2,.v mn false [.int .i64 N]),(7,at1 7),(8,adc 8),(9,vi N),(16,vb false)],H:=[rdH bs p',ow (.c 7) [.sl (fs.map evL)],bxm (.c 8) m' (worldL w')],ps:=[0] })
  | 0,i,p,m,w,es,h,hm,hw,he,hd,hp=>by
    refine ⟨m,p,w,es,by omega,hd,by omega,?_⟩
    rw [loopC_of _ _ _ _ ha]
    obtain rfl:i=N:=by omega
    rcases hm with rfl | rfl | rfl<;>simp [lp,loopsOf,Tryz.f67]
  | n+1,i,p,m,w,es,h,hm,hw,he,hd,hp=>by
    have hI:(i:Int)<N:=by omega
    have hwr:=wrapN i (by omega)
    have h1:(es.length+1)*64≤17592186044416:=by omega
    have h2:es.length+1≤17592186044416:=by omega
    have B:=hw.wb
    have c3:=fun m hm=>ev_l7Copy m hm w B
    obtain ⟨mA,hmA,hx⟩:∃ mA:M,mA.isOwn=false∧((m=.own∧mA=.tn)∨(m=.ro∧mA=.ro)∨(m=.tn∧mA=.tn)):=by
      rcases hm with rfl | rfl | rfl
      · exact ⟨.tn,rfl,.inl ⟨rfl,rfl⟩⟩
      · exact ⟨.ro,rfl,.inr (.inl ⟨rfl,rfl⟩)⟩
      · exact ⟨.tn,rfl,.inr (.inr ⟨rfl,rfl⟩)⟩
    obtain ⟨_,c1,e,p',hed,hp',rfl⟩:=ev_l7Ev mA hmA w B bs p ⟨hb,by omega⟩ (by omega)
    have hd2:∀ x∈es++[e],x.data.length≤300:=fun x hx=>by
      rcases List.mem_append.1 hx with h | h
      · exact hd x h
      · rw [List.mem_singleton.1 h];exact hed
    cases e1:ltI 0 (w.owns.length:Int)
    · obtain ⟨m',p2,w',fs,q1,q2,q3,ih⟩:=lp_l7Evs bs hb mn N hN a ha n (i+1) p' m w (es++[e]) (by omega) hm hw (by simp;omega) hd2 (by omega)
      refine ⟨m',p2,w',fs,q1,q2,by omega,?_⟩
      push_cast at ih
      rw [loopC_of _ _ _ _ ha]
      clear ha
      rcases hx with ⟨rfl,rfl⟩ | ⟨rfl,rfl⟩ | ⟨rfl,rfl⟩
      all_goals
        simp [lp,loopsOf,Tryz.f67,hI,hwr,c1,h1,h2,e1]
        simpa using ih
    · have hwp:WorldP w:=by
        rcases hw with h | h
        · exact h
        · rw [h] at e1;simp [noW] at e1
      obtain ⟨mz,hmz,c2⟩:=ev_l7Do w hwp e (by omega)
      obtain ⟨m',p2,w',fs,q1,q2,q3,ih⟩:=lp_l7Evs bs hb mn N hN a ha n (i+1) p' (cln mz) (doW w e).1 (es++[e]) (by omega) (cln_ok hmz) (.inl (doW_ok hwp e)) (by simp;omega) hd2 (by omega)
      refine ⟨m',p2,w',fs,q1,q2,by omega,?_⟩
      push_cast at ih
      simp only [rWS] at c2
      rw [loopC_of _ _ _ _ ha]
      clear ha
      generalize doW w e=z at *
      rcases hx with ⟨rfl,rfl⟩ | ⟨rfl,rfl⟩ | ⟨rfl,rfl⟩<;>rcases hmz with rfl | rfl | rfl
      all_goals
        simp [lp,loopsOf,Tryz.f67,hI,hwr,c1,c2,c3,h1,h2,e1]
        simpa [cln] using ih
theorem newWL_ok (size many:Int):WOk (newWL size many):=by
  unfold newWL
  cases e:layOk size many
  · exact .inr rfl
  · exact .inl (newW_ok e)
theorem ev_l7Evs (m mn:M) (bs:Bs) (p:Nat) (b:RdB bs p) (size many:Int) (N:Nat) (hN:N≤1000) (hp:p+300*N+1000≤1099511627776) :
    ∃ (fs:List EvT) (p':Nat),fs.length=N∧(∀ e∈fs,e.data.length≤300)∧p'≤p+300*N∧ev E 67 [rdA bs p,.v m true (layL size many),.v mn false [.int .i64 N]]=some { rs:=[.v .own false [.sl (fs.map evL)]],outs:=[rdO bs p'] }:=by
  have c1:=fun m=>ev_spec_WorldNew m size many
  simp only [rW1] at c1
  have hW:=newWL_ok size many
  generalize newWL size many=w at *
  obtain ⟨m',p',w',fs,q1,q2,q3,l0⟩:=lp_l7Evs bs b.b mn N hN _ rfl N 0 p .own w [] (by omega) (.inl rfl) hW rfl (by simp) (by omega)
  refine ⟨fs,p',q1,q2,by omega,?_⟩
  push_cast at l0
  simp only [List.map_nil] at l0
  rw [ev_fn Tryz.f67 rfl Tryz.func67 rfl rfl rfl (Nat.le_of_ble_eq_true rfl)]
  simp [c1]
  rw [loopC_at ?_ l0]
  · simp
  · rfl
theorem ev_l7Some (bs:Bs) (p:Nat) (b:RdB bs p) (hp:p+20000≤1099511627776) :
    ∃ (w:WorldT) (p':Nat),WorldP w∧p'≤p+10000∧ev E 25 [rdA bs p]=some { rs:=[.v .own true (worldL w)],outs:=[rdO bs p'] }:=by
  obtain ⟨size,many,hl,c1⟩:=ev_l3Lay bs p b (by omega)
  obtain ⟨v,hv,c2⟩:=ev_num .tn bs (p+1+1) [8,14,20,4,0,30] ⟨b.b,by omega⟩ (by simp) (by simp)
  simp only [List.mem_cons,List.not_mem_nil,or_false] at hv
  obtain ⟨N,rfl⟩:∃ N:Nat,v=N:=⟨v.toNat,by omega⟩
  have hN:N≤30:=by omega
  obtain ⟨fs,p',q1,q2,q3,c3⟩:=ev_l7Evs .ro .own bs (p+1+1+1) ⟨b.b,by omega⟩ size many N (by omega) (by omega)
  have c4:=fun m ml hml=>ev_spec_WorldPlay m ml hml size many fs (by omega) (fun e he=>by have:=q2 e he;omega)
  have hP:worldPlay size many fs=playW (newW size many) fs:=by
    unfold worldPlay
    rw [if_pos]
    rw [hl,Bool.true_and,Bool.not_eq_true',ltI_not]
    omega
  rw [hP] at c4
  have hok:=playW_ok fs (newW_ok hl)
  simp only [rWC] at c4
  refine ⟨(playW (newW size many) fs).1,p',hok,by omega,?_⟩
  generalize playW (newW size many) fs=z at *
  simp at c2
  rw [ev_fn Tryz.f25 rfl Tryz.func25 rfl rfl rfl (Nat.le_of_ble_eq_true rfl)]
  simp [c1,c2,c3,c4]
def LkD (n l:Nat) (bs:Bs) (p:Nat) (o:Out):Prop:=∃ (m:M) (t:List HoldT) (p':Nat),OwRo m∧l≤t.length∧t.length≤n∧(∀ h∈t,h.r.length≤n∧h.w.length≤n)∧p'≤p+200∧o={ rs:=[.v m false [.sl (t.map holdL)]],outs:=[rdO bs p'] }
theorem lkD_of {n l:Nat} {bs:Bs} {p p':Nat} {m:M} {t:List HoldT} (hm:OwRo m) (h0:l≤t.length) (h1:t.length≤n) (h2:∀ h∈t,h.r.length≤n∧h.w.length≤n) (hp:p'≤p+200):Sat (LkD n l bs p) (some { rs:=[.v m false [.sl (t.map holdL)]],outs:=[rdO bs p'] }):=⟨_,rfl,m,t,p',hm,h0,h1,h2,hp,rfl⟩
theorem lkD_eq {n l:Nat} {bs:Bs} {p p':Nat} {m:M} {xs:List (List L)} (t:List HoldT) (he:xs=t.map holdL) (hm:OwRo m) (h0:l≤t.length) (h1:t.length≤n) (h2:∀ h∈t,h.r.length≤n∧h.w.length≤n) (hp:p'≤p+200):Sat (LkD n l bs p) (some { rs:=[.v m false [.sl xs]],outs:=[rdO bs p'] }):=by
  subst he
  exact lkD_of hm h0 h1 h2 hp
theorem ev_l4Bent (m:M) (hm:m.isOwn=false) (t:List HoldT) (n:Nat) (hn:n≤3000000) (h2:2≤t.length) (h3:t.length≤n) (hk:∀ h∈t,h.r.length≤n∧h.w.length≤n) (bs:Bs) (p:Nat) (b:RdB bs p) (hp:p+1000≤1099511627776):Sat (LkD (n+100) (t.length - 1) bs p) (ev E 61 [rdA bs p,.v m false [.sl (t.map holdL)]]):=by
  have c1:=fun m hm=>ev_l4Copy m hm t (by omega) (fun h hh=>⟨by have:=(hk h hh).1;omega,by have:=(hk h hh).2;omega⟩)
  obtain ⟨k,hk0,c2⟩:=ev_pick .ro bs p 40 b (by omega)
  have hk':∀ h∈t,h.r.length≤n+100∧h.w.length≤n+100:=fun h hh=>⟨by have:=(hk h hh).1;omega,by have:=(hk h hh).2;omega⟩
  have l0:0<t.length:=by omega
  have l1:1<t.length:=by omega
  have l1':1≤t.length:=by omega
  have l1i:(1:Int)≤t.length:=by omega
  have ne:t≠[]:=fun h=>by rw [h] at l0;simp at l0
  rw [ev_fn Tryz.f61 rfl Tryz.func61 rfl rfl rfl (Nat.le_of_ble_eq_true rfl)]
  simp [c1,c2,hm]
  by_cases f0:(k:Int)=0
  · have e:(List.take t.length (t.map holdL)).tail=(t.drop 1).map holdL:=by
      rw [List.take_of_length_le (by simp)]
      simp
    simp [-List.map_drop,← List.map_drop,f0,l1',l1i]
    exact lkD_eq (t.drop 1) (by first | exact e | simp [e] | simp) (.inr (.inl rfl)) (by simp) (by simp;omega) (fun h hh=>hk' h (List.mem_of_mem_drop hh)) (by omega)
  · have f0:=eqI_ne f0
    by_cases f1:(k:Int)=1
    · obtain ⟨s,hs,d1⟩:=ev_l1Span bs (p+1) ⟨b.b,by omega⟩ (by omega)
      have hw:=(hk t[0] (List.getElem_mem l0)).2
      have a1:(t[0].w.length+1)*16≤17592186044416:=by omega
      have a2:t[0].w.length+1≤17592186044416:=by omega
      simp [f1,d1,l0,ne,a1,a2]
      exact lkD_eq (t.set 0 ⟨t[0].r,t[0].w++[s]⟩) (by simp [List.map_set,holdL]) (.inl rfl) (by simp<;>omega) (by rw [List.length_set];omega) (fun h hh=>by
        rcases List.mem_or_eq_of_mem_set hh with g | rfl
        · exact hk' h g
        · have:=(hk t[0] (List.getElem_mem l0)).1
          refine ⟨?_,?_⟩
          · show t[0].r.length≤n+100
            omega
          · show (t[0].w++[s]).length≤n+100
            rw [List.length_append,List.length_singleton]
            omega) (by omega)
    · have f1:=eqI_ne f1
      by_cases f2:(k:Int)=2
      · obtain ⟨q,x,hx,hq,d1⟩:=ev_l1Lists bs (p+1) ⟨b.b,by omega⟩ (by omega)
        simp [f2,d1,l1]
        exact lkD_eq (t.set 1 ⟨x,t[1].w⟩) (by simp [List.map_set,holdL]) (.inl rfl) (by simp<;>omega) (by rw [List.length_set];omega) (fun h hh=>by
          rcases List.mem_or_eq_of_mem_set hh with g | rfl
          · exact hk' h g
          · have:=(hk t[1] (List.getElem_mem l1)).2
            refine ⟨?_,?_⟩
            · show x.length≤n+100
              omega
            · show t[1].w.length≤n+100
              omega) (by omega)
      · have f2:=eqI_ne f2
        by_cases f3:(k:Int)=3
        · have a1:(t.length+1)*48≤17592186044416:=by omega
          have a2:t.length≤17592186044415:=by omega
          simp [f3,a1,a2]
          exact lkD_eq (t++[noH]) (by simp [noH,holdL]) (.inl rfl) (by simp<;>omega) (by rw [List.length_append,List.length_singleton];omega) (fun h hh=>by
            rcases List.mem_append.1 hh with g | g
            · exact hk' h g
            · rw [List.mem_singleton.1 g];simp [noH]) (by omega)
        · have f3:=eqI_ne f3
          simp [f0,f1,f2,f3]
          exact lkD_of (.inl rfl) (by omega) (by omega) hk' (by omega)
set_option maxRecDepth 100000
set_option maxHeartbeats 40000000
structure WorldK (n lo:Nat) (w:WorldT):Prop where
  st:StoreK n w.st
  locks:lo≤w.locks.length∧w.locks.length≤n
  holds:∀ h∈w.locks,h.r.length≤n∧h.w.length≤n
  owns:w.owns.length=3
  owned:∀ o∈w.owns,o.t.length≤n∧o.h.length≤n∧o.d.length≤n
  epochs:w.epochs.length=3
  alive:w.alive.length≤n
  kept:w.kept.length≤n
  late:w.late.length≤n
  keptT:∀ q∈w.kept,q.data.length≤n
  lateT:∀ q∈w.late,q.data.length≤n
theorem StoreK.mono {n n':Nat} {s:StoreT} (h:StoreK n s) (hn:n≤n'):StoreK n' s :=
  ⟨by have:=h.now;omega,by have:=h.sure;omega,by have:=h.last;omega,by have:=h.slast;omega,by have:=h.floors;omega,fun x hx=>by have:=h.nowT x hx;omega,fun x hx=>by have:=h.sureT x hx;omega⟩
theorem WorldK.mono {n n' lo:Nat} {w:WorldT} (h:WorldK n lo w) (hn:n≤n'):WorldK n' lo w :=
  ⟨h.st.mono hn,⟨h.locks.1,by have:=h.locks.2;omega⟩,fun x hx=>by have:=h.holds x hx;omega,h.owns,fun x hx=>by have:=h.owned x hx;omega,h.epochs,by have:=h.alive;omega,by have:=h.kept;omega,by have:=h.late;omega,fun x hx=>by have:=h.keptT x hx;omega,fun x hx=>by have:=h.lateT x hx;omega⟩
theorem WorldK.c {n lo:Nat} {w:WorldT} (h:WorldK n lo w) (hn:n≤4000000):WorldC w :=
  ⟨⟨(h.st.c hn).toStoreB,by have:=h.locks.2;omega,fun x hx=>by have:=h.holds x hx;exact ⟨by omega,by omega⟩,by have:=h.owns;omega,fun x hx=>by have:=h.owned x hx;exact ⟨by omega,by omega⟩,by have:=h.epochs;omega,by have:=h.alive;omega,by have:=h.kept;omega,by have:=h.late;omega⟩,h.st.c hn,fun x hx=>by have:=h.owned x hx;omega,fun x hx=>by have:=h.keptT x hx;omega,fun x hx=>by have:=h.lateT x hx;omega⟩
theorem StoreP.k {s:StoreT} (h:StoreP s):StoreK 10000 s :=
  ⟨by have:=h.now;omega,by have:=h.sure;omega,by have:=h.last;omega,by have:=h.slast;omega,by have:=h.floors;omega,fun x hx=>by have:=txtOk_len (h.nowT x hx);omega,fun x hx=>by have:=txtOk_len (h.sureT x hx);omega⟩
theorem WorldP.k {w:WorldT} (h:WorldP w):WorldK 10000 3 w:=by
  have h1:=h.lk.len
  have h2:=h.keptN
  have h3:=h.lateN
  have h4:=h.alive
  refine ⟨h.st.k,by omega,fun x hx=>?_,h.owns,fun x hx=>?_,h.epochs,by omega,by omega,by omega,fun q hq=>?_,fun q hq=>?_⟩
  · obtain ⟨i,hi,rfl⟩:=List.getElem_of_mem hx
    have e:w.locks.getD i noH=w.locks[i]:=getD_lt _ hi
    have a:=spsOk_len (h.lk.r i (by omega))
    have b:=spsOk_len (h.lk.w i (by omega))
    rw [e] at a b
    omega
  · obtain ⟨i,hi,rfl⟩:=List.getElem_of_mem hx
    have ho:=h.own i (by have:=h.owns;omega)
    rw [show w.own i=w.owns[i] from getD_lt _ hi] at ho
    have b:=ownOk_bd ho
    have b1:=spsOk_len b.2.1
    have b2:=spsOk_len b.2.2.1
    omega
  · obtain ⟨i,hi,rfl⟩:=List.getElem_of_mem hq
    have hc:=storeAll_code w.kept (storeFall w.st) i (by rw [h.kept];simp [zeros];exact hi) hi (by simp [h.kept,zeros])
    have:=wrOk_len hc.wr
    omega
  · have:=wrOk_len (h.late q hq).1.wr
    omega
def WD (n lo:Nat) (ok:Bool) (bs:Bs) (p:Nat) (o:Out):Prop:=∃ (m:M) (w:WorldT) (p':Nat),OwRo m∧WorldK n lo w∧(ok=true→w.st.last.length=3)∧p'≤p+4000∧o={ rs:=[.v m true (worldL w)],outs:=[rdO bs p'] }
theorem wd_of {n lo:Nat} {ok:Bool} {bs:Bs} {p p':Nat} {m:M} {a b:Int} {now sure:List Bs} {last slast floors:List Int} {lk:List HoldT} {ow:List OwnT} {ep:List Int} {al:List Bool} {kp lt:List ReqT}
    (K:WorldK n lo ⟨a,b,⟨now,sure,last,slast,floors⟩,lk,ow,ep,al,kp,lt⟩) (hl:ok=true→last.length=3) (hm:OwRo m) (hp:p'≤p+4000) :
    Sat (WD n lo ok bs p) (some { rs:=[.v m true [.int .i64 a,.int .i64 b,.sl (strsL now),.sl (strsL sure),.sl (intsL last),.sl (intsL slast),.sl (intsL floors),.sl (lk.map holdL),.sl (ow.map ownL),.sl (intsL ep),.sl (boolsL al),.sl (kp.map reqL),.sl (lt.map reqL)]],outs:=[rdO bs p'] }) :=
  ⟨_,rfl,m,⟨a,b,⟨now,sure,last,slast,floors⟩,lk,ow,ep,al,kp,lt⟩,p',hm,K,hl,hp,rfl⟩
theorem ev_l7Bent (m:M) (hm:m.isOwn=false) (w:WorldT) (n lo:Nat) (hn1:1000≤n) (hn:n≤3000000) (hlo:2≤lo) (K:WorldK n lo w) (hl3:w.st.last.length=3) (bs:Bs) (p:Nat) (b:RdB bs p) (hp:p+8000≤1099511627776) :
    Sat (WD (n+400) (lo - 1) (storeOk w.st) bs p) (ev E 24 [rdA bs p,.v m true (worldL w)]):=by
  have c1:=fun m hm=>ev_l7Copy m hm w (K.c (by omega)).toWorldB
  obtain ⟨k,hk0,c2⟩:=ev_pick .ro bs p 100 b (by omega)
  have KC:=K.c (by omega)
  obtain ⟨sz,mn,st,lk,ow,ep,al,kp,lt⟩:=w
  dsimp only at *
  have sK:=K.st.mono (show n≤n+400 by omega)
  have hlk:lo - 1≤lk.length∧lk.length≤n+400:=by have:=K.locks;dsimp only at this;omega
  have hhd:∀ h∈lk,h.r.length≤n+400∧h.w.length≤n+400:=fun h hh=>by have:=K.holds h hh;omega
  have how:ow.length=3:=K.owns
  have hod:∀ o∈ow,o.t.length≤n+400∧o.h.length≤n+400∧o.d.length≤n+400:=fun o ho=>by have:=K.owned o ho;omega
  have hep:ep.length=3:=K.epochs
  have hal:al.length≤n+400:=by have:=K.alive;dsimp only at this;omega
  have hkp:kp.length≤n+400:=by have:=K.kept;dsimp only at this;omega
  have hlt:lt.length≤n+400:=by have:=K.late;dsimp only at this;omega
  have hkT:∀ q∈kp,q.data.length≤n+400:=fun q hq=>by have:=K.keptT q hq;omega
  have hlT:∀ q∈lt,q.data.length≤n+400:=fun q hq=>by have:=K.lateT q hq;omega
  have hoL:∀ ok:Bool,ok=true→st.last.length=3:=fun _ _=>hl3
  have e0:0<ep.length:=by omega
  have ene:ep≠[]:=fun h=>by rw [h] at e0;simp at e0
  rw [ev_fn Tryz.f24 rfl Tryz.func24 rfl rfl rfl (Nat.le_of_ble_eq_true rfl)]
  simp [c1,c2,hm]
  by_cases f0:(k:Int)=0
  · simp [f0]
    exact wd_of ⟨sK,hlk,hhd,how,hod,hep,hal,hkp,hlt,hkT,hlT⟩ (hoL _) (.inl rfl) (by omega)
  have g0:=eqI_ne f0
  by_cases f1:(k:Int)=1
  · have d0:=fun m hm=>ev_spec_StoreSync m hm st KC.stC
    obtain ⟨s2,hs2,hK2,hl2⟩:∃ s2,(if storeOk st=true then rS1 (storeSync st) else rS1 noS)=rS1 s2∧StoreK n s2∧(storeOk st=true→s2.last.length=3):=by
      cases storeOk st
      · exact ⟨noS,rfl,by refine ⟨?_,?_,?_,?_,?_,?_,?_⟩<;>simp [noS],fun h=>by cases h⟩
      · exact ⟨storeSync st,rfl,⟨K.st.now,K.st.now,K.st.last,K.st.last,K.st.floors,K.st.nowT,K.st.nowT⟩,fun _=>hl3⟩
    rw [hs2] at d0
    simp only [rS1] at d0
    obtain ⟨_,d1,m2,s3,p',hm2,hK3,hl4,hp',rfl⟩:=ev_l5Bent .tn rfl s2 n (by omega) (by omega) hK2 bs (p+1) ⟨b.b,by omega⟩ (by omega)
    have h3:storeOk st=true→s3.last.length=3:=fun h=>by rw [hl4];exact hl2 h
    obtain ⟨a1,a2,a3,a4,a5⟩:=s3
    rcases hm2 with rfl | rfl
    · simp [f1,d0,d1]
      exact wd_of ⟨hK3.mono (by omega),hlk,hhd,how,hod,hep,hal,hkp,hlt,hkT,hlT⟩ h3 (.inl rfl) (by omega)
    · simp [f1,d0,d1]
      exact wd_of ⟨hK3.mono (by omega),hlk,hhd,how,hod,hep,hal,hkp,hlt,hkT,hlT⟩ h3 (.inr (.inl rfl)) (by omega)
  have g1:=eqI_ne f1
  by_cases f2:(k:Int)=2
  · obtain ⟨_,d1,m2,t2,p',hm2,q0,q1,q2,hp',rfl⟩:=ev_l4Bent .tn rfl lk n hn (by have:=K.locks;dsimp only at this;omega) (by have:=K.locks;dsimp only at this;omega) (fun h hh=>K.holds h hh) bs (p+1) ⟨b.b,by omega⟩ (by omega)
    have hlk2:lo - 1≤t2.length∧t2.length≤n+400:=by have:=K.locks;dsimp only at this;omega
    have hhd2:∀ h∈t2,h.r.length≤n+400∧h.w.length≤n+400:=fun h hh=>by have:=q2 h hh;omega
    rcases hm2 with rfl | rfl | rfl
    · simp [f2,d1]
      exact wd_of ⟨sK,hlk2,hhd2,how,hod,hep,hal,hkp,hlt,hkT,hlT⟩ (hoL _) (.inl rfl) (by omega)
    · simp [f2,d1]
      exact wd_of ⟨sK,hlk2,hhd2,how,hod,hep,hal,hkp,hlt,hkT,hlT⟩ (hoL _) (.inr (.inl rfl)) (by omega)
    · simp [f2,d1]
      exact wd_of ⟨sK,hlk2,hhd2,how,hod,hep,hal,hkp,hlt,hkT,hlT⟩ (hoL _) (.inr (.inr rfl)) (by omega)
  have g2:=eqI_ne f2
  by_cases f3:(k:Int)=3
  · obtain ⟨j,hj,d1⟩:=ev_pick .ro bs (p+1) 3 ⟨b.b,by omega⟩ (by omega)
    have hj:=hj (by omega)
    have hjl:j<ow.length:=by omega
    obtain ⟨q,t,h,d,O,hq,d2⟩:=ev_l6Some bs (p+1+1) ⟨b.b,by omega⟩ (by omega)
    have he:(ow.map ownL).set j (owL t h d)=(ow.set j ⟨t,h,d⟩).map ownL:=by simp [List.map_set]
    simp [f3,d1,d2,hjl]
    simp only [owL] at he
    rw [he]
    exact wd_of ⟨sK,hlk,hhd,by simpa using how,fun o ho=>by
      rcases List.mem_or_eq_of_mem_set ho with z | rfl
      · exact hod o z
      · have o1:=O.t;have o2:=O.h;have o3:=O.d
        dsimp only;omega,hep,hal,hkp,hlt,hkT,hlT⟩ (hoL _) (.inl rfl) (by omega)
  have g3:=eqI_ne f3
  by_cases f4:(k:Int)=4
  · obtain ⟨y,hy,d1⟩:=ev_num .tn bs (p+1) [-1,101,IntKind.i64.wrap (ep[0]+1),100] ⟨b.b,by omega⟩ (by simp) (by simp)
    have he:(intsL ep).set 0 [.int .i64 y]=intsL (ep.set 0 y):=by simp [List.map_set]
    simp at d1
    simp [f4,d1,e0,ene]
    rw [he]
    exact wd_of ⟨sK,hlk,hhd,how,hod,by simpa using hep,hal,hkp,hlt,hkT,hlT⟩ (hoL _) (.inl rfl) (by omega)
  have g4:=eqI_ne f4
  by_cases f5:(k:Int)=5
  · cases e1:ltI 0 (al.length:Int)
    · simp [f5,e1]
      exact wd_of ⟨sK,hlk,hhd,how,hod,hep,hal,hkp,hlt,hkT,hlT⟩ (hoL _) (.inl rfl) (by omega)
    · obtain ⟨j,hj,d1⟩:=ev_pick .ro bs (p+1) (al.length:Int) ⟨b.b,by omega⟩ (by omega)
      have hj:=hj (by have:=ltI_iff.1 e1;omega)
      have hjl:j<al.length:=by omega
      obtain ⟨j2,hj2,d2⟩:=ev_pick .ro bs (p+1+1) 2 ⟨b.b,by omega⟩ (by omega)
      have he:∀ y,(boolsL al).set j [.bool y]=boolsL (al.set j y):=fun y=>by simp [List.map_set]
      simp [f5,e1,d1,d2,hjl]
      rw [he]
      exact wd_of ⟨sK,hlk,hhd,how,hod,hep,by simpa using hal,hkp,hlt,hkT,hlT⟩ (hoL _) (.inl rfl) (by omega)
  have g5:=eqI_ne f5
  by_cases f6:(k:Int)=6
  · obtain ⟨_,d1,q,p',hq,hp',rfl⟩:=ev_l5Ask .tn rfl st hl3 (by have:=K.st.floors;dsimp only at this;omega) bs (p+1) ⟨b.b,by omega⟩ (by omega)
    have h1:(kp.length+1)*56≤17592186044416:=by omega
    have h2:kp.length+1≤17592186044416:=by omega
    have he:kp.map reqL++[reqL q]=(kp++[q]).map reqL:=by simp
    simp [f6,d1,h1,h2]
    simp only [reqL] at he
    rw [he]
    exact wd_of ⟨sK,hlk,hhd,how,hod,hep,hal,by have:=K.kept;simp at this ⊢;omega,hlt,fun x hx=>by
      rcases List.mem_append.1 hx with z | z
      · exact hkT x z
      · rw [List.mem_singleton.1 z];omega,hlT⟩ (hoL _) (.inl rfl) (by omega)
  have g6:=eqI_ne f6
  by_cases f7:(k:Int)=7
  · obtain ⟨_,d1,q,p',hq,hp',rfl⟩:=ev_l5Ask .tn rfl st hl3 (by have:=K.st.floors;dsimp only at this;omega) bs (p+1) ⟨b.b,by omega⟩ (by omega)
    have h1:(lt.length+1)*56≤17592186044416:=by omega
    have h2:lt.length+1≤17592186044416:=by omega
    have he:lt.map reqL++[reqL q]=(lt++[q]).map reqL:=by simp
    simp [f7,d1,h1,h2]
    simp only [reqL] at he
    rw [he]
    exact wd_of ⟨sK,hlk,hhd,how,hod,hep,hal,hkp,by have:=K.late;simp at this ⊢;omega,hkT,fun x hx=>by
      rcases List.mem_append.1 hx with z | z
      · exact hlT x z
      · rw [List.mem_singleton.1 z];omega⟩ (hoL _) (.inl rfl) (by omega)
  have g7:=eqI_ne f7
  by_cases f8:(k:Int)=8
  · cases e1:ltI 0 (al.length:Int)
    · simp [f8,e1]
      exact wd_of ⟨sK,hlk,hhd,how,hod,hep,hal,hkp,hlt,hkT,hlT⟩ (hoL _) (.inl rfl) (by omega)
    · have h1:(1:Int)≤al.length:=by have:=ltI_iff.1 e1;omega
      have h2:1≤al.length:=by omega
      have e:(List.take al.length (boolsL al)).tail=boolsL (al.drop 1):=by
        rw [List.take_of_length_le (by simp)]
        simp
      simp [-List.map_drop,← List.map_drop,f8,e1,h1,h2]
      rw [e]
      exact wd_of ⟨sK,hlk,hhd,how,hod,hep,by simp;omega,hkp,hlt,hkT,hlT⟩ (hoL _) (.inr (.inl rfl)) (by omega)
  have g8:=eqI_ne f8
  by_cases f9:(k:Int)=9
  · obtain ⟨s2,m2,hl,d1⟩:=ev_l3Lay bs (p+1) ⟨b.b,by omega⟩ (by omega)
    simp [f9,d1]
    exact wd_of ⟨sK,hlk,hhd,how,hod,hep,hal,hkp,hlt,hkT,hlT⟩ (hoL _) (.inl rfl) (by omega)
  have g9:=eqI_ne f9
  simp [g0,g1,g2,g3,g4,g5,g6,g7,g8,g9]
  exact wd_of ⟨sK,hlk,hhd,how,hod,hep,hal,hkp,hlt,hkT,hlT⟩ (hoL _) (.inl rfl) (by omega)
set_option maxRecDepth 100000
set_option maxHeartbeats 8000000
theorem drawn_w (bs:Bs) (hb:bs.length≤2000):∃ (w0:WorldT) (p0:Nat) (m:M) (w:WorldT) (p:Nat),WorldP w0∧OwRo m∧WorldK 11000 2 w∧(w.st.last.length=3)∧p0≤20000∧p≤30000 ∧
    ev E 25 [rdA bs 0]=some { rs:=[.v .own true (worldL w0)],outs:=[rdO bs p0] } ∧
    ev E 24 [rdA bs p0,.v .tn true (worldL w0)]=some { rs:=[.v m true (worldL w)],outs:=[rdO bs p] }:=by
  obtain ⟨w0,p0,h0,hp0,c1⟩:=ev_l7Some bs 0 ⟨hb,by omega⟩ (by omega)
  obtain ⟨_,c2,m,w,p,hm,hK,hl,hp,rfl⟩:=ev_l7Bent .tn rfl w0 10000 3 (by omega) (by omega) (by omega) h0.k h0.st.last bs p0 ⟨hb,by omega⟩ (by omega)
  exact ⟨w0,p0,m,w,p,h0,hm,hK.mono (by omega),hl (storeOk_iff.2 h0.st),by omega,by omega,c1,c2⟩
theorem ev_DrawWorldDo (bs:Bs):∃ (m:M) (w:WorldT) (e:EvT),OwRo m∧WorldC w∧e.data.length≤300∧ev E 10 [.v .ro false [.sl (rowsOfBytes bs)]]=some { rs:=[.v m true (worldL w),.v .own true (evL e)],outs:=[] }:=by
  have c0:=ev_l10Open bs
  have hb:(bs.take 2000).length≤2000:=by simp;omega
  generalize bs.take 2000=b2 at c0 hb
  obtain ⟨w0,p0,m,w,p,h0,hm,hK,hl,hp0,hp,c1,c2⟩:=drawn_w b2 hb
  have C:=hK.c (by omega)
  rcases hm with rfl | rfl | rfl
  · obtain ⟨_,c3,e,p',he,hp',rfl⟩:=ev_l7Ev .tn rfl w C.toWorldB b2 p ⟨hb,by omega⟩ (by omega)
    refine ⟨.own,w,e,.inl rfl,C,he,?_⟩
    rw [ev_fn Tryz.f10 rfl Tryz.func10 rfl rfl rfl (Nat.le_of_ble_eq_true rfl)]
    simp [c0,c1,c2,c3]
  · obtain ⟨_,c3,e,p',he,hp',rfl⟩:=ev_l7Ev .ro rfl w C.toWorldB b2 p ⟨hb,by omega⟩ (by omega)
    refine ⟨.ro,w,e,.inr (.inl rfl),C,he,?_⟩
    rw [ev_fn Tryz.f10 rfl Tryz.func10 rfl rfl rfl (Nat.le_of_ble_eq_true rfl)]
    simp [c0,c1,c2,c3]
  · obtain ⟨_,c3,e,p',he,hp',rfl⟩:=ev_l7Ev .tn rfl w C.toWorldB b2 p ⟨hb,by omega⟩ (by omega)
    refine ⟨.tn,w,e,.inr (.inr rfl),C,he,?_⟩
    rw [ev_fn Tryz.f10 rfl Tryz.func10 rfl rfl rfl (Nat.le_of_ble_eq_true rfl)]
    simp [c0,c1,c2,c3]
end Go.Ev

