/- My texts joined: EvT17, EvT18, EvT19, EvT20, EvT21, EvT22, EvT25, EvT32, EvT33, EvT34, EvW1, EvW2. No condition. -/
import Derived.Test.YtikmfpdfippjhaaGreatDoorEn8
set_option linter.unusedVariables false
set_option linter.unusedSimpArgs false

set_option maxRecDepth 100000
set_option maxHeartbeats 4000000
namespace Go.Ev
open Go.Proofs
abbrev adp (i:Nat):AV:=.ad (.p i) 0 0 0 []
abbrev rdH (bs:List UInt8) (p:Nat):Root × HC:=bxm (.p 0) .ro (rdL bs p)
theorem lp_l6Fit (bs:List UInt8) (hb:bs.length≤2000) (lo hi:Int) (h1:0≤lo) (h2:lo≤hi) (h3:hi≤48) (a:Code) (ha:a=lp Tryz.f117 0):∀ (n p:Nat) (m0:M) (out:List UInt8),out.length+n=(hi - lo).toNat→p+n≤1099511627776 →
    ∃ m' x,x.length=(hi - lo).toNat∧loopC E (ev E) 117 a { V:=[(0,adp 0),(3,adc 3),(5,.v m0 false [.str out])],H:=[rdH bs p,bx (.c 3) [.int .i64 lo,.int .i64 hi]],ps:=[0] } =
      some (.exit 0,{ V:=[(0,adp 0),(3,adc 3),(5,.v m' false [.str x]),(13,vb false)],H:=[rdH bs (p+n),bx (.c 3) [.int .i64 lo,.int .i64 hi]],ps:=[0] })
  | 0,p,m0,out,h,hp=>by
    refine ⟨m0,out,by omega,?_⟩
    have hw:IntKind.i64.wrap (hi - lo)=hi - lo:=by rw [wrap64];omega
    have hle:hi - lo≤(out.length:Int):=by omega
    rw [loopC_of _ _ _ _ ha]
    simp [lp,loopsOf,Tryz.f117,hw,hle]
  | n+1,p,m0,out,h,hp=>by
    obtain ⟨v,hv,c⟩:=ev_ofS .tn bs p [[97],[98],[99],[55],[46]] ⟨hb,by omega⟩ (by simp) (by simp)
    have hvl:v.length=1:=by simp at hv;rcases hv with rfl | rfl | rfl | rfl | rfl<;>rfl
    obtain ⟨m',x,hx,ih⟩:=lp_l6Fit bs hb lo hi h1 h2 h3 a ha n (p+1) .ro (out++v) (by simp [hvl];omega) (by omega)
    refine ⟨m',x,hx,?_⟩
    have hw:IntKind.i64.wrap (hi - lo)=hi - lo:=by rw [wrap64];omega
    have hlt:(out.length:Int)<hi - lo:=by omega
    have hsz:out.length+v.length≤4611686018427387904:=by omega
    simp at c
    rw [loopC_of _ _ _ _ ha]
    clear ha
    simp [lp,loopsOf,Tryz.f117,hw,hlt,c,hsz]
    simp only [show p+1+n=p+(n+1) by omega] at ih
    simpa using ih
theorem ev_l6Fit (bs:List UInt8) (p:Nat) (m:M) (s:Sp) (b:RdB bs p) (h1:0≤s.1) (h2:s.1≤s.2) (h3:s.2≤48) (hp:p+48≤1099511627776) :
    ∃ x:List UInt8,x.length=(s.2 - s.1).toNat∧ev E 117 [rdA bs p,.v m true (spL s)]=some { rs:=[.v .own false [.str x]],outs:=[rdO bs (p+(s.2 - s.1).toNat)] }:=by
  obtain ⟨m',x,hx,hl⟩:=lp_l6Fit bs b.b s.1 s.2 h1 h2 h3 _ rfl (s.2 - s.1).toNat p .ro [] (by simp) (by omega)
  refine ⟨x,hx,?_⟩
  rw [ev_fn Tryz.f117 rfl Tryz.func117 rfl rfl rfl (Nat.le_of_ble_eq_true rfl)]
  simp
  rw [loopC_at ?_ hl]
  · simp
  · rfl
theorem lp_l2Text (mm:M) (bs:List UInt8) (hb:bs.length≤2000) (a:Code) (ha:a=lp Tryz.f121 0):∀ (n p:Nat) (m0 m1:M) (out:List UInt8),n≤100→out.length+n≤1000→p+n≤1099511627776 →
    ∃ m' m'' x,x.length=out.length+n∧loopC E (ev E) 121 a { V:=[(0,adp 0),(5,.v m0 false [.str out]),(6,.v m1 false [.int .i64 n])],H:=[rdH bs p],ps:=[0] } =
      some (.exit 0,{ V:=[(0,adp 0),(5,.v m' false [.str x]),(6,.v m'' false [.int .i64 0]),(12,vb false)],H:=[rdH bs (p+n)],ps:=[0] })
  | 0,p,m0,m1,out,hn,ho,hp=>by
    refine ⟨m0,m1,out,by omega,?_⟩
    rw [loopC_of _ _ _ _ ha]
    simp [lp,loopsOf,Tryz.f121]
  | n+1,p,m0,m1,out,hn,ho,hp=>by
    obtain ⟨v,hv,c⟩:=ev_ofS .tn bs p [[97],[98],[99],[55],[46],[122]] ⟨hb,by omega⟩ (by simp) (by simp)
    have hvl:v.length=1:=by simp at hv;rcases hv with rfl | rfl | rfl | rfl | rfl | rfl<;>rfl
    have hsz:out.length+v.length≤4611686018427387904:=by omega
    have hol:(out++v).length=out.length+1:=by simp [hvl]
    obtain ⟨m',m'',x,hx,ih⟩:=lp_l2Text mm bs hb a ha n (p+1) .ro .ro (out++v) (by omega) (by omega) (by omega)
    refine ⟨m',m'',x,by omega,?_⟩
    have hw:IntKind.i64.wrap (n:Int)=n:=by rw [wrap64];omega
    have hlt:(0:Int)<(n:Int)+1:=by omega
    simp at c
    rw [loopC_of _ _ _ _ ha]
    clear ha
    simp [lp,loopsOf,Tryz.f121,hw,hlt,c,hsz]
    simp only [show p+1+n=p+(n+1) by omega] at ih
    simpa using ih
theorem ev_l2Text (m:M) (bs:List UInt8) (p:Nat) (N:Nat) (hN:N≤90) (b:RdB bs p) (hp:p+100≤1099511627776) :
    ∃ (x:List UInt8) (q:Nat),x.length≤100∧q≤100∧ev E 121 [rdA bs p,.v m false [.int .i64 N]]=some { rs:=[.v .own false [.str x]],outs:=[rdO bs (p+q)] }:=by
  obtain ⟨k,hk,c1⟩:=ev_pick .ro bs p ((N:Int)+1) b (by omega)
  have hk:=hk (by omega)
  obtain ⟨m',m'',x,hx,hl⟩:=lp_l2Text .ro bs b.b _ rfl k (p+1) .ro .own [] (by omega) (by simp;omega) (by omega)
  have hw:=wrapN N (by omega)
  refine ⟨x,1+k,by simp at hx;omega,by omega,?_⟩
  rw [ev_fn Tryz.f121 rfl Tryz.func121 rfl rfl rfl (Nat.le_of_ble_eq_true rfl)]
  simp [hw,c1]
  rw [loopC_at ?_ hl]
  · simp
    omega
  · rfl
theorem ev_l2Data (bs:List UInt8) (p:Nat) (b:RdB bs p) (hp:p+200≤1099511627776) :
    ∃ (x:List UInt8) (q:Nat),x.length≤200∧q≤200∧ev E 75 [rdA bs p]=some { rs:=[.v .own false [.str x]],outs:=[rdO bs (p+q)] }:=by
  obtain ⟨k,hk,c1⟩:=ev_pick .ro bs p 24 b (by omega)
  have b1:RdB bs (p+1):=b.add (by omega)
  by_cases hk0:k=0
  · subst hk0
    have c2:=fun m m'=>ev_l2Long m m' [97] 49 (by omega) (by simp)
    obtain ⟨v,hv,c3⟩:=ev_ofS .tn bs (p+1) [[],[65],[97,32,98],97::List.replicate 48 46] b1 (by simp) (by simp)
    refine ⟨v,2,?_,by omega,?_⟩
    · simp only [List.mem_cons,List.not_mem_nil,or_false] at hv
      rcases hv with rfl | rfl | rfl | rfl<;>simp
    · simp at c2 c3
      rw [ev_fn Tryz.f75 rfl Tryz.func75 rfl rfl rfl (Nat.le_of_ble_eq_true rfl)]
      simp [c1,c2,c3]
  · have e:eqI k 0=false:=eqI_not.2 (by omega)
    obtain ⟨v,hv,c3⟩:=ev_ofS .tn bs (p+1) [[120],[120,121],[113,57,46],[48,49,50,51,52,53,54],[109]] b1 (by simp) (by simp)
    have hvl:v.length≤7:=by
      simp only [List.mem_cons,List.not_mem_nil,or_false] at hv
      rcases hv with rfl | rfl | rfl | rfl | rfl<;>simp
    obtain ⟨x,q,hx,hq,c4⟩:=ev_l2Text .ro bs (p+1+1) 6 (by omega) (b.add (q:=2) (by omega)) (by omega)
    refine ⟨v++x,2+q,by simp;omega,by omega,?_⟩
    have hsz:v.length+x.length≤4611686018427387904:=by omega
    push_cast at c4
    simp at c3
    rw [ev_fn Tryz.f75 rfl Tryz.func75 rfl rfl rfl (Nat.le_of_ble_eq_true rfl)]
    simp [c1,c3,c4,e,hsz]
    omega
end Go.Ev


set_option maxRecDepth 100000
set_option maxHeartbeats 4000000
namespace Go.Ev
open Go.Proofs
theorem ev_l1SomeB (bs:List UInt8) (p:Nat) (b:RdB bs p) (hp:p+3≤1099511627776) :
    ∃ s:Sp,((-9223372036854775808≤s.1∧s.1≤9223372036854775807)∧-9223372036854775808≤s.2∧s.2≤9223372036854775807)∧ev E 74 [rdA bs p]=some { rs:=[.v .own true (spL s)],outs:=[rdO bs (p+3)] }:=by
  obtain ⟨s,hs,c1⟩:=ev_l1Span bs p b (by omega)
  obtain ⟨k,hk,c2⟩:=ev_pick .ro bs (p+2) 48 ⟨b.b,by omega⟩ (by omega)
  by_cases k0:k=0
  · subst k0
    refine ⟨(s.1,s.1),by dsimp only;omega,?_⟩
    rw [ev_fn Tryz.f74 rfl Tryz.func74 rfl rfl rfl (Nat.le_of_ble_eq_true rfl)]
    simp [c1,c2]
  · have e0:eqI k 0=false:=eqI_not.2 (by omega)
    by_cases k1:k=1
    · subst k1
      refine ⟨(-1,s.2),by dsimp only;omega,?_⟩
      push_cast at c2
      rw [ev_fn Tryz.f74 rfl Tryz.func74 rfl rfl rfl (Nat.le_of_ble_eq_true rfl)]
      simp [c1,c2,eqI]
    · have e1:eqI k 1=false:=eqI_not.2 (by omega)
      by_cases k2:k=2
      · subst k2
        refine ⟨(s.1,49),by dsimp only;omega,?_⟩
        push_cast at c2
        rw [ev_fn Tryz.f74 rfl Tryz.func74 rfl rfl rfl (Nat.le_of_ble_eq_true rfl)]
        simp [c1,c2,eqI]
      · have e2:eqI k 2=false:=eqI_not.2 (by omega)
        by_cases k3:k=3
        · subst k3
          refine ⟨(9223372036854775807,-9223372036854775808),by dsimp only;omega,?_⟩
          push_cast at c2
          rw [ev_fn Tryz.f74 rfl Tryz.func74 rfl rfl rfl (Nat.le_of_ble_eq_true rfl)]
          simp [c1,c2,eqI]
        · have e3:eqI k 3=false:=eqI_not.2 (by omega)
          refine ⟨s,by omega,?_⟩
          rw [ev_fn Tryz.f74 rfl Tryz.func74 rfl rfl rfl (Nat.le_of_ble_eq_true rfl)]
          simp [c1,c2,e0,e1,e2,e3]
theorem ev_l1Some (bs:List UInt8) (p:Nat) (b:RdB bs p) (hp:p+3≤1099511627776) :
    ∃ s:Sp,ev E 74 [rdA bs p]=some { rs:=[.v .own true (spL s)],outs:=[rdO bs (p+3)] }:=by
  obtain ⟨s,_,h⟩:=ev_l1SomeB bs p b hp
  exact ⟨s,h⟩
theorem lp_l1List0 (bs:List UInt8) (hb:bs.length≤2000) (a:Code) (ha:a=lp Tryz.f163 0):∀ (n p:Nat) (m0:M) (out:List Sp),n≤100→out.length≤48→p+5*n≤1099511627776 →
    ∃ (m':M) (q:Nat) (x:List Sp),x.length≤48∧q≤5*n∧loopC E (ev E) 163 a { V:=[(0,adp 0),(3,at1 3),(4,.v m0 false [.int .i64 n])],H:=[rdH bs p,ow (.c 3) [.sl (out.map spL)]],ps:=[0] } =
      some (.exit 0,{ V:=[(0,adp 0),(3,at1 3),(4,.v m' false [.int .i64 0]),(12,vb false)],H:=[rdH bs (p+q),ow (.c 3) [.sl (x.map spL)]],ps:=[0] })
  | 0,p,m0,out,hn,ho,hp=>by
    refine ⟨m0,0,out,by omega,by omega,?_⟩
    rw [loopC_of _ _ _ _ ha]
    simp [lp,loopsOf,Tryz.f163]
  | n+1,p,m0,out,hn,ho,hp=>by
    have b:RdB bs p:=⟨hb,by omega⟩
    obtain ⟨s,hs,c1⟩:=ev_l1Span bs p b (by omega)
    have c2:∀ m m',ev E 170 [.v m false [.sl (out.map spL)],.v m' true (spL s)]=some { rs:=[.v .own false [.sl ((addS out s).map spL)]],outs:=[] }:=fun m m'=>ev_spec_l1Add m m' out s (by omega) (by omega) (by omega) (by omega)
    have hl2:=addS_len out s
    obtain ⟨k,hk,c3⟩:=ev_pick .ro bs (p+2) 3 ⟨b.b,by omega⟩ (by omega)
    have hw:IntKind.i64.wrap (n:Int)=n:=by rw [wrap64];omega
    have hlt:(0:Int)<(n:Int)+1:=by omega
    by_cases k0:k=0
    · subst k0
      obtain ⟨s',hs',c4⟩:=ev_l1Span bs (p+2+1) ⟨b.b,by omega⟩ (by omega)
      have c5:∀ m m',ev E 166 [.v m false [.sl ((addS out s).map spL)],.v m' true (spL s')]=some { rs:=[.v .own false [.sl ((cutS (addS out s) s').map spL)]],outs:=[] }:=fun m m'=>ev_spec_l1Cut m m' (addS out s) s' (by omega) (by omega) (by omega) (by omega)
      have hl3:=cutS_len (addS out s) s'
      have c6:=fun m=>ev_spec_SpansOk m (cutS (addS out s) s') (by omega)
      cases e:spsOk (cutS (addS out s) s')
      · obtain ⟨m',q,x,hx,hq,ih⟩:=lp_l1List0 bs hb a ha n (p+5) .ro out (by omega) (by omega) (by omega)
        refine ⟨m',q+5,x,hx,by omega,?_⟩
        rw [loopC_of _ _ _ _ ha]
        clear ha
        simp [lp,loopsOf,Tryz.f163,hw,hlt,c1,c2,c3,c4,c5,c6,e]
        simp only [show p+5+q=p+(q+5) by omega] at ih
        simpa using ih
      · obtain ⟨m',q,x,hx,hq,ih⟩:=lp_l1List0 bs hb a ha n (p+5) .ro (cutS (addS out s) s') (by omega) (by omega) (by omega)
        refine ⟨m',q+5,x,hx,by omega,?_⟩
        rw [loopC_of _ _ _ _ ha]
        clear ha
        simp [lp,loopsOf,Tryz.f163,hw,hlt,c1,c2,c3,c4,c5,c6,e]
        simp only [show p+5+q=p+(q+5) by omega] at ih
        simpa using ih
    · have e0:eqI k 0=false:=eqI_not.2 (by omega)
      have c6:=fun m=>ev_spec_SpansOk m (addS out s) (by omega)
      cases e:spsOk (addS out s)
      · obtain ⟨m',q,x,hx,hq,ih⟩:=lp_l1List0 bs hb a ha n (p+3) .ro out (by omega) (by omega) (by omega)
        refine ⟨m',q+3,x,hx,by omega,?_⟩
        rw [loopC_of _ _ _ _ ha]
        clear ha
        simp [lp,loopsOf,Tryz.f163,hw,hlt,c1,c2,c3,c6,e,e0]
        simp only [show p+3+q=p+(q+3) by omega] at ih
        simpa using ih
      · obtain ⟨m',q,x,hx,hq,ih⟩:=lp_l1List0 bs hb a ha n (p+3) .ro (addS out s) (by omega) (by omega) (by omega)
        refine ⟨m',q+3,x,hx,by omega,?_⟩
        rw [loopC_of _ _ _ _ ha]
        clear ha
        simp [lp,loopsOf,Tryz.f163,hw,hlt,c1,c2,c3,c6,e,e0]
        simp only [show p+3+q=p+(q+3) by omega] at ih
        simpa using ih
end Go.Ev


set_option maxRecDepth 100000
set_option maxHeartbeats 4000000
namespace Go.Ev
open Go.Proofs
theorem lp_l1List1 (bs:List UInt8) (hb:bs.length≤2000) (a:Code) (ha:a=lp Tryz.f163 1):∀ (n i p:Nat) (out:List Sp),i+n=12→out.length=i→p+n+1≤1099511627776 →
    ∃ (q:Nat) (x:List Sp) (k:Nat),x.length≤12∧q≤n+1∧loopC E (ev E) 163 a { V:=[(0,adp 0),(3,at1 3),(6,vi i)],H:=[rdH bs p,ow (.c 3) [.sl (out.map spL)]],ps:=[0] } =
      some (.exit 2,{ V:=[(0,adp 0),(3,at1 3),(6,vi k),(37,vb false)],H:=[rdH bs (p+q),ow (.c 3) [.sl (x.map spL)]],ps:=[0] })
  | n,i,p,out,hn,ho,hp=>by
    obtain ⟨k,hk,c1⟩:=ev_pick .ro bs p 2 ⟨hb,by omega⟩ (by omega)
    have hk:=hk (by omega)
    have hw:IntKind.i64.wrap (12 - (k:Int))=12 - (k:Int):=by rw [wrap64];omega
    by_cases hlt:(i:Int)<12 - (k:Int)
    · match n,hn,hp with
      | 0,hn,hp=>omega
      | n+1,hn,hp =>
        obtain ⟨q,x,k',hx,hq,ih⟩:=lp_l1List1 bs hb a ha n (i+1) (p+1) (out++[((3:Int)*i,(3:Int)*i+1)]) (by omega) (by simp;omega) (by omega)
        refine ⟨q+1,x,k',hx,by omega,?_⟩
        have w1:=wrapN i (by omega)
        have w2:IntKind.i64.wrap (3*(i:Int))=3*(i:Int):=by rw [wrap64];omega
        have w3:IntKind.i64.wrap (3*(i:Int)+1)=3*(i:Int)+1:=by rw [wrap64];omega
        have hsz:(i+1)*16≤17592186044416:=by omega
        have hsz2:i+1≤17592186044416:=by omega
        rw [loopC_of _ _ _ _ ha]
        clear ha
        simp [lp,loopsOf,Tryz.f163,c1,hw,hlt,w1,w2,w3,ho,hsz,hsz2]
        simp only [show p+1+q=p+(q+1) by omega] at ih
        simpa using ih
    · refine ⟨1,out,i,by omega,by omega,?_⟩
      have hle:12 - (k:Int)≤(i:Int):=by omega
      rw [loopC_of _ _ _ _ ha]
      simp [lp,loopsOf,Tryz.f163,c1,hw,hle]
theorem ev_l1List (bs:List UInt8) (p:Nat) (b:RdB bs p) (hp:p+100≤1099511627776) :
    ∃ (q:Nat) (x:List Sp),x.length≤48∧q≤100∧ev E 163 [rdA bs p]=some { rs:=[.v .own false [.sl (x.map spL)]],outs:=[rdO bs (p+q)] }:=by
  obtain ⟨v,hv,c1⟩:=ev_num .tn bs p [1,2,3,5,0,9] b (by simp) (by simp)
  obtain ⟨N,rfl⟩:∃ N:Nat,v=N:=⟨v.toNat,by simp at hv;omega⟩
  have hN:N≤9:=by simp at hv;omega
  obtain ⟨m',q,x,hx,hq,hl⟩:=lp_l1List0 bs b.b _ rfl N (p+1) .own [] (by omega) (by simp) (by omega)
  obtain ⟨k,hk,c2⟩:=ev_pick .ro bs (p+1+q) 10 ⟨b.b,by omega⟩ (by omega)
  simp at c1 hl
  by_cases k0:k=0
  · subst k0
    obtain ⟨q',x',k',hx',hq',hl'⟩:=lp_l1List1 bs b.b _ rfl 12 0 (p+1+q+1) [] (by omega) (by simp) (by omega)
    refine ⟨q+q'+2,x',by omega,by omega,?_⟩
    push_cast at hl'
    rw [List.map_nil] at hl'
    rw [ev_fn Tryz.f163 rfl Tryz.func163 rfl rfl rfl (Nat.le_of_ble_eq_true rfl)]
    simp [c1]
    rw [loopC_at ?_ hl]
    · simp [c2]
      rw [loopC_at ?_ hl']
      · simp
        omega
      · rfl
    · rfl
  · have e0:eqI k 0=false:=eqI_not.2 (by omega)
    refine ⟨q+2,x,by omega,by omega,?_⟩
    rw [ev_fn Tryz.f163 rfl Tryz.func163 rfl rfl rfl (Nat.le_of_ble_eq_true rfl)]
    simp [c1]
    rw [loopC_at ?_ hl]
    · simp [c2,e0]
      omega
    · rfl
end Go.Ev


set_option maxRecDepth 100000
set_option maxHeartbeats 4000000
namespace Go.Ev
open Go.Proofs
theorem lp_l1Lists (bs:List UInt8) (p N:Nat) (hN:1≤N) (hN2:N≤48) (m4:M) (a:Code) (ha:a=lp Tryz.f112 0):∀ (n:Nat) (V0:List (Nat × AV)) (out:List Sp),look V0 3=at1 3→look V0 4=.v m4 false [.int .i64 N]→13≤out.length+n→N≤out.length→out.length≤60 →
    ∃ (x:List Sp),x.length≤60∧loopC E (ev E) 112 a { V:=V0,H:=[rdH bs p,ow (.c 3) [.sl (out.map spL)]],ps:=[0] } =
      some (.exit 1,{ V:=[(3,at1 3),(4,.v m4 false [.int .i64 N]),(25,vb false)],H:=[rdH bs p,ow (.c 3) [.sl (x.map spL)]],ps:=[0] })
  | n,V0,out,v3,v4,h,hl,h60=>by
    by_cases hlt:(out.length:Int)≤12
    · match n,h with
      | 0,h=>omega
      | n+1,h =>
        obtain ⟨j,hj⟩:∃ j,N=j+1:=⟨N - 1,by omega⟩
        have hjl:j<out.length:=by omega
        obtain ⟨x,hx,ih⟩:=lp_l1Lists bs p N hN hN2 m4 a ha n [(3,at1 3),(4,.v m4 false [.int .i64 N])] (out++[out[j]]) rfl rfl (by simp;omega) (by simp;omega) (by simp;omega)
        refine ⟨x,hx,?_⟩
        have w1:IntKind.i64.wrap ((N:Int) - 1)=(j:Int):=by rw [wrap64]<;>omega
        have hsz:(out.length+1)*16≤17592186044416:=by omega
        have hsz2:out.length+1≤17592186044416:=by omega
        rw [loopC_of _ _ _ _ ha]
        clear ha hj
        simp [lp,loopsOf,Tryz.f112,v3,v4,hlt,w1,hjl,hsz,hsz2]
        simpa using ih
    · have hle:(12:Int)<out.length:=by omega
      refine ⟨out,h60,?_⟩
      rw [loopC_of _ _ _ _ ha]
      simp [lp,loopsOf,Tryz.f112,v3,v4,hle]
theorem ev_l1Lists (bs:List UInt8) (p:Nat) (b:RdB bs p) (hp:p+120≤1099511627776) :
    ∃ (q:Nat) (x:List Sp),x.length≤60∧q≤120∧ev E 112 [rdA bs p]=some { rs:=[.v .own false [.sl (x.map spL)]],outs:=[rdO bs (p+q)] }:=by
  obtain ⟨q,x,hx,hq,c1⟩:=ev_l1List bs p b (by omega)
  by_cases h0:x.length=0
  · obtain rfl:x=[]:=List.length_eq_zero_iff.1 h0
    refine ⟨q,[],by simp,by omega,?_⟩
    rw [ev_fn Tryz.f112 rfl Tryz.func112 rfl rfl rfl (Nat.le_of_ble_eq_true rfl)]
    simp at c1
    simp [c1]
  · have e0:eqI x.length 0=false:=eqI_not.2 (by omega)
    obtain ⟨k8,hk8,c2⟩:=ev_pick .ro bs (p+q) 8 ⟨b.b,by omega⟩ (by omega)
    cases e8:ltI 0 k8
    · obtain ⟨k,hk,c3⟩:=ev_pick .ro bs (p+q+1) x.length ⟨b.b,by omega⟩ (by omega)
      have hk:=hk (by omega)
      have hkl:k<x.length:=by omega
      obtain ⟨j,hj,c4⟩:=ev_pick .ro bs (p+q+1+1) 4 ⟨b.b,by omega⟩ (by omega)
      have hsz:(x.length+1)*16≤17592186044416:=by omega
      have hsz2:x.length+1≤17592186044416:=by omega
      by_cases j0:j=0
      · subst j0
        obtain ⟨s,c5⟩:=ev_l1Some bs (p+q+1+1+1) ⟨b.b,by omega⟩ (by omega)
        refine ⟨q+6,x.set k s,by simp;omega,by omega,?_⟩
        rw [ev_fn Tryz.f112 rfl Tryz.func112 rfl rfl rfl (Nat.le_of_ble_eq_true rfl)]
        simp [c1,c2,c3,c4,c5,e0,e8,hkl]
        omega
      · have f0:eqI j 0=false:=eqI_not.2 (by omega)
        by_cases j1:j=1
        · subst j1
          refine ⟨q+3,x++[x[k]],by simp;omega,by omega,?_⟩
          push_cast at c4
          rw [ev_fn Tryz.f112 rfl Tryz.func112 rfl rfl rfl (Nat.le_of_ble_eq_true rfl)]
          simp [c1,c2,c3,c4,e0,e8,hkl,hsz,hsz2,show eqI 1 0=false from rfl]
          omega
        · have f1:eqI j 1=false:=eqI_not.2 (by omega)
          by_cases j2:j=2
          · subst j2
            refine ⟨q+3,x.set k (x[k].1,IntKind.i64.wrap (x[k].2+1)),by simp;omega,by omega,?_⟩
            push_cast at c4
            rw [ev_fn Tryz.f112 rfl Tryz.func112 rfl rfl rfl (Nat.le_of_ble_eq_true rfl)]
            simp [c1,c2,c3,c4,e0,e8,hkl,show eqI 2 0=false from rfl,show eqI 2 1=false from rfl]
            omega
          · have f2:eqI j 2=false:=eqI_not.2 (by omega)
            obtain ⟨y,hy,hl⟩:=lp_l1Lists bs (p+q+1+1+1) x.length (by omega) (by omega) .ro _ rfl 13 [(3,at1 3),(4,vi x.length),(5,.v .own false [.int .i64 k]),(50,vb false)] x rfl rfl (by omega) (by omega) (by omega)
            refine ⟨q+3,y,by omega,by omega,?_⟩
            rw [ev_fn Tryz.f112 rfl Tryz.func112 rfl rfl rfl (Nat.le_of_ble_eq_true rfl)]
            simp [c1,c2,c3,c4,e0,e8,f0,f1,f2]
            rw [loopC_at ?_ hl]
            · simp
              omega
            · rfl
    · refine ⟨q+1,x,by omega,by omega,?_⟩
      rw [ev_fn Tryz.f112 rfl Tryz.func112 rfl rfl rfl (Nat.le_of_ble_eq_true rfl)]
      simp [c1,c2,e0,e8]
      omega
end Go.Ev


set_option maxRecDepth 100000
set_option maxHeartbeats 4000000
namespace Go.Ev
open Go.Proofs
structure OB (t:List UInt8) (h d:List Sp):Prop where
  t:t.length≤1000
  h:h.length≤1000
  d:d.length≤1000
theorem OB.w {t:List UInt8} {h d:List Sp} (o:OB t h d):OwB t h d:=⟨by have:=o.t;omega,by have:=o.h;omega,by have:=o.d;omega⟩
theorem OB.ok {t:List UInt8} {h d:List Sp} (e:ownOk t h d=true):OB t h d:=by
  obtain ⟨h1,h2,h3,_⟩:=ownOk_t e
  have:=spsOk_len h2
  have:=spsOk_len h3
  exact ⟨by omega,by omega,by omega⟩
theorem OB.nil:OB [] [] []:=⟨by simp,by simp,by simp⟩
theorem cleanS_ex {t:List UInt8} {h d:List Sp} (p:Sp) (o:OB t h d):∃ t' h' d' b',cleanS t h d p=rOB t' h' d' b'∧OB t' h' d':=by
  unfold cleanS
  split
  · split
    · split
      · rename_i e;exact ⟨_,_,_,_,rfl,.ok e⟩
      · exact ⟨_,_,_,_,rfl,o⟩
    · exact ⟨_,_,_,_,rfl,o⟩
  · exact ⟨_,_,_,_,rfl,.nil⟩
theorem dropS_ex {t:List UInt8} {h d:List Sp} (p:Sp) (o:OB t h d):∃ t' h' d' b',dropS t h d p=rOB t' h' d' b'∧OB t' h' d':=by
  unfold dropS
  split
  · split
    · split
      · exact ⟨_,_,_,_,rfl,o⟩
      · split
        · rename_i e;exact ⟨_,_,_,_,rfl,.ok e⟩
        · exact ⟨_,_,_,_,rfl,o⟩
    · exact ⟨_,_,_,_,rfl,o⟩
  · exact ⟨_,_,_,_,rfl,.nil⟩
theorem fillS_ex {t:List UInt8} {h d:List Sp} (p:Sp) (x:List UInt8) (o:OB t h d):∃ t' h' d' b',fillS t h d p x=rOB t' h' d' b'∧OB t' h' d':=by
  unfold fillS
  split
  · split
    · split
      · rename_i e;exact ⟨_,_,_,_,rfl,.ok e⟩
      · exact ⟨_,_,_,_,rfl,o⟩
    · exact ⟨_,_,_,_,rfl,o⟩
  · exact ⟨_,_,_,_,rfl,.nil⟩
theorem writeS_ex {t:List UInt8} {h d:List Sp} (k:Int) (x:List UInt8) (o:OB t h d):∃ t' h' d' b',writeS t h d k x=rOB t' h' d' b'∧OB t' h' d':=by
  unfold writeS
  split
  · split
    · split
      · rename_i e;exact ⟨_,_,_,_,rfl,.ok e⟩
      · exact ⟨_,_,_,_,rfl,o⟩
    · exact ⟨_,_,_,_,rfl,o⟩
  · exact ⟨_,_,_,_,rfl,.nil⟩
abbrev zOw:List L:=[.str [],.sl [],.sl []]
theorem lp_l6Some (bs:List UInt8) (hb:bs.length≤2000) (a:Code) (ha:a=lp Tryz.f62 0):∀ (n p:Nat) (m0:M) (t:List UInt8) (h d:List Sp),OB t h d→n≤100→p+300*n≤1099511627776 →
    ∃ (q:Nat) (m':M) (t':List UInt8) (h' d':List Sp),OB t' h' d'∧q≤300*n∧loopC E (ev E) 62 a { V:=[(0,adp 0),(2,adc 2),(3,adc 3),(4,.v m0 false [.int .i64 n])],H:=[rdH bs p,bx (.c 2) zOw,bx (.c 3) (owL t h d)],ps:=[0] } =
      some (.exit 0,{ V:=[(0,adp 0),(2,adc 2),(3,adc 3),(4,.v m' false [.int .i64 0]),(11,vb false)],H:=[rdH bs (p+q),bx (.c 2) zOw,bx (.c 3) (owL t' h' d')],ps:=[0] })
  | 0,p,m0,t,h,d,o,hn,hp=>by
    refine ⟨0,m0,t,h,d,o,by omega,?_⟩
    rw [loopC_of _ _ _ _ ha]
    simp [lp,loopsOf,Tryz.f62]
  | n+1,p,m0,t,h,d,o,hn,hp=>by
    obtain ⟨s,hs,c1⟩:=ev_l1Span bs p ⟨hb,by omega⟩ (by omega)
    obtain ⟨k,hk,c2⟩:=ev_pick .ro bs (p+2) 6 ⟨hb,by omega⟩ (by omega)
    have hw:IntKind.i64.wrap (n:Int)=n:=by rw [wrap64];omega
    have hlt:(0:Int)<(n:Int)+1:=by omega
    by_cases k0:k=0
    · subst k0
      obtain ⟨t1,h1,d1,b1,e1,o1⟩:=cleanS_ex s o
      have c3:=fun m m' hm=>ev_spec_OwnClean m m' hm t h d s o.w
      rw [e1] at c3
      obtain ⟨q,m',t',h',d',o',hq,ih⟩:=lp_l6Some bs hb a ha n (p+3) .ro t1 h1 d1 o1 (by omega) (by omega)
      refine ⟨q+3,m',t',h',d',o',by omega,?_⟩
      rw [loopC_of _ _ _ _ ha]
      clear ha
      simp [lp,loopsOf,Tryz.f62,hw,hlt,c1,c2,c3]
      simp only [show p+3+q=p+(q+3) by omega] at ih
      simpa using ih
    · have e0:eqI k 0=false:=eqI_not.2 (by omega)
      by_cases k1:k=1
      · subst k1
        push_cast at c2
        obtain ⟨t1,h1,d1,b1,e1,o1⟩:=dropS_ex s o
        have c3:=fun m m' hm=>ev_spec_OwnDrop m m' hm t h d s o.w
        rw [e1] at c3
        obtain ⟨q,m',t',h',d',o',hq,ih⟩:=lp_l6Some bs hb a ha n (p+3) .ro t1 h1 d1 o1 (by omega) (by omega)
        refine ⟨q+3,m',t',h',d',o',by omega,?_⟩
        rw [loopC_of _ _ _ _ ha]
        clear ha
        simp [lp,loopsOf,Tryz.f62,hw,hlt,c1,c2,c3,show eqI 1 0=false from rfl]
        simp only [show p+3+q=p+(q+3) by omega] at ih
        simpa using ih
      · have e1:eqI k 1=false:=eqI_not.2 (by omega)
        by_cases k23:k=2∨k=3
        · obtain ⟨x,hx,c4⟩:=ev_l6Fit bs (p+2+1) .ro s ⟨hb,by omega⟩ (by omega) (by omega) (by omega) (by omega)
          have hN:(s.2 - s.1).toNat≤48:=by omega
          generalize (s.2 - s.1).toNat=N at *
          obtain ⟨t1,h1,d1,b1,e1',o1⟩:=fillS_ex s x o
          have c3:=fun m m' m'' hm=>ev_spec_OwnFill m m' m'' hm t h d s x o.w (by omega)
          rw [e1'] at c3
          obtain ⟨q,m',t',h',d',o',hq,ih⟩:=lp_l6Some bs hb a ha n (p+3+N) .ro t1 h1 d1 o1 (by omega) (by omega)
          refine ⟨q+3+N,m',t',h',d',o',by omega,?_⟩
          simp only [show p+3+N+q=p+(q+3+N) by omega] at ih
          rw [loopC_of _ _ _ _ ha]
          clear ha
          rcases k23 with rfl | rfl
          · push_cast at c2
            simp [lp,loopsOf,Tryz.f62,hw,hlt,c1,c2,c3,c4,show eqI 2 0=false from rfl,show eqI 2 1=false from rfl]
            simpa using ih
          · push_cast at c2
            simp [lp,loopsOf,Tryz.f62,hw,hlt,c1,c2,c3,c4,show eqI 3 0=false from rfl,show eqI 3 1=false from rfl,show eqI 3 2=false from rfl]
            simpa using ih
        · have e2:eqI k 2=false:=eqI_not.2 (by omega)
          have e3:eqI k 3=false:=eqI_not.2 (by omega)
          obtain ⟨kk,hkk,c4⟩:=ev_pick .ro bs (p+2+1) 40 ⟨hb,by omega⟩ (by omega)
          obtain ⟨x,q0,hx,hq0,c5⟩:=ev_l2Data bs (p+2+1+1) ⟨hb,by omega⟩ (by omega)
          obtain ⟨t1,h1,d1,b1,e1',o1⟩:=writeS_ex kk x o
          have c3:=fun m m' m'' hm=>ev_spec_OwnWrite m m' m'' hm t h d kk x o.w (by omega)
          rw [e1'] at c3
          obtain ⟨q,m',t',h',d',o',hq,ih⟩:=lp_l6Some bs hb a ha n (p+4+q0) .ro t1 h1 d1 o1 (by omega) (by omega)
          refine ⟨q+4+q0,m',t',h',d',o',by omega,?_⟩
          simp only [show p+4+q0+q=p+(q+4+q0) by omega] at ih
          rw [loopC_of _ _ _ _ ha]
          clear ha
          simp [lp,loopsOf,Tryz.f62,hw,hlt,c1,c2,c3,c4,c5,e0,e1,e2,e3]
          simpa using ih
end Go.Ev


set_option maxRecDepth 100000
set_option maxHeartbeats 4000000
namespace Go.Ev
open Go.Proofs
theorem ev_l6Some (bs:List UInt8) (p:Nat) (b:RdB bs p) (hp:p+2500≤1099511627776) :
    ∃ (q:Nat) (t:List UInt8) (h d:List Sp),OB t h d∧q≤2500∧ev E 62 [rdA bs p]=some { rs:=[rOw t h d],outs:=[rdO bs (p+q)] }:=by
  obtain ⟨v,hv,c1⟩:=ev_num .tn bs p [3,5,8,0,1] b (by simp) (by simp)
  obtain ⟨N,rfl⟩:∃ N:Nat,v=N:=⟨v.toNat,by simp at hv;omega⟩
  have hN:N≤8:=by simp at hv;omega
  have hnone:=ev_l6None
  have hbl:(List.replicate 48 (46:UInt8)).length=48:=rfl
  generalize List.replicate 48 (46:UInt8)=t0 at hnone hbl
  obtain ⟨q,m',t,h,d,o,hq,hl⟩:=lp_l6Some bs b.b _ rfl N (p+1) .own t0 [] [] ⟨by omega,by simp,by simp⟩ (by omega) (by omega)
  refine ⟨1+q,t,h,d,o,by omega,?_⟩
  simp at c1
  simp only [owL,List.map_nil] at hl
  rw [ev_fn Tryz.f62 rfl Tryz.func62 rfl rfl rfl (Nat.le_of_ble_eq_true rfl)]
  simp [hnone,c1]
  rw [loopC_at ?_ hl]
  · simp
    omega
  · rfl
theorem ev_l10Open (bs:List UInt8):ev E 23 [.v .ro false [.sl (rowsOfBytes bs)]]=some { rs:=[.ptr .ro (rdL (bs.take 2000) 0)],outs:=[] }:=by
  have ht:rowsOfBytes (bs.take 2000)=(rowsOfBytes bs).take 2000:=by simp [rowsOfBytes]
  cases e:ltI 2000 bs.length
  · have h1:bs.take 2000=bs:=List.take_of_length_le (by have:=ltI_not.1 e;omega)
    rw [h1]
    rw [ev_fn Tryz.f23 rfl Tryz.func23 rfl rfl rfl (Nat.le_of_ble_eq_true rfl)]
    simp [e]
  · have h1:=ltI_iff.1 e
    have h2:2000≤bs.length:=by omega
    have hr:∀ x∈rowsOfBytes bs,x.length=1:=fun x hx=>by
      simp only [rowsOfBytes,List.mem_map] at hx
      obtain ⟨b,_,rfl⟩:=hx
      rfl
    have h3:(2000:Int)≤bs.length:=by omega
    rw [rdL,ht]
    rw [ev_fn Tryz.f23 rfl Tryz.func23 rfl rfl rfl (Nat.le_of_ble_eq_true rfl)]
    simp [e,h2,h3,hr]
    simp only [if_pos hr]
    simp
end Go.Ev


set_option maxRecDepth 100000
set_option maxHeartbeats 4000000
namespace Go.Ev
open Go.Proofs
structure OC (t:List UInt8) (h d:List Sp):Prop where
  t:t.length≤2000
  h:h.length≤2000
  d:d.length≤2000
theorem OC.w {t:List UInt8} {h d:List Sp} (o:OC t h d):OwB t h d:=⟨by have:=o.t;omega,by have:=o.h;omega,by have:=o.d;omega⟩
theorem cutS_get (d:List Sp) (p:Sp) (j:Nat) (hj:j<48):inF (cutS d p) j=(!inSp j p&&inF d j):=by
  have:=(of_can fun j=>if inSp j p=true then false else d.any (inSp j)).2 j hj
  rw [cutS,this]
  cases inSp j p<;>simp [inF]
theorem OC.ok {t:List UInt8} {h d:List Sp} (e:ownOk t h d=true):OC t h d:=by
  obtain ⟨h1,h2,h3,_⟩:=ownOk_t e
  have:=spsOk_len h2
  have:=spsOk_len h3
  exact ⟨by omega,by omega,by omega⟩
end Go.Ev


set_option maxRecDepth 100000
set_option maxHeartbeats 4000000
namespace Go.Ev
open Go.Proofs
theorem repeatL_dot:∀ n,Lib.repeatL [46] n=List.replicate n 46
  | 0=>rfl
  | n+1=>by rw [Lib.repeatL,repeatL_dot n];rfl
theorem ev_Repeat (m m':M) (k:Nat) (hk:k≤8200000):ev E 107 [.v m false [.str [46]],.v m' false [.int .i64 (k:Int)]]=some { rs:=[.v .own false [.str (List.replicate k 46)]],outs:=[] }:=by
  rw [ev_eq]
  have q0:(0:Int)≤(k:Int):=by omega
  have q4:(k:Int)≤9223372036854775807:=by omega
  have q2:k≤140737488355328:=by omega
  simp [repK,q0,q4,q2,repeatL_dot,leafOut]
def txtOk (s:List UInt8):Bool:=s.all okB&&!ltI 48 s.length
theorem txtOk_len {s:List UInt8} (h:txtOk s=true):s.length≤48:=by
  simp only [txtOk,Bool.and_eq_true,Bool.not_eq_true',ltI_not] at h
  omega
def sizedS (s:List UInt8) (n:Nat):List UInt8:=if ltI s.length n=true then s++List.replicate (n - s.length) 46 else s.take n
theorem ev_sized (m m':M) (s:List UInt8) (n:Nat) (hn:n≤8200000) (hs:s.length≤4000000):ev E 35 [.v m false [.str s],.v m' false [.int .i64 n]]=some { rs:=[.v .own false [.str (sizedS s n)]],outs:=[] }:=by
  rw [ev_fn Tryz.f35 rfl Tryz.func35 rfl rfl rfl (Nat.le_of_ble_eq_true rfl)]
  cases e:ltI s.length n
  · have h1:=ltI_not.1 e
    have h2:n≤s.length:=by omega
    simp [e,sizedS,h2]
  · have h1:=ltI_iff.1 e
    have hw:IntKind.i64.wrap ((n:Int) - s.length)=((n - s.length:Nat):Int):=by rw [wrap64]<;>omega
    have q1:n - s.length≤9223372036854775807:=by omega
    have q3:s.length+(n - s.length)≤4611686018427387904:=by omega
    have c:=fun m m'=>ev_Repeat m m' (n - s.length) (by omega)
    generalize hk:n - s.length=k at *
    simp [e,sizedS,hw,c,q3,hk]
def wrS (s:List UInt8) (k:Nat) (x:List UInt8):List UInt8:=(s++List.replicate (k - s.length) 46).take k++x++s.drop (k+x.length)
theorem wrS_sized (s x:List UInt8) (k:Nat):(sizedS s (max s.length (k+x.length))).take k++x++s.drop (min (k+x.length) s.length)=wrS s k x:=by
  unfold wrS sizedS
  congr 1
  · congr 1
    split
    · rename_i h
      rw [ltI_iff] at h
      apply List.ext_getElem?
      intro j
      simp only [List.getElem?_take,List.getElem?_append,List.getElem?_replicate]
      grind
    · rename_i h
      rw [Bool.not_eq_true,ltI_not] at h
      apply List.ext_getElem?
      intro j
      simp only [List.getElem?_take,List.getElem?_append,List.getElem?_replicate]
      grind
  · apply List.ext_getElem?
    intro j
    simp only [List.getElem?_drop]
    by_cases h:k+x.length≤s.length
    · rw [Nat.min_eq_left h]
    · rw [Nat.min_eq_right (by omega),List.getElem?_eq_none (by omega),List.getElem?_eq_none (by omega)]
theorem wrS_len (s x:List UInt8) (k:Nat):(wrS s k x).length=max s.length (k+x.length):=by
  simp [wrS]
  omega
def twS (s:List UInt8) (k:Int) (x:List UInt8):List UInt8 × Bool:=if txtOk s=true then (if wrOk k x=true then (wrS s k.toNat x,true) else (s,false)) else ([],false)
theorem ev_impl_TextWrite (m m' m'':M) (s x:List UInt8) (k:Int) (hs:s.length≤4000000) (hx:x.length≤4000000):ev E 15 [.v m false [.str s],.v m' false [.int .i64 k],.v m'' false [.str x]]=some { rs:=[.v .own false [.str (twS s k x).1],.v .own false [.bool (twS s k x).2]],outs:=[] }:=by
  have c1:∀ m,ev E 34 [.v m false [.str s]]=some (rB (txtOk s)):=fun m=>ev_impl_TextOk m s (by omega)
  have c2:∀ m,ev E 34 [.v m false [.str x]]=some (rB (txtOk x)):=fun m=>ev_impl_TextOk m x (by omega)
  have hwr:wrOk k x=(!ltI k 0&&!ltI 48 k&&txtOk x&&!eqS x []&&!ltI 48 (k+x.length)):=rfl
  by_cases hk:0≤k∧k≤48
  · obtain ⟨n,rfl⟩:∃ n:Nat,k=n:=⟨k.toNat,by omega⟩
    have f1:ltI n 0=false:=ltI_not.2 (by omega)
    have f2:ltI 48 n=false:=ltI_not.2 (by omega)
    have hw:IntKind.i64.wrap ((n:Int)+x.length)=((n+x.length:Nat):Int):=by rw [wrap64]<;>omega
    have hm:maxI s.length ((n:Int)+x.length)=((max s.length (n+x.length):Nat):Int):=by simp only [maxI,ltI,decide_eq_true_eq];split<;>omega
    have hmi:minI ((n:Int)+x.length) s.length=((min (n+x.length) s.length:Nat):Int):=by simp only [minI,ltI,decide_eq_true_eq];split<;>omega
    have c3:=fun m m'=>ev_sized m m' s (max s.length (n+x.length)) (by omega) hs
    have hl:(sizedS s (max s.length (n+x.length))).length=max s.length (n+x.length):=by
      unfold sizedS
      split
      · rename_i h;rw [ltI_iff] at h;simp;omega
      · rename_i h;rw [Bool.not_eq_true,ltI_not] at h;simp;omega
    have hws:=wrS_sized s x n
    generalize sizedS s (max s.length (n+x.length))=z at c3 hl hws
    rw [ev_fn Tryz.f15 rfl Tryz.func15 rfl rfl rfl (Nat.le_of_ble_eq_true rfl)]
    cases e1:txtOk s
    · simp [c1,e1,twS]
    · cases e5:eqS x []
      · cases e4:txtOk x
        · simp [c1,c2,f1,f2,e1,e4,e5,twS,hwr]
        · have hx48:=txtOk_len e4
          have hs48:=txtOk_len e1
          have g1:(n:Int)≤(max s.length (n+x.length):Nat):=by omega
          have g2:n≤max s.length (n+x.length):=by omega
          have g3:min (n+x.length) s.length≤s.length:=by omega
          have g4:n+x.length≤4611686018427387904:=by omega
          have g5:n+(x.length+(s.length - min (n+x.length) s.length))≤4611686018427387904:=by omega
          have g6:n+x.length+(s.length - min (n+x.length) s.length)≤4611686018427387904:=by omega
          generalize hmx:max s.length (n+x.length)=mx at *
          generalize hmn:min (n+x.length) s.length=mn at *
          cases e6:ltI 48 (n+x.length)
          · simp [c1,c2,f1,f2,e1,e4,e5,e6,hw,maxJ,minJ,hm,hmi,c3,hl,twS,hwr,g1,g2,g3,g4,g5,g6,← hws]
          · simp [c1,c2,f1,f2,e1,e4,e5,e6,hw,twS,hwr]
      · simp [c1,f1,f2,e1,e5,twS,hwr]
  · have hb:wrOk k x=false:=by
      rw [hwr]
      by_cases h0:0≤k
      · rw [(ltI_iff.2 (by omega):ltI 48 k=true)];simp
      · rw [(ltI_iff.2 (by omega):ltI k 0=true)];simp
    rw [ev_fn Tryz.f15 rfl Tryz.func15 rfl rfl rfl (Nat.le_of_ble_eq_true rfl)]
    cases e1:txtOk s
    · simp [c1,e1,twS]
    · cases e2:ltI k 0
      · have e3:ltI 48 k=true:=ltI_iff.2 (by have:=ltI_not.1 e2;omega)
        simp [c1,e1,e2,e3,twS,hb]
      · simp [c1,e1,e2,twS,hb]
end Go.Ev


set_option maxRecDepth 100000
set_option maxHeartbeats 4000000
namespace Go.Ev
open Go.Proofs
theorem wrOk_len {k:Int} {x:List UInt8} (h:wrOk k x=true):0≤k∧k+x.length≤48∧0<x.length∧x.all okB=true:=by
  simp only [wrOk,Bool.and_eq_true,Bool.not_eq_true',ltI_not,eqS_not] at h
  have:=List.length_pos_iff.2 h.1.2
  exact ⟨by omega,by omega,this,h.1.1.2.1⟩
theorem txtOk_wr {s:List UInt8} {k:Int} {x:List UInt8} (h1:txtOk s=true) (h2:wrOk k x=true):txtOk (wrS s k.toNat x)=true:=by
  obtain ⟨a1,a2,a3,a4⟩:=wrOk_len h2
  have hs:=txtOk_len h1
  simp only [txtOk,Bool.and_eq_true,Bool.not_eq_true',ltI_not] at h1 ⊢
  refine ⟨?_,by rw [wrS_len];omega⟩
  have h46:okB 46=true:=by decide
  rw [List.all_eq_true] at h1 a4 ⊢
  intro c hc
  simp only [wrS,List.mem_append] at hc
  rcases hc with (hc | hc) | hc
  · have:=List.mem_of_mem_take hc
    rcases List.mem_append.1 this with hc | hc
    · exact h1.1 c hc
    · rw [(List.mem_replicate.1 hc).2];exact h46
  · exact a4 c hc
  · exact h1.1 c (List.mem_of_mem_drop hc)
end Go.Ev


set_option maxRecDepth 100000
set_option maxHeartbeats 4000000
namespace Go.Ev
open Go.Proofs
theorem wrS_get (s x:List UInt8) (k i:Nat):(wrS s k x)[i]?=if k≤i∧i<k+x.length then x[i - k]? else if i<s.length then s[i]? else if i<k then some 46 else none:=by
  simp only [wrS,List.getElem?_append,List.getElem?_take,List.getElem?_drop,List.getElem?_replicate,List.length_append,List.length_take,List.length_replicate]
  grind
theorem subS_get (t:List UInt8) (a b i:Nat) (h:a+i<b):(subS t ((a:Int),(b:Int)))[i]?=t[a+i]?:=by
  simp only [subS,List.getElem?_drop,Int.toNat_natCast]
  rw [List.getElem?_take_of_lt h]
theorem bool_pass {a b:Bool} (c:Bool) (h:(a&&b)=false):(b&&(a || c))=(b&&c):=by cases a<;>cases b<;>simp_all
@[simp] theorem eqAgg_patch:eqAgg Tryz.prog 69=true:=by kernel_rfl
end Go.Ev


namespace Go.Ev
abbrev Bs:=List UInt8
structure ReqT where
  who:Int
  epoch:Int
  num:Int
  obj:Int
  pos:Int
  data:Bs
structure StoreT where
  now:List Bs
  sure:List Bs
  last:List Int
  slast:List Int
  floors:List Int
def whoOk (k:Int):Bool:=!ltI k 0&&ltI k 3
def reqOk (q:ReqT):Bool:=whoOk q.who&&!ltI q.epoch 0&&!ltI 100 q.epoch&&!ltI q.num 1&&!ltI 1000 q.num&&!ltI q.obj 0&&ltI q.obj 3&&wrOk q.pos q.data
def numsOk (s:StoreT) (i:Nat):Bool:=!ltI (s.slast.getD i 0) 0&&!ltI (s.last.getD i 0) (s.slast.getD i 0)&&!ltI 1000 (s.last.getD i 0)&&!ltI (s.floors.getD i 0) 0&&!ltI 100 (s.floors.getD i 0)
def textsOk (xs:List Bs):Bool:=xs.all txtOk&&eqI xs.length 3
def storeOk (s:StoreT):Bool:=textsOk s.now&&textsOk s.sure&&eqI s.last.length 3&&eqI s.slast.length 3&&eqI s.floors.length 3&&allTo (numsOk s) 3 0
def storeDo (s:StoreT) (q:ReqT):StoreT × Int :=
  if reqOk q=true then
    if ltI q.epoch (s.floors.getD q.who.toNat 0)=true then (s,2)
    else if ltI (s.last.getD q.who.toNat 0) q.num=true then
      if ltI (s.last.getD q.who.toNat 0+1) q.num=true then (s,4)
      else ({ s with now:=s.now.set q.obj.toNat (wrS (s.now.getD q.obj.toNat []) q.pos.toNat q.data),last:=s.last.set q.who.toNat q.num },0)
    else (s,3)
  else (s,1)
def storeAll (s:StoreT):List ReqT→StoreT × List Int
  | []=>(s,[])
  | q::qs=>((storeAll (storeDo s q).1 qs).1,(storeDo s q).2::(storeAll (storeDo s q).1 qs).2)
def storeSync (s:StoreT):StoreT:={ s with sure:=s.now,slast:=s.last }
def storeFall (s:StoreT):StoreT:={ s with now:=s.sure,last:=s.slast }
def storeFence (s:StoreT) (who:Nat) (e:Int):StoreT:={ s with floors:=s.floors.set who (maxI (s.floors.getD who 0) e) }
structure StoreP (s:StoreT):Prop where
  now:s.now.length=3
  nowT:∀ x∈s.now,txtOk x=true
  sure:s.sure.length=3
  sureT:∀ x∈s.sure,txtOk x=true
  last:s.last.length=3
  slast:s.slast.length=3
  floors:s.floors.length=3
  nums:∀ i,i<3→0≤s.slast.getD i 0∧s.slast.getD i 0≤s.last.getD i 0∧s.last.getD i 0≤1000∧0≤s.floors.getD i 0∧s.floors.getD i 0≤100
theorem eqI3 {n:Nat}:eqI n 3=true↔n=3:=by rw [eqI_iff];omega
theorem storeOk_iff {s:StoreT}:storeOk s=true↔StoreP s:=by
  simp only [storeOk,textsOk,Bool.and_eq_true,eqI3,allTo_iff,List.all_eq_true]
  constructor
  · rintro ⟨⟨⟨⟨⟨⟨h1,h2⟩,⟨h3,h4⟩⟩,h5⟩,h6⟩,h7⟩,h8⟩
    refine ⟨h2,h1,h4,h3,h5,h6,h7,fun i hi=>?_⟩
    have:=h8 i (Nat.zero_le i) (by omega)
    simp only [numsOk,Bool.and_eq_true,Bool.not_eq_true',ltI_not] at this
    omega
  · intro h
    refine ⟨⟨⟨⟨⟨⟨h.nowT,h.now⟩,⟨h.sureT,h.sure⟩⟩,h.last⟩,h.slast⟩,h.floors⟩,fun i _ hi=>?_⟩
    have:=h.nums i (by omega)
    simp only [numsOk,Bool.and_eq_true,Bool.not_eq_true',ltI_not]
    omega
structure ReqP (q:ReqT):Prop where
  who:0≤q.who∧q.who<3
  epoch:0≤q.epoch∧q.epoch≤100
  num:1≤q.num∧q.num≤1000
  obj:0≤q.obj∧q.obj<3
  wr:wrOk q.pos q.data=true
theorem reqOk_iff {q:ReqT}:reqOk q=true↔ReqP q:=by
  simp only [reqOk,whoOk,Bool.and_eq_true,Bool.not_eq_true',ltI_not,ltI_iff]
  constructor
  · rintro ⟨⟨⟨⟨⟨⟨⟨⟨h1,h2⟩,h3⟩,h4⟩,h5⟩,h6⟩,h7⟩,h8⟩,h9⟩
    exact ⟨⟨h1,h2⟩,⟨h3,h4⟩,⟨h5,h6⟩,⟨h7,h8⟩,h9⟩
  · intro h
    exact ⟨⟨⟨⟨⟨⟨⟨⟨h.who.1,h.who.2⟩,h.epoch.1⟩,h.epoch.2⟩,h.num.1⟩,h.num.2⟩,h.obj.1⟩,h.obj.2⟩,h.wr⟩
theorem storeDo_fine {s:StoreT} {q:ReqT} (h:(storeDo s q).2=0):ReqP q∧s.floors.getD q.who.toNat 0≤q.epoch∧q.num=s.last.getD q.who.toNat 0+1 ∧
    storeDo s q=({ s with now:=s.now.set q.obj.toNat (wrS (s.now.getD q.obj.toNat []) q.pos.toNat q.data),last:=s.last.set q.who.toNat q.num },0):=by
  unfold storeDo at h ⊢
  cases e1:reqOk q
  · simp only [e1,Bool.false_eq_true,if_false] at h;exact absurd h (by decide)
  · cases e2:ltI q.epoch (s.floors.getD q.who.toNat 0)
    · cases e3:ltI (s.last.getD q.who.toNat 0) q.num
      · simp only [e1,e2,e3,Bool.false_eq_true,if_false,if_true] at h;exact absurd h (by decide)
      · cases e4:ltI (s.last.getD q.who.toNat 0+1) q.num
        · rw [ltI_not] at e2 e4
          rw [ltI_iff] at e3
          exact ⟨reqOk_iff.1 e1,e2,by omega,by simp only [Bool.false_eq_true,if_false,if_true]⟩
        · simp only [e1,e2,e3,e4,Bool.false_eq_true,if_false,if_true] at h;exact absurd h (by decide)
    · simp only [e1,e2,if_true] at h;exact absurd h (by decide)
theorem getD_set {α:Type} (xs:List α) (i j:Nat) (a d:α):(xs.set i a).getD j d=if i=j∧j<xs.length then a else xs.getD j d:=by
  simp only [List.getD_eq_getElem?_getD,List.getElem?_set]
  by_cases h:i=j
  · subst h
    by_cases h2:i<xs.length
    · simp [h2]
    · simp [h2,List.getElem?_eq_none (by omega:xs.length≤i)]
  · simp [h]
theorem storeDo_ok {s:StoreT} (q:ReqT) (h:StoreP s):StoreP (storeDo s q).1:=by
  by_cases hc:(storeDo s q).2=0
  · obtain ⟨h1,h2,h3,h4⟩:=storeDo_fine hc
    rw [h4]
    obtain ⟨ho1,ho2⟩:=h1.obj
    obtain ⟨hw1,hw2⟩:=h1.who
    refine ⟨by simpa using h.now,fun x hx=>?_,h.sure,h.sureT,by simpa using h.last,h.slast,h.floors,fun i hi=>?_⟩
    · rcases List.mem_or_eq_of_mem_set hx with hx | rfl
      · exact h.nowT x hx
      · refine txtOk_wr (h.nowT _ ?_) h1.wr
        have:q.obj.toNat<s.now.length:=by rw [h.now];omega
        rw [List.getD_eq_getElem?_getD,List.getElem?_eq_getElem this]
        exact List.getElem_mem this
    · have:=h.nums i hi
      simp only [getD_set]
      split
      · rename_i hi2
        obtain ⟨rfl,_⟩:=hi2
        have:=h1.num
        omega
      · exact this
  · have:(storeDo s q).1=s:=by
      unfold storeDo at hc ⊢
      repeat' split
      all_goals first | rfl | skip
      rename_i a b c d
      rw [if_pos a,if_neg b,if_pos c,if_neg d] at hc
      exact absurd rfl hc
    rw [this];exact h
theorem storeAll_ok {s:StoreT}:∀ (qs:List ReqT) {s:StoreT},StoreP s→StoreP (storeAll s qs).1
  | [],s,h=>h
  | q::qs,s,h=>storeAll_ok (s:=s) qs (storeDo_ok q h)
theorem storeDo_keeps (s:StoreT) (q:ReqT):(storeDo s q).1.sure=s.sure∧(storeDo s q).1.slast=s.slast∧(storeDo s q).1.floors=s.floors:=by
  unfold storeDo
  split
  · split
    · exact ⟨rfl,rfl,rfl⟩
    · split
      · split<;>exact ⟨rfl,rfl,rfl⟩
      · exact ⟨rfl,rfl,rfl⟩
  · exact ⟨rfl,rfl,rfl⟩
theorem storeAll_keeps:∀ (qs:List ReqT) (s:StoreT),(storeAll s qs).1.sure=s.sure∧(storeAll s qs).1.slast=s.slast∧(storeAll s qs).1.floors=s.floors
  | [],s=>⟨rfl,rfl,rfl⟩
  | q::qs,s=>by
    obtain ⟨h1,h2,h3⟩:=storeAll_keeps qs (storeDo s q).1
    obtain ⟨g1,g2,g3⟩:=storeDo_keeps s q
    exact ⟨h1.trans g1,h2.trans g2,h3.trans g3⟩
theorem storeAll_len:∀ (qs:List ReqT) (s:StoreT),(storeAll s qs).2.length=qs.length
  | [],s=>rfl
  | q::qs,s=>by simp [storeAll,storeAll_len qs]
theorem storeAll_app:∀ (qs rs:List ReqT) (s:StoreT),storeAll s (qs++rs)=((storeAll (storeAll s qs).1 rs).1,(storeAll s qs).2++(storeAll (storeAll s qs).1 rs).2)
  | [],rs,s=>rfl
  | q::qs,rs,s=>by simp [storeAll,storeAll_app qs rs]
theorem storeFall_all (s:StoreT) (qs:List ReqT):storeFall (storeAll s qs).1=storeFall s:=by
  obtain ⟨h1,h2,h3⟩:=storeAll_keeps qs s
  simp [storeFall,h1,h2,h3]
def fineAll (cs:List Int):Prop:=∀ c∈cs,c=0
def objOf (size many j:Nat):Nat:=j / size % many
def posOf (size many j:Nat):Nat:=j / size / many*size+j % size
theorem lay_inj {size many j k:Nat} (hs:0<size) (hm:0<many) (h1:objOf size many j=objOf size many k) (h2:posOf size many j=posOf size many k):j=k:=by
  unfold objOf posOf at *
  have a1:=Nat.mod_lt j hs
  have a2:=Nat.mod_lt k hs
  have b1:=Nat.div_add_mod j size
  have b2:=Nat.div_add_mod k size
  have c1:=Nat.div_add_mod (j / size) many
  have c2:=Nat.div_add_mod (k / size) many
  have e1:j % size=k % size:=by
    have:=congrArg (· % size) h2
    simpa [Nat.mul_add_mod_self_right] using this
  have e2:j / size / many*size=k / size / many*size:=by omega
  have e3:j / size / many=k / size / many:=Nat.eq_of_mul_eq_mul_right hs e2
  rw [e3,h1] at c1
  have e4:j / size=k / size:=by omega
  rw [e4,e1] at b1
  omega
theorem pos_le {size many j:Nat} (hs:0<size) (hm:0<many):posOf size many j≤j:=by
  unfold posOf
  have b1:=Nat.div_add_mod j size
  have:j / size / many*size≤j / size*size:=Nat.mul_le_mul_right _ (Nat.div_le_self _ _)
  rw [Nat.mul_comm (j / size)] at this
  omega
theorem lay_run {size many a d:Nat} (hs:0<size) (h:a % size+d<size):objOf size many (a+d)=objOf size many a∧posOf size many (a+d)=posOf size many a+d:=by
  have e1:(a+d) / size=a / size:=by
    have b1:=Nat.div_add_mod a size
    refine Nat.div_eq_of_lt_le ?_ ?_
    · rw [Nat.mul_comm];omega
    · rw [Nat.succ_mul,Nat.mul_comm];omega
  have e2:(a+d) % size=a % size+d:=by
    have b1:=Nat.div_add_mod a size
    have b2:=Nat.div_add_mod (a+d) size
    rw [e1] at b2
    omega
  unfold objOf posOf
  rw [e1,e2]
  exact ⟨rfl,by omega⟩
def fileAt (size many:Nat) (now:List Bs) (j:Nat):UInt8:=(now.getD (objOf size many j) []).getD (posOf size many j) 46
theorem file_put {size many a:Nat} {now:List Bs} {x:Bs} (hs:0<size) (hm:0<many) (hm3:many≤3) (hn:now.length=3) (hx:a % size+x.length≤size) (j:Nat) :
    fileAt size many (now.set (objOf size many a) (wrS (now.getD (objOf size many a) []) (posOf size many a) x)) j=if a≤j∧j<a+x.length then x.getD (j - a) 0 else fileAt size many now j:=by
  have ho:objOf size many a<now.length:=by have:=Nat.mod_lt (a / size) hm;unfold objOf;omega
  unfold fileAt
  rw [getD_set]
  by_cases hj:objOf size many a=objOf size many j
  · rw [if_pos ⟨hj,by rw [← hj];exact ho⟩]
    rw [List.getD_eq_getElem?_getD (l:=wrS _ _ _),wrS_get]
    by_cases hp:posOf size many a≤posOf size many j∧posOf size many j<posOf size many a+x.length
    · rw [if_pos hp]
      obtain ⟨d,hd⟩:∃ d,posOf size many j=posOf size many a+d:=⟨posOf size many j - posOf size many a,by omega⟩
      have hr:=lay_run (many:=many) hs (a:=a) (d:=d) (by omega)
      have he:j=a+d:=lay_inj hs hm (hj.symm.trans hr.1.symm) (hd.trans hr.2.symm)
      rw [if_pos (by omega),hd,he]
      rw [List.getD_eq_getElem?_getD,show posOf size many a+d - posOf size many a=d by omega,show a+d - a=d by omega]
      rw [List.getElem?_eq_getElem (by omega)]
      rfl
    · have hnn:¬ (a≤j∧j<a+x.length):=by
        intro hc
        obtain ⟨d,hd⟩:∃ d,j=a+d:=⟨j - a,by omega⟩
        have hr:=lay_run (many:=many) hs (a:=a) (d:=d) (by omega)
        rw [hd,hr.2] at hp
        omega
      rw [if_neg hp,if_neg hnn,← hj]
      by_cases h1:posOf size many j<(now.getD (objOf size many a) []).length
      · rw [if_pos h1];simp only [List.getD_eq_getElem?_getD]
      · rw [if_neg h1,List.getD_eq_getElem?_getD,List.getElem?_eq_none (by omega)]
        split<;>rfl
  · rw [if_neg (fun h=>hj h.1),if_neg]
    intro hc
    obtain ⟨d,hd⟩:∃ d,j=a+d:=⟨j - a,by omega⟩
    have hr:=lay_run (many:=many) hs (a:=a) (d:=d) (by omega)
    rw [hd,hr.1] at hj
    exact hj rfl
end Go.Ev


namespace Go.Ev
def endOf (size a hi:Nat):Nat:=min hi ((a / size+1)*size)
theorem endOf_gt {size a hi:Nat} (hs:0<size) (h:a<hi):a<endOf size a hi∧endOf size a hi≤hi∧a % size+(endOf size a hi - a)≤size:=by
  have b1:=Nat.div_add_mod a size
  have b2:=Nat.mod_lt a hs
  unfold endOf
  rw [Nat.succ_mul,Nat.mul_comm (a / size) size]
  omega
def reqsF (size many:Nat) (who epoch:Int) (lo:Nat) (x:Bs) (hi:Nat):Nat→Nat→Int→List ReqT
  | 0,_,_=>[]
  | n+1,a,num=>if a<hi then { who,epoch,num,obj:=(objOf size many a:Nat),pos:=(posOf size many a:Nat),data:=(x.take (endOf size a hi - lo)).drop (a - lo) }::reqsF size many who epoch lo x hi n (endOf size a hi) (num+1) else []
theorem fineAll_cons {c:Int} {cs:List Int}:fineAll (c::cs)↔c=0∧fineAll cs:=by simp [fineAll]
theorem fineAll_app {cs ds:List Int}:fineAll (cs++ds)↔fineAll cs∧fineAll ds:=by
  simp only [fineAll,List.mem_append]
  exact ⟨fun h=>⟨fun c hc=>h c (.inl hc),fun c hc=>h c (.inr hc)⟩,fun h c hc=>hc.elim (h.1 c) (h.2 c)⟩
theorem reqsF_file {size many:Nat} (hs:0<size) (hm:0<many) (hm3:many≤3) {who epoch:Int} {lo hi:Nat} {x:Bs} (hx:hi=lo+x.length):∀ (n a:Nat) (num:Int) (s:StoreT),StoreP s→lo≤a→hi≤a+n →
    fineAll (storeAll s (reqsF size many who epoch lo x hi n a num)).2→∀ j,fileAt size many (storeAll s (reqsF size many who epoch lo x hi n a num)).1.now j=if a≤j∧j<hi then x.getD (j - lo) 0 else fileAt size many s.now j
  | 0,a,num,s,hsp,hlo,hn,hf,j=>by
    rw [if_neg (by omega)]
    rfl
  | n+1,a,num,s,hsp,hlo,hn,hf,j=>by
    rw [reqsF] at hf ⊢
    by_cases ha:a<hi
    · rw [if_pos ha] at hf ⊢
      obtain ⟨g1,g2,g3⟩:=endOf_gt hs ha
      generalize endOf size a hi=e at *
      simp only [storeAll] at hf ⊢
      rw [fineAll_cons] at hf
      obtain ⟨_,_,_,hd⟩:=storeDo_fine hf.1
      have ih:=reqsF_file hs hm hm3 (who:=who) (epoch:=epoch) hx n e (num+1) _ (storeDo_ok _ hsp) (by omega) (by omega) hf.2 j
      rw [ih,hd]
      dsimp only
      simp only [Int.toNat_natCast]
      have hl:((x.take (e - lo)).drop (a - lo)).length=e - a:=by simp;omega
      rw [file_put hs hm hm3 hsp.now (by rw [hl];omega),hl]
      by_cases h1:e≤j∧j<hi
      · rw [if_pos h1,if_pos (by omega)]
      · rw [if_neg h1]
        by_cases h2:a≤j∧j<a+(e - a)
        · rw [if_pos h2,if_pos (by omega)]
          simp only [List.getD_eq_getElem?_getD,List.getElem?_drop]
          rw [List.getElem?_take_of_lt (by omega),show a - lo+(j - a)=j - lo by omega]
        · rw [if_neg h2,if_neg (by omega)]
    · rw [if_neg ha,if_neg (by omega)]
      rfl
def reqsAll (size many:Nat) (who epoch:Int):List Pt→Int→List ReqT
  | [],_=>[]
  | q::qs,num=>reqsF size many who epoch q.1.toNat q.2 (q.1.toNat+q.2.length) 48 q.1.toNat num++reqsAll size many who epoch qs (num+(reqsF size many who epoch q.1.toNat q.2 (q.1.toNat+q.2.length) 48 q.1.toNat num).length)
theorem reqsAll_file {size many:Nat} (hs:0<size) (hm:0<many) (hm3:many≤3) {who epoch:Int} (t:Bs) (p:Sp) (ht:t.length=48) (hp:0≤p.1∧p.1<p.2∧p.2≤48):∀ (ds:List Sp) (num:Int) (s:StoreT),StoreP s→(∀ d∈ds,0≤d.1∧d.1<d.2∧d.2≤48) →
    fineAll (storeAll s (reqsAll size many who epoch (patF t p ds) num)).2→∀ j,fileAt size many (storeAll s (reqsAll size many who epoch (patF t p ds) num)).1.now j=if (inSp j p&&inF ds j)=true then t.getD j 0 else fileAt size many s.now j
  | [],num,s,hsp,hd,hf,j=>by
    have:inF [] j=false:=rfl
    rw [this,Bool.and_false]
    rfl
  | d::ds,num,s,hsp,hd,hf,j=>by
    have hs0:=hd d (by simp)
    have hb:=meet_bd hs0 hp
    have hme:(meetS d p).1=maxI d.1 p.1∧(meetS d p).2=minI d.2 p.2:=⟨rfl,rfl⟩
    have hin:∀ i:Nat,inSp i (meetS d p)=(inSp i d&&inSp i p):=fun i=>by
      rw [Bool.eq_iff_iff,Bool.and_eq_true,inSp_iff,inSp_iff,inSp_iff,hme.1,hme.2]
      simp only [maxI,minI,ltI,decide_eq_true_eq]
      constructor
      · intro ⟨h1,h2⟩;split at h1<;>split at h2<;>omega
      · intro h;constructor<;>split<;>omega
    have e4:inF (d::ds) j=(inSp j d || inF ds j):=rfl
    rw [patF] at hf ⊢
    cases e:ltI (meetS d p).1 (meetS d p).2
    · rw [e] at hf
      simp only [Bool.false_eq_true,if_false] at hf ⊢
      have ih:=reqsAll_file hs hm hm3 (who:=who) (epoch:=epoch) t p ht hp ds num s hsp (fun q hq=>hd q (by simp [hq])) hf j
      have:inSp j (meetS d p)=false:=by
        rw [← Bool.not_eq_true,inSp_iff]
        rw [ltI_not] at e
        omega
      rw [hin j] at this
      have e5:(inSp j p&&inF (d::ds) j)=(inSp j p&&inF ds j):=bool_pass _ this
      rw [ih]
      simp only [e5]
    · rw [e] at hf
      simp only [if_true] at hf ⊢
      rw [ltI_iff] at e
      obtain ⟨a,ha⟩:∃ a:Nat,(meetS d p).1=a:=⟨(meetS d p).1.toNat,by omega⟩
      obtain ⟨b,hbb⟩:∃ b:Nat,(meetS d p).2=b:=⟨(meetS d p).2.toNat,by omega⟩
      have hms:meetS d p=((a:Int),(b:Int)):=Prod.ext ha hbb
      rw [hms] at hin e hb hf ⊢
      dsimp only at e hb hf ⊢
      have hl:(subS t ((a:Int),(b:Int))).length=b - a:=by simp [subS];omega
      rw [reqsAll,storeAll_app] at hf ⊢
      dsimp only at hf ⊢
      rw [fineAll_app] at hf
      simp only [Int.toNat_natCast,hl] at hf ⊢
      rw [show a+(b - a)=b by omega] at hf ⊢
      have h1:=reqsF_file hs hm hm3 (who:=who) (epoch:=epoch) (lo:=a) (hi:=b) (x:=subS t ((a:Int),(b:Int))) (by omega) 48 a num s hsp (by omega) (by omega) hf.1 j
      have ih:=reqsAll_file hs hm hm3 (who:=who) (epoch:=epoch) t p ht hp ds _ _ (storeAll_ok (s:=s) _ hsp) (fun q hq=>hd q (by simp [hq])) hf.2 j
      rw [ih,h1]
      have hini:=hin j
      have hab:inSp j ((a:Int),(b:Int))=true↔a≤j∧j<b:=by rw [inSp_iff];dsimp only;omega
      by_cases hc:a≤j∧j<b
      · have hini:=hini.symm.trans (hab.2 hc)
        rw [Bool.and_eq_true] at hini
        have e6:(inSp j p&&inF (d::ds) j)=true:=by rw [e4,hini.1,hini.2];rfl
        rw [if_pos hc,if_pos e6]
        have:(subS t ((a:Int),(b:Int))).getD (j - a) 0=t.getD j 0:=by
          rw [List.getD_eq_getElem?_getD,subS_get t a b _ (by omega),show a+(j - a)=j by omega,List.getD_eq_getElem?_getD]
        rw [this]
        split<;>rfl
      · have hf2:inSp j ((a:Int),(b:Int))=false:=by rw [← Bool.not_eq_true,hab];exact hc
        have e5:(inSp j p&&inF (d::ds) j)=(inSp j p&&inF ds j):=bool_pass _ (hini.symm.trans hf2)
        rw [if_neg hc]
        simp only [e5]
theorem reqsF_who (size many:Nat) (who epoch:Int) (lo:Nat) (x:Bs) (hi:Nat):∀ (n a:Nat) (num:Int),∀ q∈reqsF size many who epoch lo x hi n a num,q.who=who∧q.epoch=epoch
  | 0,a,num=>by simp [reqsF]
  | n+1,a,num=>by
    intro q hq
    rw [reqsF] at hq
    split at hq
    · rcases List.mem_cons.1 hq with rfl | hq
      · exact ⟨rfl,rfl⟩
      · exact reqsF_who size many who epoch lo x hi n _ _ q hq
    · simp at hq
theorem reqsAll_who (size many:Nat) (who epoch:Int):∀ (ps:List Pt) (num:Int),∀ q∈reqsAll size many who epoch ps num,q.who=who∧q.epoch=epoch
  | [],num=>by simp [reqsAll]
  | p::ps,num=>by
    intro q hq
    rw [reqsAll,List.mem_append] at hq
    exact hq.elim (reqsF_who _ _ _ _ _ _ _ _ _ _ q) (reqsAll_who size many who epoch ps _ q)
structure HoldT where
  r:List Sp
  w:List Sp
def noH:HoldT:=⟨[],[]⟩
def clearS (a b:List Sp):Bool:=a.all fun x=>b.all fun y=>!ltI (meetS x y).1 (meetS x y).2
def lockAt (t:List HoldT) (i:Nat):Bool:=spsOk (t.getD i noH).r&&spsOk (t.getD i noH).w&&clearS (t.getD i noH).r (t.getD i noH).w&&allTo (fun k=>(k==i) || (clearS (t.getD i noH).w (t.getD k noH).w&&clearS (t.getD i noH).w (t.getD k noH).r)) 3 0
def lockOk (t:List HoldT):Bool:=eqI t.length 3&&allTo (lockAt t) 3 0
def apartS (a b:List Sp):Prop:=∀ j:Nat,¬ (inF a j=true∧inF b j=true)
structure LockP (t:List HoldT):Prop where
  len:t.length=3
  r:∀ i,i<3→spsOk (t.getD i noH).r=true
  w:∀ i,i<3→spsOk (t.getD i noH).w=true
  rw:∀ i,i<3→apartS (t.getD i noH).r (t.getD i noH).w
  ww:∀ i k,i<3→k<3→k≠i→apartS (t.getD i noH).w (t.getD k noH).w
  wr:∀ i k,i<3→k<3→k≠i→apartS (t.getD i noH).w (t.getD k noH).r
theorem clearS_iff {a b:List Sp} (ha:∀ s∈a,0≤s.1∧s.1<s.2∧s.2≤48) (hb:∀ s∈b,0≤s.1∧s.1<s.2∧s.2≤48):clearS a b=true↔apartS a b:=by
  simp only [clearS,List.all_eq_true,Bool.not_eq_true',ltI_not]
  constructor
  · intro h j ⟨h1,h2⟩
    obtain ⟨x,hx,x1,x2⟩:=inF_iff.1 h1
    obtain ⟨y,hy,y1,y2⟩:=inF_iff.1 h2
    have:=h x hx y hy
    simp only [meetS,maxI,minI,ltI,decide_eq_true_eq] at this
    split at this<;>split at this<;>omega
  · intro h x hx y hy
    have hx0:=ha x hx
    have hy0:=hb y hy
    apply Classical.byContradiction
    intro hn
    have hlt:(meetS x y).1<(meetS x y).2:=by omega
    refine h (meetS x y).1.toNat ⟨inF_iff.2 ⟨x,hx,?_⟩,inF_iff.2 ⟨y,hy,?_⟩⟩ <;>
      · simp only [meetS,maxI,minI,ltI,decide_eq_true_eq] at hlt ⊢
        split at hlt<;>split at hlt<;>(constructor<;>simp only [*,if_true,if_false]<;>omega)
theorem lockOk_iff {t:List HoldT}:lockOk t=true↔LockP t:=by
  simp only [lockOk,Bool.and_eq_true,eqI3,allTo_iff]
  constructor
  · rintro ⟨h0,h⟩
    have g:∀ i,i<3→spsOk (t.getD i noH).r=true∧spsOk (t.getD i noH).w=true:=fun i hi=>by
      have:=h i (Nat.zero_le i) (by omega)
      simp only [lockAt,Bool.and_eq_true] at this
      exact ⟨this.1.1.1,this.1.1.2⟩
    refine ⟨h0,fun i hi=>(g i hi).1,fun i hi=>(g i hi).2,fun i hi=>?_,fun i k hi hk hne=>?_,fun i k hi hk hne=>?_⟩
    · have:=h i (Nat.zero_le i) (by omega)
      simp only [lockAt,Bool.and_eq_true] at this
      exact (clearS_iff (spsOk_sp (g i hi).1) (spsOk_sp (g i hi).2)).1 this.1.2
    all_goals
      have:=h i (Nat.zero_le i) (by omega)
      simp only [lockAt,Bool.and_eq_true,allTo_iff] at this
      have:=this.2 k (Nat.zero_le k) (by omega)
      simp only [Bool.or_eq_true,beq_iff_eq,Bool.and_eq_true,hne,false_or] at this
    · exact (clearS_iff (spsOk_sp (g i hi).2) (spsOk_sp (g k hk).2)).1 this.1
    · exact (clearS_iff (spsOk_sp (g i hi).2) (spsOk_sp (g k hk).1)).1 this.2
  · intro h
    refine ⟨h.len,fun i _ hi=>?_⟩
    have hi:i<3:=by omega
    simp only [lockAt,Bool.and_eq_true,allTo_iff]
    refine ⟨⟨⟨h.r i hi,h.w i hi⟩,(clearS_iff (spsOk_sp (h.r i hi)) (spsOk_sp (h.w i hi))).2 (h.rw i hi)⟩,fun k _ hk=>?_⟩
    have hk:k<3:=by omega
    by_cases hne:k=i
    · simp [hne]
    · simp only [Bool.or_eq_true,beq_iff_eq,Bool.and_eq_true,hne,false_or]
      exact ⟨(clearS_iff (spsOk_sp (h.w i hi)) (spsOk_sp (h.w k hk))).2 (h.ww i k hi hk hne),(clearS_iff (spsOk_sp (h.w i hi)) (spsOk_sp (h.r k hk))).2 (h.wr i k hi hk hne)⟩
end Go.Ev

