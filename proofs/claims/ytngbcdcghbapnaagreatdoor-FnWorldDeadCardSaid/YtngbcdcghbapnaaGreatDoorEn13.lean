/- My texts joined: EvT20, EvT21, EvT22, EvT25, EvT32, EvT33, EvT34. No condition. -/
import Derived.Test.YtngbcdcghbapnaaGreatDoorEn1
import Derived.Test.YtngbcdcghbapnaaGreatDoorEn2
import Derived.Test.YtngbcdcghbapnaaGreatDoorEn5
import Derived.Test.YtngbcdcghbapnaaGreatDoorEn6
import Derived.Test.YtngbcdcghbapnaaGreatDoorEn7
import Derived.Test.YtngbcdcghbapnaaGreatDoorEn8
import Derived.Test.YtngbcdcghbapnaaGreatDoorEn9
import Derived.Test.YtngbcdcghbapnaaGreatDoorEn10
import Derived.Test.YtngbcdcghbapnaaGreatDoorEn11
import Derived.Test.YtngbcdcghbapnaaGreatDoorEn12
set_option linter.unusedVariables false
set_option linter.unusedSimpArgs false

set_option maxRecDepth 100000
set_option maxHeartbeats 4000000
namespace Go.Ev
open Go.Proofs
theorem lp_l1Lists (bs:List UInt8) (p N:Nat) (hN:1≤N) (hN2:N≤48) (m4:M) (a:Code) (ha:a=lp Tryz.f188 0):∀ (n:Nat) (V0:List (Nat × AV)) (out:List Sp),look V0 3=at1 3→look V0 4=.v m4 false [.int .i64 N]→13≤out.length+n→N≤out.length→out.length≤60 →
  ∃ (x:List Sp),x.length≤60∧loopC E (ev E) 188 a { V:=V0,H:=[rdH bs p,ow (.c 3) [.sl (out.map spL)]],ps:=[0] } =
   some (.exit 1,{ V:=[(3,at1 3),(4,.v m4 false [.int .i64 N]),(25,vb false)],H:=[rdH bs p,ow (.c 3) [.sl (x.map spL)]],ps:=[0] })
 | n,V0,out,v3,v4,h,hl,h60=>by
  by_cases hlt:(out.length:Int)≤12
  ·match n,h with
   | 0,h=>omega
   | n+1,h =>
    obtain ⟨j,hj⟩:∃ j,N=j+1:=⟨N - 1,by omega⟩
    have hjl:j<out.length:=by omega
    obtain ⟨x,hx,ih⟩:=lp_l1Lists bs p N hN hN2 m4 a ha n [(3,at1 3),(4,.v m4 false [.int .i64 N])] (out++[out[j]]) rfl rfl (by simp;omega) (by simp;omega) (by simp;omega)
    refine ⟨x,hx,?_⟩
    have w1:IntKind.i64.wrap ((N:Int) - 1)=(j:Int):=by rw [wrap64]<;>omega
    have hsz:(out.length+1)*16≤17592186044416:=by omega
    have hsz2:out.length+1≤17592186044416:=by omega
    rw [loopC_of _ _ _ _ ha]
    clear ha hj
    simp [lp,loopsOf,Tryz.f188,v3,v4,hlt,w1,hjl,hsz,hsz2]
    simpa using ih
  ·have hle:(12:Int)<out.length:=by omega
   refine ⟨out,h60,?_⟩
   rw [loopC_of _ _ _ _ ha]
   simp [lp,loopsOf,Tryz.f188,v3,v4,hle]
theorem ev_l1Lists (bs:List UInt8) (p:Nat) (b:RdB bs p) (hp:p+120≤1099511627776) :
  ∃ (q:Nat) (x:List Sp),x.length≤60∧q≤120∧ev E 188 [rdA bs p]=some { rs:=[.v .own false [.sl (x.map spL)]],outs:=[rdO bs (p+q)] }:=by
 obtain ⟨q,x,hx,hq,c1⟩:=ev_l1List bs p b (by omega)
 by_cases h0:x.length=0
 ·obtain rfl:x=[]:=List.length_eq_zero_iff.1 h0
  refine ⟨q,[],by simp,by omega,?_⟩
  rw [ev_fn Tryz.f188 rfl Tryz.func188 rfl rfl rfl (Nat.le_of_ble_eq_true rfl)]
  simp at c1
  simp [c1]
 ·have e0:eqI x.length 0=false:=eqI_not.2 (by omega)
  obtain ⟨k8,hk8,c2⟩:=ev_pick .ro bs (p+q) 8 ⟨b.b,by omega⟩ (by omega)
  cases e8:ltI 0 k8
  ·obtain ⟨k,hk,c3⟩:=ev_pick .ro bs (p+q+1) x.length ⟨b.b,by omega⟩ (by omega)
   have hk:=hk (by omega)
   have hkl:k<x.length:=by omega
   obtain ⟨j,hj,c4⟩:=ev_pick .ro bs (p+q+1+1) 4 ⟨b.b,by omega⟩ (by omega)
   have hsz:(x.length+1)*16≤17592186044416:=by omega
   have hsz2:x.length+1≤17592186044416:=by omega
   by_cases j0:j=0
   ·subst j0
    obtain ⟨s,c5⟩:=ev_l1Some bs (p+q+1+1+1) ⟨b.b,by omega⟩ (by omega)
    refine ⟨q+6,x.set k s,by simp;omega,by omega,?_⟩
    rw [ev_fn Tryz.f188 rfl Tryz.func188 rfl rfl rfl (Nat.le_of_ble_eq_true rfl)]
    simp [c1,c2,c3,c4,c5,e0,e8,hkl]
    omega
   ·have f0:eqI j 0=false:=eqI_not.2 (by omega)
    by_cases j1:j=1
    ·subst j1
     refine ⟨q+3,x++[x[k]],by simp;omega,by omega,?_⟩
     push_cast at c4
     rw [ev_fn Tryz.f188 rfl Tryz.func188 rfl rfl rfl (Nat.le_of_ble_eq_true rfl)]
     simp [c1,c2,c3,c4,e0,e8,hkl,hsz,hsz2,show eqI 1 0=false from rfl]
     omega
    ·have f1:eqI j 1=false:=eqI_not.2 (by omega)
     by_cases j2:j=2
     ·subst j2
      refine ⟨q+3,x.set k (x[k].1,IntKind.i64.wrap (x[k].2+1)),by simp;omega,by omega,?_⟩
      push_cast at c4
      rw [ev_fn Tryz.f188 rfl Tryz.func188 rfl rfl rfl (Nat.le_of_ble_eq_true rfl)]
      simp [c1,c2,c3,c4,e0,e8,hkl,show eqI 2 0=false from rfl,show eqI 2 1=false from rfl]
      omega
     ·have f2:eqI j 2=false:=eqI_not.2 (by omega)
      obtain ⟨y,hy,hl⟩:=lp_l1Lists bs (p+q+1+1+1) x.length (by omega) (by omega) .ro _ rfl 13 [(3,at1 3),(4,vi x.length),(5,.v .own false [.int .i64 k]),(50,vb false)] x rfl rfl (by omega) (by omega) (by omega)
      refine ⟨q+3,y,by omega,by omega,?_⟩
      rw [ev_fn Tryz.f188 rfl Tryz.func188 rfl rfl rfl (Nat.le_of_ble_eq_true rfl)]
      simp [c1,c2,c3,c4,e0,e8,f0,f1,f2]
      rw [loopC_at ?_ hl]
      ·simp
       omega
      ·rfl
  ·refine ⟨q+1,x,by omega,by omega,?_⟩
   rw [ev_fn Tryz.f188 rfl Tryz.func188 rfl rfl rfl (Nat.le_of_ble_eq_true rfl)]
   simp [c1,c2,e0,e8]
   omega
set_option maxRecDepth 100000
set_option maxHeartbeats 4000000
structure OB (t:List UInt8) (h d:List Sp):Prop where
 t:t.length≤1000
 h:h.length≤1000
 d:d.length≤1000
theorem OB.w {t:List UInt8} {h d:List Sp} (o:OB t h d):OwB t h d:=⟨by have:=o.t;omega,by have:=o.h;omega,by have:=o.d;omega⟩
theorem OB.ok {t:List UInt8} {h d:List Sp} (e:ownOk t h d=true):OB t h d:=by
 obtain ⟨h1,h2,h3,_⟩:=ownOk_t e
 have:=spsOk_len h2
 have:=spsOk_len h3
 exact ⟨by omega,by omega,by omega⟩
theorem OB.nil:OB [] [] []:=⟨by simp,by simp,by simp⟩
theorem cleanS_ex {t:List UInt8} {h d:List Sp} (p:Sp) (o:OB t h d):∃ t' h' d' b',cleanS t h d p=rOB t' h' d' b'∧OB t' h' d':=by
 unfold cleanS
 split
 ·split
  ·split
   ·rename_i e;exact ⟨_,_,_,_,rfl,.ok e⟩
   ·exact ⟨_,_,_,_,rfl,o⟩
  ·exact ⟨_,_,_,_,rfl,o⟩
 ·exact ⟨_,_,_,_,rfl,.nil⟩
theorem dropS_ex {t:List UInt8} {h d:List Sp} (p:Sp) (o:OB t h d):∃ t' h' d' b',dropS t h d p=rOB t' h' d' b'∧OB t' h' d':=by
 unfold dropS
 split
 ·split
  ·split
   ·exact ⟨_,_,_,_,rfl,o⟩
   ·split
    ·rename_i e;exact ⟨_,_,_,_,rfl,.ok e⟩
    ·exact ⟨_,_,_,_,rfl,o⟩
  ·exact ⟨_,_,_,_,rfl,o⟩
 ·exact ⟨_,_,_,_,rfl,.nil⟩
theorem fillS_ex {t:List UInt8} {h d:List Sp} (p:Sp) (x:List UInt8) (o:OB t h d):∃ t' h' d' b',fillS t h d p x=rOB t' h' d' b'∧OB t' h' d':=by
 unfold fillS
 split
 ·split
  ·split
   ·rename_i e;exact ⟨_,_,_,_,rfl,.ok e⟩
   ·exact ⟨_,_,_,_,rfl,o⟩
  ·exact ⟨_,_,_,_,rfl,o⟩
 ·exact ⟨_,_,_,_,rfl,.nil⟩
theorem writeS_ex {t:List UInt8} {h d:List Sp} (k:Int) (x:List UInt8) (o:OB t h d):∃ t' h' d' b',writeS t h d k x=rOB t' h' d' b'∧OB t' h' d':=by
 unfold writeS
 split
 ·split
  ·split
   ·rename_i e;exact ⟨_,_,_,_,rfl,.ok e⟩
   ·exact ⟨_,_,_,_,rfl,o⟩
  ·exact ⟨_,_,_,_,rfl,o⟩
 ·exact ⟨_,_,_,_,rfl,.nil⟩
abbrev zOw:List L:=[.str [],.sl [],.sl []]
theorem lp_l6Some (bs:List UInt8) (hb:bs.length≤2000) (a:Code) (ha:a=lp Tryz.f125 0):∀ (n p:Nat) (m0:M) (t:List UInt8) (h d:List Sp),OB t h d→n≤100→p+300*n≤1099511627776 →
  ∃ (q:Nat) (m':M) (t':List UInt8) (h' d':List Sp),OB t' h' d'∧q≤300*n∧loopC E (ev E) 125 a { V:=[(0,adp 0),(2,adc 2),(3,adc 3),(4,.v m0 false [.int .i64 n])],H:=[rdH bs p,bx (.c 2) zOw,bx (.c 3) (owL t h d)],ps:=[0] } =
   some (.exit 0,{ V:=[(0,adp 0),(2,adc 2),(3,adc 3),(4,.v m' false [.int .i64 0]),(11,vb false)],H:=[rdH bs (p+q),bx (.c 2) zOw,bx (.c 3) (owL t' h' d')],ps:=[0] })
 | 0,p,m0,t,h,d,o,hn,hp=>by
  refine ⟨0,m0,t,h,d,o,by omega,?_⟩
  rw [loopC_of _ _ _ _ ha]
  simp [lp,loopsOf,Tryz.f125]
 | n+1,p,m0,t,h,d,o,hn,hp=>by
  obtain ⟨s,hs,c1⟩:=ev_l1Span bs p ⟨hb,by omega⟩ (by omega)
  obtain ⟨k,hk,c2⟩:=ev_pick .ro bs (p+2) 6 ⟨hb,by omega⟩ (by omega)
  have hw:IntKind.i64.wrap (n:Int)=n:=by rw [wrap64];omega
  have hlt:(0:Int)<(n:Int)+1:=by omega
  by_cases k0:k=0
  ·subst k0
   obtain ⟨t1,h1,d1,b1,e1,o1⟩:=cleanS_ex s o
   have c3:=fun m m' hm=>ev_spec_OwnClean m m' hm t h d s o.w
   rw [e1] at c3
   obtain ⟨q,m',t',h',d',o',hq,ih⟩:=lp_l6Some bs hb a ha n (p+3) .ro t1 h1 d1 o1 (by omega) (by omega)
   refine ⟨q+3,m',t',h',d',o',by omega,?_⟩
   rw [loopC_of _ _ _ _ ha]
   clear ha
   simp [lp,loopsOf,Tryz.f125,hw,hlt,c1,c2,c3]
   simp only [show p+3+q=p+(q+3) by omega] at ih
   simpa using ih
  ·have e0:eqI k 0=false:=eqI_not.2 (by omega)
   by_cases k1:k=1
   ·subst k1
    push_cast at c2
    obtain ⟨t1,h1,d1,b1,e1,o1⟩:=dropS_ex s o
    have c3:=fun m m' hm=>ev_spec_OwnDrop m m' hm t h d s o.w
    rw [e1] at c3
    obtain ⟨q,m',t',h',d',o',hq,ih⟩:=lp_l6Some bs hb a ha n (p+3) .ro t1 h1 d1 o1 (by omega) (by omega)
    refine ⟨q+3,m',t',h',d',o',by omega,?_⟩
    rw [loopC_of _ _ _ _ ha]
    clear ha
    simp [lp,loopsOf,Tryz.f125,hw,hlt,c1,c2,c3,show eqI 1 0=false from rfl]
    simp only [show p+3+q=p+(q+3) by omega] at ih
    simpa using ih
   ·have e1:eqI k 1=false:=eqI_not.2 (by omega)
    by_cases k23:k=2∨k=3
    ·obtain ⟨x,hx,c4⟩:=ev_l6Fit bs (p+2+1) .ro s ⟨hb,by omega⟩ (by omega) (by omega) (by omega) (by omega)
     have hN:(s.2 - s.1).toNat≤48:=by omega
     generalize (s.2 - s.1).toNat=N at *
     obtain ⟨t1,h1,d1,b1,e1',o1⟩:=fillS_ex s x o
     have c3:=fun m m' m'' hm=>ev_spec_OwnFill m m' m'' hm t h d s x o.w (by omega)
     rw [e1'] at c3
     obtain ⟨q,m',t',h',d',o',hq,ih⟩:=lp_l6Some bs hb a ha n (p+3+N) .ro t1 h1 d1 o1 (by omega) (by omega)
     refine ⟨q+3+N,m',t',h',d',o',by omega,?_⟩
     simp only [show p+3+N+q=p+(q+3+N) by omega] at ih
     rw [loopC_of _ _ _ _ ha]
     clear ha
     rcases k23 with rfl | rfl
     ·push_cast at c2
      simp [lp,loopsOf,Tryz.f125,hw,hlt,c1,c2,c3,c4,show eqI 2 0=false from rfl,show eqI 2 1=false from rfl]
      simpa using ih
     ·push_cast at c2
      simp [lp,loopsOf,Tryz.f125,hw,hlt,c1,c2,c3,c4,show eqI 3 0=false from rfl,show eqI 3 1=false from rfl,show eqI 3 2=false from rfl]
      simpa using ih
    ·have e2:eqI k 2=false:=eqI_not.2 (by omega)
     have e3:eqI k 3=false:=eqI_not.2 (by omega)
     obtain ⟨kk,hkk,c4⟩:=ev_pick .ro bs (p+2+1) 40 ⟨hb,by omega⟩ (by omega)
     obtain ⟨x,q0,hx,hq0,c5⟩:=ev_l2Data bs (p+2+1+1) ⟨hb,by omega⟩ (by omega)
     obtain ⟨t1,h1,d1,b1,e1',o1⟩:=writeS_ex kk x o
     have c3:=fun m m' m'' hm=>ev_spec_OwnWrite m m' m'' hm t h d kk x o.w (by omega)
     rw [e1'] at c3
     obtain ⟨q,m',t',h',d',o',hq,ih⟩:=lp_l6Some bs hb a ha n (p+4+q0) .ro t1 h1 d1 o1 (by omega) (by omega)
     refine ⟨q+4+q0,m',t',h',d',o',by omega,?_⟩
     simp only [show p+4+q0+q=p+(q+4+q0) by omega] at ih
     rw [loopC_of _ _ _ _ ha]
     clear ha
     simp [lp,loopsOf,Tryz.f125,hw,hlt,c1,c2,c3,c4,c5,e0,e1,e2,e3]
     simpa using ih
set_option maxRecDepth 100000
set_option maxHeartbeats 4000000
theorem ev_l6Some (bs:List UInt8) (p:Nat) (b:RdB bs p) (hp:p+2500≤1099511627776) :
  ∃ (q:Nat) (t:List UInt8) (h d:List Sp),OB t h d∧q≤2500∧ev E 125 [rdA bs p]=some { rs:=[rOw t h d],outs:=[rdO bs (p+q)] }:=by
 obtain ⟨v,hv,c1⟩:=ev_num .tn bs p [3,5,8,0,1] b (by simp) (by simp)
 obtain ⟨N,rfl⟩:∃ N:Nat,v=N:=⟨v.toNat,by simp at hv;omega⟩
 have hN:N≤8:=by simp at hv;omega
 have hnone:=ev_l6None
 have hbl:(List.replicate 48 (46:UInt8)).length=48:=rfl
 generalize List.replicate 48 (46:UInt8)=t0 at hnone hbl
 obtain ⟨q,m',t,h,d,o,hq,hl⟩:=lp_l6Some bs b.b _ rfl N (p+1) .own t0 [] [] ⟨by omega,by simp,by simp⟩ (by omega) (by omega)
 refine ⟨1+q,t,h,d,o,by omega,?_⟩
 simp at c1
 simp only [owL,List.map_nil] at hl
 rw [ev_fn Tryz.f125 rfl Tryz.func125 rfl rfl rfl (Nat.le_of_ble_eq_true rfl)]
 simp [hnone,c1]
 rw [loopC_at ?_ hl]
 ·simp
  omega
 ·rfl
theorem ev_l10Open (bs:List UInt8):ev E 48 [.v .ro false [.sl (rowsOfBytes bs)]]=some { rs:=[.ptr .ro (rdL (bs.take 2000) 0)],outs:=[] }:=by
 have ht:rowsOfBytes (bs.take 2000)=(rowsOfBytes bs).take 2000:=by simp [rowsOfBytes]
 cases e:ltI 2000 bs.length
 ·have h1:bs.take 2000=bs:=List.take_of_length_le (by have:=ltI_not.1 e;omega)
  rw [h1]
  rw [ev_fn Tryz.f48 rfl Tryz.func48 rfl rfl rfl (Nat.le_of_ble_eq_true rfl)]
  simp [e]
 ·have h1:=ltI_iff.1 e
  have h2:2000≤bs.length:=by omega
  have hr:∀ x∈rowsOfBytes bs,x.length=1:=fun x hx=>by
   simp only [rowsOfBytes,List.mem_map] at hx
   obtain ⟨b,_,rfl⟩:=hx
   rfl
  have h3:(2000:Int)≤bs.length:=by omega
  rw [rdL,ht]
  rw [ev_fn Tryz.f48 rfl Tryz.func48 rfl rfl rfl (Nat.le_of_ble_eq_true rfl)]
  simp [e,h2,h3,hr]
  simp only [if_pos hr]
  simp
set_option maxRecDepth 100000
set_option maxHeartbeats 4000000
structure OC (t:List UInt8) (h d:List Sp):Prop where
 t:t.length≤2000
 h:h.length≤2000
 d:d.length≤2000
theorem OC.w {t:List UInt8} {h d:List Sp} (o:OC t h d):OwB t h d:=⟨by have:=o.t;omega,by have:=o.h;omega,by have:=o.d;omega⟩
theorem cutS_get (d:List Sp) (p:Sp) (j:Nat) (hj:j<48):inF (cutS d p) j=(!inSp j p&&inF d j):=by
 have:=(of_can fun j=>if inSp j p=true then false else d.any (inSp j)).2 j hj
 rw [cutS,this]
 cases inSp j p<;>simp [inF]
theorem OC.ok {t:List UInt8} {h d:List Sp} (e:ownOk t h d=true):OC t h d:=by
 obtain ⟨h1,h2,h3,_⟩:=ownOk_t e
 have:=spsOk_len h2
 have:=spsOk_len h3
 exact ⟨by omega,by omega,by omega⟩
set_option maxRecDepth 100000
set_option maxHeartbeats 4000000
theorem repeatL_dot:∀ n,Lib.repeatL [46] n=List.replicate n 46
 | 0=>rfl
 | n+1=>by rw [Lib.repeatL,repeatL_dot n];rfl
theorem ev_Repeat (m m':M) (k:Nat) (hk:k≤8200000):ev E 172 [.v m false [.str [46]],.v m' false [.int .i64 (k:Int)]]=some { rs:=[.v .own false [.str (List.replicate k 46)]],outs:=[] }:=by
 rw [ev_eq]
 have q0:(0:Int)≤(k:Int):=by omega
 have q4:(k:Int)≤9223372036854775807:=by omega
 have q2:k≤140737488355328:=by omega
 simp [repK,q0,q4,q2,repeatL_dot,leafOut]
def txtOk (s:List UInt8):Bool:=s.all okB&&!ltI 48 s.length
theorem txtOk_len {s:List UInt8} (h:txtOk s=true):s.length≤48:=by
 simp only [txtOk,Bool.and_eq_true,Bool.not_eq_true',ltI_not] at h
 omega
def sizedS (s:List UInt8) (n:Nat):List UInt8:=if ltI s.length n=true then s++List.replicate (n - s.length) 46 else s.take n
theorem ev_sized (m m':M) (s:List UInt8) (n:Nat) (hn:n≤8200000) (hs:s.length≤4000000):ev E 99 [.v m false [.str s],.v m' false [.int .i64 n]]=some { rs:=[.v .own false [.str (sizedS s n)]],outs:=[] }:=by
 rw [ev_fn Tryz.f99 rfl Tryz.func99 rfl rfl rfl (Nat.le_of_ble_eq_true rfl)]
 cases e:ltI s.length n
 ·have h1:=ltI_not.1 e
  have h2:n≤s.length:=by omega
  simp [e,sizedS,h2]
 ·have h1:=ltI_iff.1 e
  have hw:IntKind.i64.wrap ((n:Int) - s.length)=((n - s.length:Nat):Int):=by rw [wrap64]<;>omega
  have q1:n - s.length≤9223372036854775807:=by omega
  have q3:s.length+(n - s.length)≤4611686018427387904:=by omega
  have c:=fun m m'=>ev_Repeat m m' (n - s.length) (by omega)
  generalize hk:n - s.length=k at *
  simp [e,sizedS,hw,c,q3,hk]
def wrS (s:List UInt8) (k:Nat) (x:List UInt8):List UInt8:=(s++List.replicate (k - s.length) 46).take k++x++s.drop (k+x.length)
theorem wrS_sized (s x:List UInt8) (k:Nat):(sizedS s (max s.length (k+x.length))).take k++x++s.drop (min (k+x.length) s.length)=wrS s k x:=by
 unfold wrS sizedS
 congr 1
 ·congr 1
  split
  ·rename_i h
   rw [ltI_iff] at h
   apply List.ext_getElem?
   intro j
   simp only [List.getElem?_take,List.getElem?_append,List.getElem?_replicate]
   grind
  ·rename_i h
   rw [Bool.not_eq_true,ltI_not] at h
   apply List.ext_getElem?
   intro j
   simp only [List.getElem?_take,List.getElem?_append,List.getElem?_replicate]
   grind
 ·apply List.ext_getElem?
  intro j
  simp only [List.getElem?_drop]
  by_cases h:k+x.length≤s.length
  ·rw [Nat.min_eq_left h]
  ·rw [Nat.min_eq_right (by omega),List.getElem?_eq_none (by omega),List.getElem?_eq_none (by omega)]
theorem wrS_len (s x:List UInt8) (k:Nat):(wrS s k x).length=max s.length (k+x.length):=by
 simp [wrS]
 omega
def twS (s:List UInt8) (k:Int) (x:List UInt8):List UInt8 × Bool:=if txtOk s=true then (if wrOk k x=true then (wrS s k.toNat x,true) else (s,false)) else ([],false)
theorem ev_impl_TextWrite (m m' m'':M) (s x:List UInt8) (k:Int) (hs:s.length≤4000000) (hx:x.length≤4000000):ev E 47 [.v m false [.str s],.v m' false [.int .i64 k],.v m'' false [.str x]]=some { rs:=[.v .own false [.str (twS s k x).1],.v .own false [.bool (twS s k x).2]],outs:=[] }:=by
 have c1:∀ m,ev E 98 [.v m false [.str s]]=some (rB (txtOk s)):=fun m=>ev_impl_TextOk m s (by omega)
 have c2:∀ m,ev E 98 [.v m false [.str x]]=some (rB (txtOk x)):=fun m=>ev_impl_TextOk m x (by omega)
 have hwr:wrOk k x=(!ltI k 0&&!ltI 48 k&&txtOk x&&!eqS x []&&!ltI 48 (k+x.length)):=rfl
 by_cases hk:0≤k∧k≤48
 ·obtain ⟨n,rfl⟩:∃ n:Nat,k=n:=⟨k.toNat,by omega⟩
  have f1:ltI n 0=false:=ltI_not.2 (by omega)
  have f2:ltI 48 n=false:=ltI_not.2 (by omega)
  have hw:IntKind.i64.wrap ((n:Int)+x.length)=((n+x.length:Nat):Int):=by rw [wrap64]<;>omega
  have hm:maxI s.length ((n:Int)+x.length)=((max s.length (n+x.length):Nat):Int):=by simp only [maxI,ltI,decide_eq_true_eq];split<;>omega
  have hmi:minI ((n:Int)+x.length) s.length=((min (n+x.length) s.length:Nat):Int):=by simp only [minI,ltI,decide_eq_true_eq];split<;>omega
  have c3:=fun m m'=>ev_sized m m' s (max s.length (n+x.length)) (by omega) hs
  have hl:(sizedS s (max s.length (n+x.length))).length=max s.length (n+x.length):=by
   unfold sizedS
   split
   ·rename_i h;rw [ltI_iff] at h;simp;omega
   ·rename_i h;rw [Bool.not_eq_true,ltI_not] at h;simp;omega
  have hws:=wrS_sized s x n
  generalize sizedS s (max s.length (n+x.length))=z at c3 hl hws
  rw [ev_fn Tryz.f47 rfl Tryz.func47 rfl rfl rfl (Nat.le_of_ble_eq_true rfl)]
  cases e1:txtOk s
  ·simp [c1,e1,twS]
  ·cases e5:eqS x []
   ·cases e4:txtOk x
    ·simp [c1,c2,f1,f2,e1,e4,e5,twS,hwr]
    ·have hx48:=txtOk_len e4
     have hs48:=txtOk_len e1
     have g1:(n:Int)≤(max s.length (n+x.length):Nat):=by omega
     have g2:n≤max s.length (n+x.length):=by omega
     have g3:min (n+x.length) s.length≤s.length:=by omega
     have g4:n+x.length≤4611686018427387904:=by omega
     have g5:n+(x.length+(s.length - min (n+x.length) s.length))≤4611686018427387904:=by omega
     have g6:n+x.length+(s.length - min (n+x.length) s.length)≤4611686018427387904:=by omega
     generalize hmx:max s.length (n+x.length)=mx at *
     generalize hmn:min (n+x.length) s.length=mn at *
     cases e6:ltI 48 (n+x.length)
     ·simp [c1,c2,f1,f2,e1,e4,e5,e6,hw,maxJ,minJ,hm,hmi,c3,hl,twS,hwr,g1,g2,g3,g4,g5,g6,← hws]
     ·simp [c1,c2,f1,f2,e1,e4,e5,e6,hw,twS,hwr]
   ·simp [c1,f1,f2,e1,e5,twS,hwr]
 ·have hb:wrOk k x=false:=by
   rw [hwr]
   by_cases h0:0≤k
   ·rw [(ltI_iff.2 (by omega):ltI 48 k=true)];simp
   ·rw [(ltI_iff.2 (by omega):ltI k 0=true)];simp
  rw [ev_fn Tryz.f47 rfl Tryz.func47 rfl rfl rfl (Nat.le_of_ble_eq_true rfl)]
  cases e1:txtOk s
  ·simp [c1,e1,twS]
  ·cases e2:ltI k 0
   ·have e3:ltI 48 k=true:=ltI_iff.2 (by have:=ltI_not.1 e2;omega)
    simp [c1,e1,e2,e3,twS,hb]
   ·simp [c1,e1,e2,twS,hb]
set_option maxRecDepth 100000
set_option maxHeartbeats 4000000
theorem wrOk_len {k:Int} {x:List UInt8} (h:wrOk k x=true):0≤k∧k+x.length≤48∧0<x.length∧x.all okB=true:=by
 simp only [wrOk,Bool.and_eq_true,Bool.not_eq_true',ltI_not,eqS_not] at h
 have:=List.length_pos_iff.2 h.1.2
 exact ⟨by omega,by omega,this,h.1.1.2.1⟩
theorem txtOk_wr {s:List UInt8} {k:Int} {x:List UInt8} (h1:txtOk s=true) (h2:wrOk k x=true):txtOk (wrS s k.toNat x)=true:=by
 obtain ⟨a1,a2,a3,a4⟩:=wrOk_len h2
 have hs:=txtOk_len h1
 simp only [txtOk,Bool.and_eq_true,Bool.not_eq_true',ltI_not] at h1 ⊢
 refine ⟨?_,by rw [wrS_len];omega⟩
 have h46:okB 46=true:=by decide
 rw [List.all_eq_true] at h1 a4 ⊢
 intro c hc
 simp only [wrS,List.mem_append] at hc
 rcases hc with (hc | hc) | hc
 ·have:=List.mem_of_mem_take hc
  rcases List.mem_append.1 this with hc | hc
  ·exact h1.1 c hc
  ·rw [(List.mem_replicate.1 hc).2];exact h46
 ·exact a4 c hc
 ·exact h1.1 c (List.mem_of_mem_drop hc)
set_option maxRecDepth 100000
set_option maxHeartbeats 4000000
theorem wrS_get (s x:List UInt8) (k i:Nat):(wrS s k x)[i]?=if k≤i∧i<k+x.length then x[i - k]? else if i<s.length then s[i]? else if i<k then some 46 else none:=by
 simp only [wrS,List.getElem?_append,List.getElem?_take,List.getElem?_drop,List.getElem?_replicate,List.length_append,List.length_take,List.length_replicate]
 grind
theorem subS_get (t:List UInt8) (a b i:Nat) (h:a+i<b):(subS t ((a:Int),(b:Int)))[i]?=t[a+i]?:=by
 simp only [subS,List.getElem?_drop,Int.toNat_natCast]
 rw [List.getElem?_take_of_lt h]
theorem bool_pass {a b:Bool} (c:Bool) (h:(a&&b)=false):(b&&(a || c))=(b&&c):=by cases a<;>cases b<;>simp_all
@[simp] theorem eqAgg_patch:eqAgg Tryz.prog 107=true:=by kernel_rfl
end Go.Ev

