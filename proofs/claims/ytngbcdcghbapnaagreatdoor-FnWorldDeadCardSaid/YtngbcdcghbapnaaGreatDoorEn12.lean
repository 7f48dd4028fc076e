/- My texts joined: EvT15, EvT16, EvT17, EvT18, EvT19. No condition. -/
import Derived.Test.YtngbcdcghbapnaaGreatDoorEn1
import Derived.Test.YtngbcdcghbapnaaGreatDoorEn2
import Derived.Test.YtngbcdcghbapnaaGreatDoorEn5
import Derived.Test.YtngbcdcghbapnaaGreatDoorEn6
import Derived.Test.YtngbcdcghbapnaaGreatDoorEn7
import Derived.Test.YtngbcdcghbapnaaGreatDoorEn8
import Derived.Test.YtngbcdcghbapnaaGreatDoorEn9
import Derived.Test.YtngbcdcghbapnaaGreatDoorEn11
set_option linter.unusedVariables false
set_option linter.unusedSimpArgs false

set_option maxRecDepth 100000
set_option maxHeartbeats 4000000
namespace Go.Ev
open Go.Proofs
abbrev rdL (bs:List UInt8) (p:Nat):List L:=[.sl (rowsOfBytes bs),.int .i64 p]
abbrev rdA (bs:List UInt8) (p:Nat):Arg:=.ptr .ro (rdL bs p)
abbrev rdO (bs:List UInt8) (p:Nat):M × List L:=(.ro,rdL bs p)
structure RdB (bs:List UInt8) (p:Nat):Prop where
 b:bs.length≤2000
 p:p≤1099511627776
@[simp] theorem rows_len (bs:List UInt8):(rowsOfBytes bs).length=bs.length:=by simp [rowsOfBytes]
@[simp] theorem rows_getE {bs:List UInt8} {i:Nat} (h:i<(rowsOfBytes bs).length):(rowsOfBytes bs)[i]=[.int .u8 (bs[i]'(by simpa using h)).toNat]:=by simp [rowsOfBytes]
theorem xor64 (a b:Nat) (ha:a<4611686018427387904) (hb:b<4611686018427387904):IntKind.i64.wrap ((BitVec.ofInt IntKind.i64.bits a ^^^ BitVec.ofInt IntKind.i64.bits b).toNat:Int)=((a ^^^ b:Nat):Int):=by
 have h1:(BitVec.ofInt IntKind.i64.bits a ^^^ BitVec.ofInt IntKind.i64.bits b).toNat=a ^^^ b:=by
  have e:IntKind.i64.bits=64:=rfl
  rw [e,BitVec.toNat_xor,BitVec.toNat_ofInt,BitVec.toNat_ofInt]
  congr 1<;>omega
 rw [h1]
 have h2:a ^^^ b<2 ^ 62:=Nat.xor_lt_two_pow (by omega) (by omega)
 rw [wrap64]
 omega
theorem ev_pick (m:M) (bs:List UInt8) (p:Nat) (n:Int) (b:RdB bs p) (hn:n≤1099511627776) :
  ∃ k:Nat,(1≤n→(k:Int)<n)∧ev E 87 [rdA bs p,.v m false [.int .i64 n]]=some { rs:=[.v .own false [.int .i64 k]],outs:=[rdO bs (p+1)] }:=by
 have bb:=b.b
 have bp:=b.p
 have hw:=wrapN p (by omega)
 have hw2:IntKind.i64.wrap (p:Int)=p:=by rw [wrap64];omega
 cases e1:ltI n 1
 ·have hn1:=ltI_not.1 e1
  obtain ⟨N,rfl⟩:∃ N:Nat,n=N:=⟨n.toNat,by omega⟩
  have hN0:eqI (N:Int) 0=false:=eqI_not.2 (by omega)
  by_cases h0:bs.length=0
  ·refine ⟨0,fun _=>by omega,?_⟩
   rw [ev_fn Tryz.f87 rfl Tryz.func87 rfl rfl rfl (Nat.le_of_ble_eq_true rfl)]
   simp [hw,e1,h0]
  ·have e2:eqI bs.length 0=false:=eqI_not.2 (by omega)
   by_cases hlt:p<bs.length
   ·refine ⟨bs[p].toNat % N,fun h=>by
     have:bs[p].toNat % N<N:=Nat.mod_lt _ (by omega)
     omega,?_⟩
    have hbl:bs[p].toNat<256:=bs[p].toNat_lt
    have w3:IntKind.i64.wrap (bs[p].toNat:Int)=bs[p].toNat:=by rw [wrap64];omega
    have w4:((bs[p].toNat:Nat):Int).tmod (N:Int)=((bs[p].toNat % N:Nat):Int):=(Int.ofNat_tmod _ _).symm
    rw [ev_fn Tryz.f87 rfl Tryz.func87 rfl rfl rfl (Nat.le_of_ble_eq_true rfl)]
    simp [hw,hw2,e1,e2,hlt,w3,w4,hN0]
   ·have hlt':bs.length≤p:=by omega
    obtain ⟨q1,hq1⟩:∃ q,q=p % bs.length:=⟨_,rfl⟩
    obtain ⟨q2,hq2⟩:∃ q,q=(p*7+3) % bs.length:=⟨_,rfl⟩
    obtain ⟨q3,hq3⟩:∃ q,q=p / bs.length:=⟨_,rfl⟩
    have hi:q1<bs.length:=by rw [hq1];exact Nat.mod_lt _ (by omega)
    have hj:q2<bs.length:=by rw [hq2];exact Nat.mod_lt _ (by omega)
    have hd:q3≤p:=by rw [hq3];exact Nat.div_le_self _ _
    obtain ⟨A,hA⟩:∃ A,bs[q1].toNat=A:=⟨_,rfl⟩
    obtain ⟨B,hB⟩:∃ B,bs[q2].toNat=B:=⟨_,rfl⟩
    have hAl:A<256:=by rw [← hA];exact UInt8.toNat_lt _
    have hBl:B<256:=by rw [← hB];exact UInt8.toNat_lt _
    obtain ⟨X,hX⟩:∃ X,X=A*131+B*1117+p*29+q3*53:=⟨_,rfl⟩
    obtain ⟨q4,hq4⟩:∃ q,q=X / 64:=⟨_,rfl⟩
    have hq4l:q4≤X:=by rw [hq4];exact Nat.div_le_self _ _
    obtain ⟨Y,hY⟩:∃ Y,Y=X ^^^ q4:=⟨_,rfl⟩
    obtain ⟨Z,hZ⟩:∃ Z,Z=Y % N:=⟨_,rfl⟩
    refine ⟨Z,fun h=>by
     have:Y % N<N:=Nat.mod_lt _ (by omega)
     omega,?_⟩
    have hx:=xor64 X q4 (by omega) (by omega)
    rw [← hY] at hx
    have t1:((p:Nat):Int).tmod (bs.length:Int)=(q1:Int):=by rw [hq1];exact (Int.ofNat_tmod _ _).symm
    have t2:IntKind.i64.wrap ((p:Int)*7)=(p:Int)*7:=by rw [wrap64];omega
    have t3:IntKind.i64.wrap ((p:Int)*7+3)=(p:Int)*7+3:=by rw [wrap64];omega
    have t4:((p:Int)*7+3).tmod (bs.length:Int)=(q2:Int):=by rw [hq2];exact (Int.ofNat_tmod (p*7+3) _).symm
    have t5:IntKind.i64.wrap (A:Int)=A:=by rw [wrap64];omega
    have t6:IntKind.i64.wrap (B:Int)=B:=by rw [wrap64];omega
    have t7:IntKind.i64.wrap ((A:Int)*131)=(A:Int)*131:=by rw [wrap64];omega
    have t8:IntKind.i64.wrap ((B:Int)*1117)=(B:Int)*1117:=by rw [wrap64];omega
    have t9:IntKind.i64.wrap ((A:Int)*131+(B:Int)*1117)=(A:Int)*131+(B:Int)*1117:=by rw [wrap64];omega
    have u1:IntKind.i64.wrap ((p:Int)*29)=(p:Int)*29:=by rw [wrap64];omega
    have u2:IntKind.i64.wrap ((A:Int)*131+(B:Int)*1117+(p:Int)*29)=(A:Int)*131+(B:Int)*1117+(p:Int)*29:=by rw [wrap64];omega
    have u3:((p:Nat):Int).tdiv (bs.length:Int)=(q3:Int):=by rw [hq3];exact (Int.ofNat_tdiv _ _).symm
    have u4:IntKind.i64.wrap (q3:Int)=q3:=by rw [wrap64];omega
    have u5:IntKind.i64.wrap ((q3:Int)*53)=(q3:Int)*53:=by rw [wrap64];omega
    have u6:IntKind.i64.wrap ((A:Int)*131+(B:Int)*1117+(p:Int)*29+(q3:Int)*53)=(X:Int):=by rw [wrap64]<;>omega
    have u7:((X:Nat):Int).tdiv 64=(q4:Int):=by rw [hq4];exact (Int.ofNat_tdiv X 64).symm
    have u8:IntKind.i64.wrap (q4:Int)=q4:=by rw [wrap64];omega
    have u9:((Y:Nat):Int).tmod (N:Int)=(Z:Int):=by rw [hZ];exact (Int.ofNat_tmod _ _).symm
    have hx2:IntKind.i64.wrap ((X ^^^ q4:Nat):Int)=(Y:Int):=by
     have e:(BitVec.ofInt IntKind.i64.bits X ^^^ BitVec.ofInt IntKind.i64.bits q4).toNat=X ^^^ q4:=by
      have e:IntKind.i64.bits=64:=rfl
      rw [e,BitVec.toNat_xor,BitVec.toNat_ofInt,BitVec.toNat_ofInt]
      congr 1<;>omega
     rw [← e];exact hx
    have m1:X % 2 ^ IntKind.i64.bits=X:=Nat.mod_eq_of_lt (by show X<2 ^ 64;omega)
    have m2:q4 % 2 ^ IntKind.i64.bits=q4:=Nat.mod_eq_of_lt (by show q4<2 ^ 64;omega)
    rw [ev_fn Tryz.f87 rfl Tryz.func87 rfl rfl rfl (Nat.le_of_ble_eq_true rfl)]
    simp [m1,m2,hw,hw2,e1,e2,hlt',hN0,hi,hj,hA,hB,t1,t2,t3,t4,t5,t6,t7,t8,t9,u1,u2,u3,u4,u5,u6,u7,u8,u9,hx,hx2,eqI_false]
 ·refine ⟨0,fun h=>by have:=ltI_iff.1 e1;omega,?_⟩
  rw [ev_fn Tryz.f87 rfl Tryz.func87 rfl rfl rfl (Nat.le_of_ble_eq_true rfl)]
  simp [hw,e1]
theorem ev_num (m:M) (bs:List UInt8) (p:Nat) (xs:List Int) (b:RdB bs p) (hx:0<xs.length) (hx2:xs.length≤4000000) :
  ∃ v∈xs,ev E 121 [rdA bs p,.v m false [.sl (xs.map fun x=>[L.int .i64 x])]]=some { rs:=[.v .own false [.int .i64 v]],outs:=[rdO bs (p+1)] }:=by
 obtain ⟨k,hk,hc⟩:=ev_pick .ro bs p xs.length b (by omega)
 have hk:=hk (by omega)
 have hkl:k<xs.length:=by omega
 refine ⟨xs[k],List.getElem_mem hkl,?_⟩
 rw [ev_fn Tryz.f121 rfl Tryz.func121 rfl rfl rfl (Nat.le_of_ble_eq_true rfl)]
 simp [hc,hkl]
theorem ev_ofS (m:M) (bs:List UInt8) (p:Nat) (xs:List (List UInt8)) (b:RdB bs p) (hx:0<xs.length) (hx2:xs.length≤4000000) :
  ∃ v∈xs,ev E 129 [rdA bs p,.v m false [.sl (xs.map fun x=>[L.str x])]]=some { rs:=[.v .own false [.str v]],outs:=[rdO bs (p+1)] }:=by
 obtain ⟨k,hk,hc⟩:=ev_pick .ro bs p xs.length b (by omega)
 have hk:=hk (by omega)
 have hkl:k<xs.length:=by omega
 refine ⟨xs[k],List.getElem_mem hkl,?_⟩
 rw [ev_fn Tryz.f129 rfl Tryz.func129 rfl rfl rfl (Nat.le_of_ble_eq_true rfl)]
 simp [hc,hkl]
set_option maxRecDepth 100000
set_option maxHeartbeats 4000000
theorem RdB.add {bs:List UInt8} {p q:Nat} (b:RdB bs p) (h:p+q≤1099511627776):RdB bs (p+q):=⟨b.b,h⟩
theorem ev_l1Span (bs:List UInt8) (p:Nat) (b:RdB bs p) (hp:p+2≤1099511627776) :
  ∃ s:Sp,(0≤s.1∧s.1<s.2∧s.2≤48)∧ev E 128 [rdA bs p]=some { rs:=[.v .own true (spL s)],outs:=[rdO bs (p+2)] }:=by
 obtain ⟨k,hk,c1⟩:=ev_pick .ro bs p 47 b (by omega)
 have hk:=hk (by omega)
 obtain ⟨v,hv,c2⟩:=ev_num .tn bs (p+1) [0,1,3,5,9,20,47] (b.add (by omega)) (by simp) (by simp)
 have hv2:0≤v∧v≤47:=by
  simp at hv
  omega
 have w1:IntKind.i64.wrap ((k:Int)+1)=(k:Int)+1:=by rw [wrap64];omega
 have w2:IntKind.i64.wrap ((k:Int)+1+v)=(k:Int)+1+v:=by rw [wrap64];omega
 have c3:=fun m m'=>ev_spec_l1Min m m' 48 ((k:Int)+1+v)
 refine ⟨((k:Int),minI 48 ((k:Int)+1+v)),⟨by dsimp only;omega,?_,?_⟩,?_⟩
 ·dsimp only [minI];split<;>omega
 ·dsimp only [minI];split<;>rename_i h<;>simp [ltI] at h<;>omega
 ·simp at c2
  rw [ev_fn Tryz.f128 rfl Tryz.func128 rfl rfl rfl (Nat.le_of_ble_eq_true rfl)]
  simp [c1,c2,c3,w1,w2]
set_option maxRecDepth 100000
set_option maxHeartbeats 4000000
abbrev adp (i:Nat):AV:=.ad (.p i) 0 0 0 []
abbrev rdH (bs:List UInt8) (p:Nat):Root × HC:=bxm (.p 0) .ro (rdL bs p)
theorem lp_l6Fit (bs:List UInt8) (hb:bs.length≤2000) (lo hi:Int) (h1:0≤lo) (h2:lo≤hi) (h3:hi≤48) (a:Code) (ha:a=lp Tryz.f192 0):∀ (n p:Nat) (m0:M) (out:List UInt8),out.length+n=(hi - lo).toNat→p+n≤1099511627776 →
  ∃ m' x,x.length=(hi - lo).toNat∧loopC E (ev E) 192 a { V:=[(0,adp 0),(3,adc 3),(5,.v m0 false [.str out])],H:=[rdH bs p,bx (.c 3) [.int .i64 lo,.int .i64 hi]],ps:=[0] } =
   some (.exit 0,{ V:=[(0,adp 0),(3,adc 3),(5,.v m' false [.str x]),(13,vb false)],H:=[rdH bs (p+n),bx (.c 3) [.int .i64 lo,.int .i64 hi]],ps:=[0] })
 | 0,p,m0,out,h,hp=>by
  refine ⟨m0,out,by omega,?_⟩
  have hw:IntKind.i64.wrap (hi - lo)=hi - lo:=by rw [wrap64];omega
  have hle:hi - lo≤(out.length:Int):=by omega
  rw [loopC_of _ _ _ _ ha]
  simp [lp,loopsOf,Tryz.f192,hw,hle]
 | n+1,p,m0,out,h,hp=>by
  obtain ⟨v,hv,c⟩:=ev_ofS .tn bs p [[97],[98],[99],[55],[46]] ⟨hb,by omega⟩ (by simp) (by simp)
  have hvl:v.length=1:=by simp at hv;rcases hv with rfl | rfl | rfl | rfl | rfl<;>rfl
  obtain ⟨m',x,hx,ih⟩:=lp_l6Fit bs hb lo hi h1 h2 h3 a ha n (p+1) .ro (out++v) (by simp [hvl];omega) (by omega)
  refine ⟨m',x,hx,?_⟩
  have hw:IntKind.i64.wrap (hi - lo)=hi - lo:=by rw [wrap64];omega
  have hlt:(out.length:Int)<hi - lo:=by omega
  have hsz:out.length+v.length≤4611686018427387904:=by omega
  simp at c
  rw [loopC_of _ _ _ _ ha]
  clear ha
  simp [lp,loopsOf,Tryz.f192,hw,hlt,c,hsz]
  simp only [show p+1+n=p+(n+1) by omega] at ih
  simpa using ih
theorem ev_l6Fit (bs:List UInt8) (p:Nat) (m:M) (s:Sp) (b:RdB bs p) (h1:0≤s.1) (h2:s.1≤s.2) (h3:s.2≤48) (hp:p+48≤1099511627776) :
  ∃ x:List UInt8,x.length=(s.2 - s.1).toNat∧ev E 192 [rdA bs p,.v m true (spL s)]=some { rs:=[.v .own false [.str x]],outs:=[rdO bs (p+(s.2 - s.1).toNat)] }:=by
 obtain ⟨m',x,hx,hl⟩:=lp_l6Fit bs b.b s.1 s.2 h1 h2 h3 _ rfl (s.2 - s.1).toNat p .ro [] (by simp) (by omega)
 refine ⟨x,hx,?_⟩
 rw [ev_fn Tryz.f192 rfl Tryz.func192 rfl rfl rfl (Nat.le_of_ble_eq_true rfl)]
 simp
 rw [loopC_at ?_ hl]
 ·simp
 ·rfl
theorem lp_l2Text (mm:M) (bs:List UInt8) (hb:bs.length≤2000) (a:Code) (ha:a=lp Tryz.f194 0):∀ (n p:Nat) (m0 m1:M) (out:List UInt8),n≤100→out.length+n≤1000→p+n≤1099511627776 →
  ∃ m' m'' x,x.length=out.length+n∧loopC E (ev E) 194 a { V:=[(0,adp 0),(5,.v m0 false [.str out]),(6,.v m1 false [.int .i64 n])],H:=[rdH bs p],ps:=[0] } =
   some (.exit 0,{ V:=[(0,adp 0),(5,.v m' false [.str x]),(6,.v m'' false [.int .i64 0]),(12,vb false)],H:=[rdH bs (p+n)],ps:=[0] })
 | 0,p,m0,m1,out,hn,ho,hp=>by
  refine ⟨m0,m1,out,by omega,?_⟩
  rw [loopC_of _ _ _ _ ha]
  simp [lp,loopsOf,Tryz.f194]
 | n+1,p,m0,m1,out,hn,ho,hp=>by
  obtain ⟨v,hv,c⟩:=ev_ofS .tn bs p [[97],[98],[99],[55],[46],[122]] ⟨hb,by omega⟩ (by simp) (by simp)
  have hvl:v.length=1:=by simp at hv;rcases hv with rfl | rfl | rfl | rfl | rfl | rfl<;>rfl
  have hsz:out.length+v.length≤4611686018427387904:=by omega
  have hol:(out++v).length=out.length+1:=by simp [hvl]
  obtain ⟨m',m'',x,hx,ih⟩:=lp_l2Text mm bs hb a ha n (p+1) .ro .ro (out++v) (by omega) (by omega) (by omega)
  refine ⟨m',m'',x,by omega,?_⟩
  have hw:IntKind.i64.wrap (n:Int)=n:=by rw [wrap64];omega
  have hlt:(0:Int)<(n:Int)+1:=by omega
  simp at c
  rw [loopC_of _ _ _ _ ha]
  clear ha
  simp [lp,loopsOf,Tryz.f194,hw,hlt,c,hsz]
  simp only [show p+1+n=p+(n+1) by omega] at ih
  simpa using ih
theorem ev_l2Text (m:M) (bs:List UInt8) (p:Nat) (N:Nat) (hN:N≤90) (b:RdB bs p) (hp:p+100≤1099511627776) :
  ∃ (x:List UInt8) (q:Nat),x.length≤100∧q≤100∧ev E 194 [rdA bs p,.v m false [.int .i64 N]]=some { rs:=[.v .own false [.str x]],outs:=[rdO bs (p+q)] }:=by
 obtain ⟨k,hk,c1⟩:=ev_pick .ro bs p ((N:Int)+1) b (by omega)
 have hk:=hk (by omega)
 obtain ⟨m',m'',x,hx,hl⟩:=lp_l2Text .ro bs b.b _ rfl k (p+1) .ro .own [] (by omega) (by simp;omega) (by omega)
 have hw:=wrapN N (by omega)
 refine ⟨x,1+k,by simp at hx;omega,by omega,?_⟩
 rw [ev_fn Tryz.f194 rfl Tryz.func194 rfl rfl rfl (Nat.le_of_ble_eq_true rfl)]
 simp [hw,c1]
 rw [loopC_at ?_ hl]
 ·simp
  omega
 ·rfl
theorem ev_l2Data (bs:List UInt8) (p:Nat) (b:RdB bs p) (hp:p+200≤1099511627776) :
  ∃ (x:List UInt8) (q:Nat),x.length≤200∧q≤200∧ev E 135 [rdA bs p]=some { rs:=[.v .own false [.str x]],outs:=[rdO bs (p+q)] }:=by
 obtain ⟨k,hk,c1⟩:=ev_pick .ro bs p 24 b (by omega)
 have b1:RdB bs (p+1):=b.add (by omega)
 by_cases hk0:k=0
 ·subst hk0
  have c2:=fun m m'=>ev_l2Long m m' [97] 49 (by omega) (by simp)
  obtain ⟨v,hv,c3⟩:=ev_ofS .tn bs (p+1) [[],[65],[97,32,98],97::List.replicate 48 46] b1 (by simp) (by simp)
  refine ⟨v,2,?_,by omega,?_⟩
  ·simp only [List.mem_cons,List.not_mem_nil,or_false] at hv
   rcases hv with rfl | rfl | rfl | rfl<;>simp
  ·simp at c2 c3
   rw [ev_fn Tryz.f135 rfl Tryz.func135 rfl rfl rfl (Nat.le_of_ble_eq_true rfl)]
   simp [c1,c2,c3]
 ·have e:eqI k 0=false:=eqI_not.2 (by omega)
  obtain ⟨v,hv,c3⟩:=ev_ofS .tn bs (p+1) [[120],[120,121],[113,57,46],[48,49,50,51,52,53,54],[109]] b1 (by simp) (by simp)
  have hvl:v.length≤7:=by
   simp only [List.mem_cons,List.not_mem_nil,or_false] at hv
   rcases hv with rfl | rfl | rfl | rfl | rfl<;>simp
  obtain ⟨x,q,hx,hq,c4⟩:=ev_l2Text .ro bs (p+1+1) 6 (by omega) (b.add (q:=2) (by omega)) (by omega)
  refine ⟨v++x,2+q,by simp;omega,by omega,?_⟩
  have hsz:v.length+x.length≤4611686018427387904:=by omega
  push_cast at c4
  simp at c3
  rw [ev_fn Tryz.f135 rfl Tryz.func135 rfl rfl rfl (Nat.le_of_ble_eq_true rfl)]
  simp [c1,c3,c4,e,hsz]
  omega
set_option maxRecDepth 100000
set_option maxHeartbeats 4000000
theorem ev_l1SomeB (bs:List UInt8) (p:Nat) (b:RdB bs p) (hp:p+3≤1099511627776) :
  ∃ s:Sp,((-9223372036854775808≤s.1∧s.1≤9223372036854775807)∧-9223372036854775808≤s.2∧s.2≤9223372036854775807)∧ev E 134 [rdA bs p]=some { rs:=[.v .own true (spL s)],outs:=[rdO bs (p+3)] }:=by
 obtain ⟨s,hs,c1⟩:=ev_l1Span bs p b (by omega)
 obtain ⟨k,hk,c2⟩:=ev_pick .ro bs (p+2) 48 ⟨b.b,by omega⟩ (by omega)
 by_cases k0:k=0
 ·subst k0
  refine ⟨(s.1,s.1),by dsimp only;omega,?_⟩
  rw [ev_fn Tryz.f134 rfl Tryz.func134 rfl rfl rfl (Nat.le_of_ble_eq_true rfl)]
  simp [c1,c2]
 ·have e0:eqI k 0=false:=eqI_not.2 (by omega)
  by_cases k1:k=1
  ·subst k1
   refine ⟨(-1,s.2),by dsimp only;omega,?_⟩
   push_cast at c2
   rw [ev_fn Tryz.f134 rfl Tryz.func134 rfl rfl rfl (Nat.le_of_ble_eq_true rfl)]
   simp [c1,c2,eqI]
  ·have e1:eqI k 1=false:=eqI_not.2 (by omega)
   by_cases k2:k=2
   ·subst k2
    refine ⟨(s.1,49),by dsimp only;omega,?_⟩
    push_cast at c2
    rw [ev_fn Tryz.f134 rfl Tryz.func134 rfl rfl rfl (Nat.le_of_ble_eq_true rfl)]
    simp [c1,c2,eqI]
   ·have e2:eqI k 2=false:=eqI_not.2 (by omega)
    by_cases k3:k=3
    ·subst k3
     refine ⟨(9223372036854775807,-9223372036854775808),by dsimp only;omega,?_⟩
     push_cast at c2
     rw [ev_fn Tryz.f134 rfl Tryz.func134 rfl rfl rfl (Nat.le_of_ble_eq_true rfl)]
     simp [c1,c2,eqI]
    ·have e3:eqI k 3=false:=eqI_not.2 (by omega)
     refine ⟨s,by omega,?_⟩
     rw [ev_fn Tryz.f134 rfl Tryz.func134 rfl rfl rfl (Nat.le_of_ble_eq_true rfl)]
     simp [c1,c2,e0,e1,e2,e3]
theorem ev_l1Some (bs:List UInt8) (p:Nat) (b:RdB bs p) (hp:p+3≤1099511627776) :
  ∃ s:Sp,ev E 134 [rdA bs p]=some { rs:=[.v .own true (spL s)],outs:=[rdO bs (p+3)] }:=by
 obtain ⟨s,_,h⟩:=ev_l1SomeB bs p b hp
 exact ⟨s,h⟩
theorem lp_l1List0 (bs:List UInt8) (hb:bs.length≤2000) (a:Code) (ha:a=lp Tryz.f234 0):∀ (n p:Nat) (m0:M) (out:List Sp),n≤100→out.length≤48→p+5*n≤1099511627776 →
  ∃ (m':M) (q:Nat) (x:List Sp),x.length≤48∧q≤5*n∧loopC E (ev E) 234 a { V:=[(0,adp 0),(3,at1 3),(4,.v m0 false [.int .i64 n])],H:=[rdH bs p,ow (.c 3) [.sl (out.map spL)]],ps:=[0] } =
   some (.exit 0,{ V:=[(0,adp 0),(3,at1 3),(4,.v m' false [.int .i64 0]),(12,vb false)],H:=[rdH bs (p+q),ow (.c 3) [.sl (x.map spL)]],ps:=[0] })
 | 0,p,m0,out,hn,ho,hp=>by
  refine ⟨m0,0,out,by omega,by omega,?_⟩
  rw [loopC_of _ _ _ _ ha]
  simp [lp,loopsOf,Tryz.f234]
 | n+1,p,m0,out,hn,ho,hp=>by
  have b:RdB bs p:=⟨hb,by omega⟩
  obtain ⟨s,hs,c1⟩:=ev_l1Span bs p b (by omega)
  have c2:∀ m m',ev E 238 [.v m false [.sl (out.map spL)],.v m' true (spL s)]=some { rs:=[.v .own false [.sl ((addS out s).map spL)]],outs:=[] }:=fun m m'=>ev_spec_l1Add m m' out s (by omega) (by omega) (by omega) (by omega)
  have hl2:=addS_len out s
  obtain ⟨k,hk,c3⟩:=ev_pick .ro bs (p+2) 3 ⟨b.b,by omega⟩ (by omega)
  have hw:IntKind.i64.wrap (n:Int)=n:=by rw [wrap64];omega
  have hlt:(0:Int)<(n:Int)+1:=by omega
  by_cases k0:k=0
  ·subst k0
   obtain ⟨s',hs',c4⟩:=ev_l1Span bs (p+2+1) ⟨b.b,by omega⟩ (by omega)
   have c5:∀ m m',ev E 236 [.v m false [.sl ((addS out s).map spL)],.v m' true (spL s')]=some { rs:=[.v .own false [.sl ((cutS (addS out s) s').map spL)]],outs:=[] }:=fun m m'=>ev_spec_l1Cut m m' (addS out s) s' (by omega) (by omega) (by omega) (by omega)
   have hl3:=cutS_len (addS out s) s'
   have c6:=fun m=>ev_spec_SpansOk m (cutS (addS out s) s') (by omega)
   cases e:spsOk (cutS (addS out s) s')
   ·obtain ⟨m',q,x,hx,hq,ih⟩:=lp_l1List0 bs hb a ha n (p+5) .ro out (by omega) (by omega) (by omega)
    refine ⟨m',q+5,x,hx,by omega,?_⟩
    rw [loopC_of _ _ _ _ ha]
    clear ha
    simp [lp,loopsOf,Tryz.f234,hw,hlt,c1,c2,c3,c4,c5,c6,e]
    simp only [show p+5+q=p+(q+5) by omega] at ih
    simpa using ih
   ·obtain ⟨m',q,x,hx,hq,ih⟩:=lp_l1List0 bs hb a ha n (p+5) .ro (cutS (addS out s) s') (by omega) (by omega) (by omega)
    refine ⟨m',q+5,x,hx,by omega,?_⟩
    rw [loopC_of _ _ _ _ ha]
    clear ha
    simp [lp,loopsOf,Tryz.f234,hw,hlt,c1,c2,c3,c4,c5,c6,e]
    simp only [show p+5+q=p+(q+5) by omega] at ih
    simpa using ih
  ·have e0:eqI k 0=false:=eqI_not.2 (by omega)
   have c6:=fun m=>ev_spec_SpansOk m (addS out s) (by omega)
   cases e:spsOk (addS out s)
   ·obtain ⟨m',q,x,hx,hq,ih⟩:=lp_l1List0 bs hb a ha n (p+3) .ro out (by omega) (by omega) (by omega)
    refine ⟨m',q+3,x,hx,by omega,?_⟩
    rw [loopC_of _ _ _ _ ha]
    clear ha
    simp [lp,loopsOf,Tryz.f234,hw,hlt,c1,c2,c3,c6,e,e0]
    simp only [show p+3+q=p+(q+3) by omega] at ih
    simpa using ih
   ·obtain ⟨m',q,x,hx,hq,ih⟩:=lp_l1List0 bs hb a ha n (p+3) .ro (addS out s) (by omega) (by omega) (by omega)
    refine ⟨m',q+3,x,hx,by omega,?_⟩
    rw [loopC_of _ _ _ _ ha]
    clear ha
    simp [lp,loopsOf,Tryz.f234,hw,hlt,c1,c2,c3,c6,e,e0]
    simp only [show p+3+q=p+(q+3) by omega] at ih
    simpa using ih
set_option maxRecDepth 100000
set_option maxHeartbeats 4000000
theorem lp_l1List1 (bs:List UInt8) (hb:bs.length≤2000) (a:Code) (ha:a=lp Tryz.f234 1):∀ (n i p:Nat) (out:List Sp),i+n=12→out.length=i→p+n+1≤1099511627776 →
  ∃ (q:Nat) (x:List Sp) (k:Nat),x.length≤12∧q≤n+1∧loopC E (ev E) 234 a { V:=[(0,adp 0),(3,at1 3),(6,vi i)],H:=[rdH bs p,ow (.c 3) [.sl (out.map spL)]],ps:=[0] } =
   some (.exit 2,{ V:=[(0,adp 0),(3,at1 3),(6,vi k),(37,vb false)],H:=[rdH bs (p+q),ow (.c 3) [.sl (x.map spL)]],ps:=[0] })
 | n,i,p,out,hn,ho,hp=>by
  obtain ⟨k,hk,c1⟩:=ev_pick .ro bs p 2 ⟨hb,by omega⟩ (by omega)
  have hk:=hk (by omega)
  have hw:IntKind.i64.wrap (12 - (k:Int))=12 - (k:Int):=by rw [wrap64];omega
  by_cases hlt:(i:Int)<12 - (k:Int)
  ·match n,hn,hp with
   | 0,hn,hp=>omega
   | n+1,hn,hp =>
    obtain ⟨q,x,k',hx,hq,ih⟩:=lp_l1List1 bs hb a ha n (i+1) (p+1) (out++[((3:Int)*i,(3:Int)*i+1)]) (by omega) (by simp;omega) (by omega)
    refine ⟨q+1,x,k',hx,by omega,?_⟩
    have w1:=wrapN i (by omega)
    have w2:IntKind.i64.wrap (3*(i:Int))=3*(i:Int):=by rw [wrap64];omega
    have w3:IntKind.i64.wrap (3*(i:Int)+1)=3*(i:Int)+1:=by rw [wrap64];omega
    have hsz:(i+1)*16≤17592186044416:=by omega
    have hsz2:i+1≤17592186044416:=by omega
    rw [loopC_of _ _ _ _ ha]
    clear ha
    simp [lp,loopsOf,Tryz.f234,c1,hw,hlt,w1,w2,w3,ho,hsz,hsz2]
    simp only [show p+1+q=p+(q+1) by omega] at ih
    simpa using ih
  ·refine ⟨1,out,i,by omega,by omega,?_⟩
   have hle:12 - (k:Int)≤(i:Int):=by omega
   rw [loopC_of _ _ _ _ ha]
   simp [lp,loopsOf,Tryz.f234,c1,hw,hle]
theorem ev_l1List (bs:List UInt8) (p:Nat) (b:RdB bs p) (hp:p+100≤1099511627776) :
  ∃ (q:Nat) (x:List Sp),x.length≤48∧q≤100∧ev E 234 [rdA bs p]=some { rs:=[.v .own false [.sl (x.map spL)]],outs:=[rdO bs (p+q)] }:=by
 obtain ⟨v,hv,c1⟩:=ev_num .tn bs p [1,2,3,5,0,9] b (by simp) (by simp)
 obtain ⟨N,rfl⟩:∃ N:Nat,v=N:=⟨v.toNat,by simp at hv;omega⟩
 have hN:N≤9:=by simp at hv;omega
 obtain ⟨m',q,x,hx,hq,hl⟩:=lp_l1List0 bs b.b _ rfl N (p+1) .own [] (by omega) (by simp) (by omega)
 obtain ⟨k,hk,c2⟩:=ev_pick .ro bs (p+1+q) 10 ⟨b.b,by omega⟩ (by omega)
 simp at c1 hl
 by_cases k0:k=0
 ·subst k0
  obtain ⟨q',x',k',hx',hq',hl'⟩:=lp_l1List1 bs b.b _ rfl 12 0 (p+1+q+1) [] (by omega) (by simp) (by omega)
  refine ⟨q+q'+2,x',by omega,by omega,?_⟩
  push_cast at hl'
  rw [List.map_nil] at hl'
  rw [ev_fn Tryz.f234 rfl Tryz.func234 rfl rfl rfl (Nat.le_of_ble_eq_true rfl)]
  simp [c1]
  rw [loopC_at ?_ hl]
  ·simp [c2]
   rw [loopC_at ?_ hl']
   ·simp
    omega
   ·rfl
  ·rfl
 ·have e0:eqI k 0=false:=eqI_not.2 (by omega)
  refine ⟨q+2,x,by omega,by omega,?_⟩
  rw [ev_fn Tryz.f234 rfl Tryz.func234 rfl rfl rfl (Nat.le_of_ble_eq_true rfl)]
  simp [c1]
  rw [loopC_at ?_ hl]
  ·simp [c2,e0]
   omega
  ·rfl
end Go.Ev

