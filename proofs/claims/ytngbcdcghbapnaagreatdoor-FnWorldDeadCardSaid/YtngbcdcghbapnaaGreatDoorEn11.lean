/- My texts joined: EvT13, EvT24, EvT14. No condition. -/
import Derived.Test.YtngbcdcghbapnaaGreatDoorEn1
import Derived.Test.YtngbcdcghbapnaaGreatDoorEn2
import Derived.Test.YtngbcdcghbapnaaGreatDoorEn5
import Derived.Test.YtngbcdcghbapnaaGreatDoorEn6
import Derived.Test.YtngbcdcghbapnaaGreatDoorEn7
import Derived.Test.YtngbcdcghbapnaaGreatDoorEn8
import Derived.Test.YtngbcdcghbapnaaGreatDoorEn9
import Derived.Test.YtngbcdcghbapnaaGreatDoorEn10
set_option linter.unusedVariables false
set_option linter.unusedSimpArgs false

set_option maxRecDepth 100000
set_option maxHeartbeats 4000000
namespace Go.Ev
open Go.Proofs
theorem ownOk_t {t:List UInt8} {h d:List Sp} (e:ownOk t h d=true):t.length=48∧spsOk h=true∧spsOk d=true∧t.all okB=true:=by
 simp only [ownOk,Bool.and_eq_true,eqI_iff] at e
 exact ⟨by omega,e.1.1.2,e.1.2,e.1.1.1.1⟩
theorem overS_len (s x:List UInt8) (p:Sp) (h1:0≤p.1) (h2:p.1≤p.2) (h4:p.2≤s.length):(overS s p x).length=s.length - (p.2.toNat - p.1.toNat)+x.length:=by
 simp only [overS,List.length_append,List.length_take,List.length_drop]
 omega
def dropS (t:List UInt8) (h d:List Sp) (p:Sp):Out :=
 if ownOk t h d=true then
  if spOk p=true then
   if ltI 0 (patF t p d).length=true then rOB t h d false
   else if ownOk (overS t p (List.replicate (p.2 - p.1).toNat 46)) (cutS h p) d=true then rOB (overS t p (List.replicate (p.2 - p.1).toNat 46)) (cutS h p) d true else rOB t h d false
  else rOB t h d false
 else rOB [] [] [] false
theorem ev_spec_OwnDrop (m m':M) (hm:m.isOwn=false) (t:List UInt8) (h d:List Sp) (p:Sp) (b:OwB t h d) :
  ev E 190 [.v m true (owL t h d),.v m' true (spL p)]=some (dropS t h d p):=by
 have bt:=b.t
 have bh:=b.h
 have bd:=b.d
 have c1:=fun m hm=>ev_spec_OwnOk m hm t h d (by omega) (by omega) (by omega)
 have c2:=fun m=>ev_spec_SpanOk m p
 have c3:=fun m hm=>ev_l6Copy m hm t h d (by omega) (by omega)
 rw [ev_fn Tryz.f190 rfl Tryz.func190 rfl rfl rfl (Nat.le_of_ble_eq_true rfl)]
 cases e1:ownOk t h d
 ·simp [c1,e1,hm,dropS]
 ·obtain ⟨ht,hsh,hsd,_⟩:=ownOk_t e1
  cases e2:spOk p
  ·simp [c1,c2,c3,e1,e2,hm,dropS]
  ·have hp:=spOk_iff.1 e2
   have c4:=fun m m' hm=>ev_l6Patches m m' hm t h d p ht (spsOk_sp hsd) hp (by omega)
   cases e4:ltI 0 (patF t p d).length
   ·have c5:∀ m m',ev E 236 [.v m false [.sl (h.map spL)],.v m' true (spL p)]=some { rs:=[.v .own false [.sl ((cutS h p).map spL)]],outs:=[] }:=fun m m'=>ev_spec_l1Cut m m' h p (by omega) (by omega) (by omega) (by omega)
    have hl:=cutS_len h p
    have hN:(p.2 - p.1).toNat≤48:=by omega
    have hw:IntKind.i64.wrap (p.2 - p.1)=(((p.2 - p.1).toNat:Nat):Int):=by rw [wrap64]<;>omega
    have c6:=fun m=>ev_l6Blank m (p.2 - p.1).toNat (by omega)
    generalize hNN:(p.2 - p.1).toNat=N at *
    have c7:=fun m m' m''=>ev_l6Over m m' m'' t (List.replicate N 46) p (by omega) (by omega) (by omega) (by omega) (by omega) (by simp;omega)
    have hol:=overS_len t (List.replicate N 46) p (by omega) (by omega) (by omega)
    rw [List.length_replicate] at hol
    generalize htt:overS t p (List.replicate N 46)=t' at *
    have c8:=fun m m' hm hm'=>ev_l6Put m m' hm hm' t h d t' (cutS h p) d (by omega) (by omega) (by omega) (by omega) (by omega)
    cases e3:ownOk t' (cutS h p) d<;>simp [c1,c2,c3,c4,c5,c6,c7,c8,e1,e2,e3,e4,hm,hw,dropS,hNN,htt]
   ·simp [c1,c2,c3,c4,e1,e2,e4,hm,dropS]
def wrOk (k:Int) (x:List UInt8):Bool:=!ltI k 0&&!ltI 48 k&&(x.all okB&&!ltI 48 x.length)&&!eqS x []&&!ltI 48 (k+x.length)
def writeS (t:List UInt8) (h d:List Sp) (k:Int) (x:List UInt8):Out :=
 if ownOk t h d=true then
  if wrOk k x=true then
   if ownOk (overS t (k,k+x.length) x) (addS h (k,k+x.length)) (addS d (k,k+x.length))=true then rOB (overS t (k,k+x.length) x) (addS h (k,k+x.length)) (addS d (k,k+x.length)) true else rOB t h d false
  else rOB t h d false
 else rOB [] [] [] false
theorem ev_spec_OwnWrite (m m' m'':M) (hm:m.isOwn=false) (t:List UInt8) (h d:List Sp) (k:Int) (x:List UInt8) (b:OwB t h d) (hx:x.length≤4000000) :
  ev E 193 [.v m true (owL t h d),.v m' false [.int .i64 k],.v m'' false [.str x]]=some (writeS t h d k x):=by
 have bt:=b.t
 have bh:=b.h
 have bd:=b.d
 have c1:=fun m hm=>ev_spec_OwnOk m hm t h d (by omega) (by omega) (by omega)
 have c2:=fun m=>ev_spec_TextOk m x (by omega)
 have c3:=fun m hm=>ev_l6Copy m hm t h d (by omega) (by omega)
 rw [ev_fn Tryz.f193 rfl Tryz.func193 rfl rfl rfl (Nat.le_of_ble_eq_true rfl)]
 cases e1:ownOk t h d
 ·simp [c1,e1,hm,writeS]
 ·obtain ⟨ht,hsh,hsd,_⟩:=ownOk_t e1
  cases e2:ltI k 0
  ·cases e3:ltI 48 k
   ·cases e4:(x.all okB&&!ltI 48 x.length)
    ·simp [c1,c2,c3,e1,e2,e3,e4,hm,writeS,wrOk,-Bool.and_eq_false_imp,-List.all_eq_true,-List.all_eq_false]
    ·cases e5:eqS x []
     ·have hk1:=ltI_not.1 e2
      have hk2:=ltI_not.1 e3
      have hx2:x.length≤48:=by
       simp only [Bool.and_eq_true,Bool.not_eq_true',ltI_not] at e4
       omega
      have hw:IntKind.i64.wrap (k+x.length)=k+x.length:=by rw [wrap64]<;>omega
      cases e6:ltI 48 (k+x.length)
      ·have hk3:=ltI_not.1 e6
       have hne:x≠[]:=eqS_not.1 e5
       have hpos:0<x.length:=List.length_pos_iff.2 hne
       have c5:∀ m m',ev E 238 [.v m false [.sl (h.map spL)],.v m' true (spL (k,k+x.length))]=some { rs:=[.v .own false [.sl ((addS h (k,k+x.length)).map spL)]],outs:=[] }:=fun m m'=>ev_spec_l1Add m m' h (k,k+x.length) (by omega) (by dsimp only;omega) (by dsimp only;omega) (by dsimp only;omega)
       have c6:∀ m m',ev E 238 [.v m false [.sl (d.map spL)],.v m' true (spL (k,k+x.length))]=some { rs:=[.v .own false [.sl ((addS d (k,k+x.length)).map spL)]],outs:=[] }:=fun m m'=>ev_spec_l1Add m m' d (k,k+x.length) (by omega) (by dsimp only;omega) (by dsimp only;omega) (by dsimp only;omega)
       have hl1:=addS_len h (k,k+x.length)
       have hl2:=addS_len d (k,k+x.length)
       have c7:=fun m m' m''=>ev_l6Over m m' m'' t x (k,k+x.length) (by dsimp only;omega) (by dsimp only;omega) (by dsimp only;omega) (by dsimp only;omega) (by omega) (by omega)
       have hol:=overS_len t x (k,k+x.length) (by dsimp only;omega) (by dsimp only;omega) (by dsimp only;omega)
       have c8:=fun m m' hm hm'=>ev_l6Put m m' hm hm' t h d (overS t (k,k+x.length) x) (addS h (k,k+x.length)) (addS d (k,k+x.length)) (by omega) (by omega) (by rw [hol];omega) (by omega) (by omega)
       simp only [spL] at c5 c6 c7
       cases e7:ownOk (overS t (k,k+x.length) x) (addS h (k,k+x.length)) (addS d (k,k+x.length)) <;>
        simp [c1,c2,c3,c5,c6,c7,e1,e2,e3,e4,e5,e6,e7,hw,hm,writeS,wrOk,-Bool.and_eq_false_imp,-List.all_eq_true,-List.all_eq_false,-Bool.and_eq_true]
       all_goals (rw [c8 m .tn hm rfl];simp [e7])
      ·simp [c1,c2,c3,e1,e2,e3,e4,e5,e6,hw,hm,writeS,wrOk,-Bool.and_eq_false_imp,-List.all_eq_true,-List.all_eq_false,-Bool.and_eq_true]
     ·simp [c1,c2,c3,e1,e2,e3,e4,e5,hm,writeS,wrOk,-Bool.and_eq_false_imp,-List.all_eq_true,-List.all_eq_false,-Bool.and_eq_true]
   ·simp [c1,c2,c3,e1,e2,e3,hm,writeS,wrOk]
  ·simp [c1,c2,c3,e1,e2,hm,writeS,wrOk]
set_option maxRecDepth 100000
set_option maxHeartbeats 4000000
theorem meetO_eq {s p:Sp} (hs:0≤s.1∧s.1<s.2∧s.2≤48) (hp:0≤p.1∧p.1<p.2∧p.2≤48):meetO s p=ltI (meetS s p).1 (meetS s p).2:=by
 have hb:=meet_bd hs hp
 have h1:spOk s=true:=spOk_iff.2 hs
 have h2:spOk p=true:=spOk_iff.2 hp
 simp only [meetO,h1,h2,Bool.true_and]
 rw [Bool.eq_iff_iff,spOk_iff,ltI_iff]
 omega
theorem lp_OwnPatches (m:M) (hm:m.isOwn=false) (t:List UInt8) (h d:List Sp) (p:Sp) (ht:t.length=48) (hd:∀ s∈d,0≤s.1∧s.1<s.2∧s.2≤48) (hp:0≤p.1∧p.1<p.2∧p.2≤48) (hdl:d.length≤4000000) (a:Code) (ha:a=lp Tryz.f72 0):∀ (n i:Nat) (out:List Pt),i+n=d.length→out.length≤i →
  loopC E (ev E) 72 a { V:=[(2,adc 2),(3,adc 3),(5,at1 5),(20,.v m false [.sl (d.map spL)]),(21,vi d.length),(22,vi i)],H:=[bxm (.c 2) m (owL t h d),bx (.c 3) (spL p),ow (.c 5) [.sl (out.map ptL)]],ps:=[] } =
   some (.exit 0,{ V:=[(2,adc 2),(3,adc 3),(5,at1 5),(20,.v m false [.sl (d.map spL)]),(21,vi d.length),(22,vi d.length),(23,vb false)],H:=[bxm (.c 2) m (owL t h d),bx (.c 3) (spL p),ow (.c 5) [.sl ((out++patF t p (d.drop i)).map ptL)]],ps:=[] })
 | 0,i,out,h0,ho=>by
  rw [loopC_of _ _ _ _ ha]
  obtain rfl:i=d.length:=by omega
  simp [lp,loopsOf,Tryz.f72,patF,hm]
 | n+1,i,out,h0,ho=>by
  have hlt:i<d.length:=by omega
  have hw:=wrapN i (by omega)
  have hs:=hd d[i] (List.getElem_mem hlt)
  have hb:=meet_bd hs hp
  have hc:=fun m m'=>ev_SpanMeet m m' d[i] p
  rw [meetO_eq hs hp] at hc
  have hsz:(out.length+1)*24≤17592186044416:=by omega
  have hsz2:out.length+1≤17592186044416:=by omega
  rw [List.drop_eq_getElem_cons hlt,patF]
  cases e:ltI (meetS d[i] p).1 (meetS d[i] p).2
  ·have ih:=lp_OwnPatches m hm t h d p ht hd hp hdl a ha n (i+1) out (by omega) (by omega)
   push_cast at ih
   rw [loopC_of _ _ _ _ ha]
   clear ha
   simp [lp,loopsOf,Tryz.f72,hlt,hw,hm,hc,e]
   simpa using ih
  ·have ih:=lp_OwnPatches m hm t h d p ht hd hp hdl a ha n (i+1) (out++[((meetS d[i] p).1,subS t (meetS d[i] p))]) (by omega) (by simp;omega)
   push_cast at ih
   rw [loopC_of _ _ _ _ ha]
   clear ha
   have e':=ltI_iff.1 e
   have q1:(meetS d[i] p).1≤((meetS d[i] p).2.toNat:Int):=by omega
   have q2:(meetS d[i] p).2≤(48:Int):=by omega
   have q3:(meetS d[i] p).1.toNat≤(meetS d[i] p).2.toNat:=by omega
   have q4:max (meetS d[i] p).2 0=(meetS d[i] p).2:=by omega
   simp [lp,loopsOf,Tryz.f72,hlt,hw,hm,hc,e,ht,hb,q1,q2,q3,q4,hsz,hsz2,Int.le_of_lt e']
   simpa [subS] using ih
def patI (t:List UInt8) (h d:List Sp) (p:Sp):List Pt:=if ownOk t h d=true then (if spOk p=true then patF t p d else []) else []
theorem ev_OwnPatches (m m':M) (hm:m.isOwn=false) (t:List UInt8) (h d:List Sp) (p:Sp) (b:OwB t h d) :
  ev E 72 [.v m true (owL t h d),.v m' true (spL p)]=some { rs:=[.v .own false [.sl ((patI t h d p).map ptL)]],outs:=[] }:=by
 have bt:=b.t
 have bh:=b.h
 have bd:=b.d
 have c1:=fun m hm=>ev_impl_OwnOk m hm t h d (by omega) (by omega) (by omega)
 have c2:=fun m=>ev_impl_SpanOk m p
 rw [ev_fn Tryz.f72 rfl Tryz.func72 rfl rfl rfl (Nat.le_of_ble_eq_true rfl)]
 cases e1:ownOk t h d
 ·simp [c1,e1,hm,patI]
 ·cases e2:spOk p
  ·simp [c1,c2,e1,e2,hm,patI]
  ·obtain ⟨ht,hsh,hsd,_⟩:=ownOk_t e1
   have hl:=lp_OwnPatches m hm t h d p ht (spsOk_sp hsd) (spOk_iff.1 e2) (by omega) _ rfl d.length 0 [] (by omega) (by simp)
   push_cast at hl
   simp [c1,c2,e1,e2,hm,patI]
   rw [loopC_at ?_ (by simpa using hl)]
   ·simp
   ·rfl
def eqP (f g:Nat→Bool):Bool:=(List.range 48).all fun j=>f j==g j
theorem cellsEq_bools (f g:Nat→Bool):∀ (xs:List Nat),cellsEq (xs.map fun i=>L.bool (f i)) (xs.map fun i=>L.bool (g i))=some (xs.all fun j=>f j==g j)
 | []=>rfl
 | x::xs=>by
  have:=cellsEq_bools f g xs
  simp only [List.map_cons,cellsEq,leafEq,this,List.all_cons]
theorem cellsEq_pl (f g:Nat→Bool):cellsEq (pl f) (pl g)=some (eqP f g):=cellsEq_bools f g (List.range 48)
theorem eqP_iff {f g:Nat→Bool}:eqP f g=true↔∀ j,j<48→f j=g j:=by
 simp [eqP,List.all_eq_true]
@[simp] theorem eqAgg_places:eqAgg Tryz.prog 99=true:=by kernel_rfl
@[simp] theorem shape_places (f:Nat→Bool):shapeT Tryz.prog 8 99 (pl f)=true:=by
 have:(pl f).all (leafFits TD.bool)=true:=by simp [pl,leafFits]
 simp [shapeT,this]
def haveS (h:List Sp) (s:Sp):Bool:=spsOk h&&spOk s&&eqP (fun j=>inF h j&&inF [s] j) (inF [s])
theorem ev_SpansHave (m m':M) (h:List Sp) (s:Sp) (hb:h.length≤1099511627776):ev E 202 [.v m false [.sl (h.map spL)],.v m' true (spL s)]=some (rB (haveS h s)):=by
 have c1:=fun m=>ev_impl_SpansOk m h hb
 have c2:=fun m=>ev_impl_SpanOk m s
 rw [ev_fn Tryz.f202 rfl Tryz.func202 rfl rfl rfl (Nat.le_of_ble_eq_true rfl)]
 cases e1:spsOk h
 ·simp [c1,e1,haveS]
 ·cases e2:spOk s
  ·simp [c1,c2,e1,e2,haveS]
  ·have hs:=spOk_iff.1 e2
   have c3:∀ m,ev E 64 [.v m false [.sl (h.map spL)]]=some { rs:=[.v .own true (pl (inF h))],outs:=[] }:=fun m=>ev_impl_of m h (by omega) fun s hs=>by have:=spsOk_sp e1 s hs;omega
   have c4:∀ m,ev E 64 [.v m false [.sl [spL s]]]=some { rs:=[.v .own true (pl (inF [s]))],outs:=[] }:=fun m=>ev_impl_of m [s] (by simp) fun q hq=>by simp only [List.mem_singleton] at hq;subst hq;omega
   have c5:=fun m m'=>ev_meet m m' (inF h) (inF [s])
   simp [-shapeT,c1,c2,c3,c4,c5,e1,e2,haveS,cellsEq_pl]
def readS (t:List UInt8) (h d:List Sp) (s:Sp):List UInt8 × Bool:=if ownOk t h d=true then (if haveS h s=true then (subS t s,true) else ([],false)) else ([],false)
theorem ev_OwnRead (m m':M) (hm:m.isOwn=false) (t:List UInt8) (h d:List Sp) (s:Sp) (b:OwB t h d) :
  ev E 146 [.v m true (owL t h d),.v m' true (spL s)]=some { rs:=[.v .own false [.str (readS t h d s).1],.v .own false [.bool (readS t h d s).2]],outs:=[] }:=by
 have bt:=b.t
 have bh:=b.h
 have bd:=b.d
 have c1:=fun m hm=>ev_impl_OwnOk m hm t h d (by omega) (by omega) (by omega)
 have c2:=fun m m'=>ev_SpansHave m m' h s (by omega)
 rw [ev_fn Tryz.f146 rfl Tryz.func146 rfl rfl rfl (Nat.le_of_ble_eq_true rfl)]
 cases e1:ownOk t h d
 ·simp [c1,e1,hm,readS]
 ·cases e2:haveS h s
  ·simp [c1,c2,e1,e2,hm,readS]
  ·obtain ⟨ht,hsh,hsd,_⟩:=ownOk_t e1
   have hs:0≤s.1∧s.1<s.2∧s.2≤48:=by
    simp only [haveS,Bool.and_eq_true] at e2
    exact spOk_iff.1 e2.1.2
   have q1:s.1≤(s.2.toNat:Int):=by omega
   have q3:s.1.toNat≤s.2.toNat:=by omega
   have q4:max s.2 0=s.2:=by omega
   have q5:0≤s.2:=by omega
   have q6:s.1≤s.2:=by omega
   simp [c1,c2,e1,e2,hm,readS,ht,hs,q1,q3,q4,q5,q6,subS]
set_option maxRecDepth 100000
set_option maxHeartbeats 4000000
def fillT (d:List Sp) (x:List UInt8) (lo:Nat):Nat→Nat→List UInt8→List UInt8
 | 0,_,s=>s
 | n+1,i,s=>fillT d x lo n (i+1) (if inF d i=true then s else overS s ((i:Int),(i:Int)+1) ((x.take (i - lo+1)).drop (i - lo)))
theorem lp_sFill (m md:M) (hm:m.isOwn=false) (t:List UInt8) (h d:List Sp) (x:List UInt8) (lo hi:Nat) (hlh:lo≤hi) (hhi:hi≤48) (hx:x.length=hi - lo) (hb:d.length≤1099511627776) (a:Code) (ha:a=lp Tryz.f191 0):∀ (n i:Nat) (m0:M) (s:List UInt8),i+n=hi→lo≤i→s.length=48 →
  ∃ m',loopC E (ev E) 191 a { V:=[(2,.v md false [.str x]),(3,adc 3),(4,adc 4),(6,adc 6),(8,.v m0 false [.str s]),(9,vi i)],H:=[bxm (.c 3) m (owL t h d),bx (.c 4) [.int .i64 lo,.int .i64 hi],bx (.c 6) [.str [],.sl [],.sl []]],ps:=[] } =
   some (.exit 0,{ V:=[(2,.v md false [.str x]),(3,adc 3),(4,adc 4),(6,adc 6),(8,.v m' false [.str (fillT d x lo n i s)]),(9,vi hi),(41,vb false)],H:=[bxm (.c 3) m (owL t h d),bx (.c 4) [.int .i64 lo,.int .i64 hi],bx (.c 6) [.str [],.sl [],.sl []]],ps:=[] })∧(fillT d x lo n i s).length=48
 | 0,i,m0,s,h0,h1,hs=>by
  refine ⟨m0,?_,by simpa [fillT] using hs⟩
  rw [loopC_of _ _ _ _ ha]
  obtain rfl:i=hi:=by omega
  simp [lp,loopsOf,Tryz.f191,fillT,hm]
 | n+1,i,m0,s,h0,h1,hs=>by
  have hlt:i<hi:=by omega
  have hw:=wrapN i (by omega)
  have c1:∀ m m',ev E 167 [.v m false [.sl (d.map spL)],.v m' false [.int .i64 i]]=some (rB (inF d i)):=fun m m'=>ev_spec_l1In m m' d i hb
  cases e:inF d i
  ·have hol:=overS_len s ((x.take (i - lo+1)).drop (i - lo)) ((i:Int),(i:Int)+1) (by dsimp only;omega) (by dsimp only;omega) (by dsimp only;omega)
   have hxl:((x.take (i - lo+1)).drop (i - lo)).length=1:=by simp;omega
   obtain ⟨m',ih,hl⟩:=lp_sFill m md hm t h d x lo hi hlh hhi hx hb a ha n (i+1) .own (overS s ((i:Int),(i:Int)+1) ((x.take (i - lo+1)).drop (i - lo))) (by omega) (by omega) (by rw [hol,hxl];dsimp only;omega)
   refine ⟨m',?_,by simpa [fillT,e] using hl⟩
   push_cast at ih
   rw [loopC_of _ _ _ _ ha]
   clear ha
   have w2:IntKind.i64.wrap ((i:Int) - lo)=((i - lo:Nat):Int):=by rw [wrap64]<;>omega
   have w3:IntKind.i64.wrap (((i - lo:Nat):Int)+1)=((i - lo+1:Nat):Int):=by rw [wrap64]<;>omega
   have c2:=fun m m' m''=>ev_l6Over m m' m'' s ((x.take (i - lo+1)).drop (i - lo)) ((i:Int),(i:Int)+1) (by dsimp only;omega) (by dsimp only;omega) (by dsimp only;omega) (by dsimp only;omega) (by omega) (by omega)
   simp only [spL] at c2
   generalize hj:i - lo=j at *
   have q1:(j:Int)+1≤(x.length:Int):=by omega
   have q2:j+1≤x.length:=by omega
   have q3:(0:Int)≤(j:Int)+1:=by omega
   have q4:(j:Int)≤(j:Int)+1:=by omega
   simp [lp,loopsOf,Tryz.f191,hlt,hw,hm,c1,e,w2,w3,fillT,q1,q2,q3,q4,c2]
   rw [hj]
   simpa using ih
  ·obtain ⟨m',ih,hl⟩:=lp_sFill m md hm t h d x lo hi hlh hhi hx hb a ha n (i+1) m0 s (by omega) (by omega) hs
   refine ⟨m',?_,by simpa [fillT,e] using hl⟩
   push_cast at ih
   rw [loopC_of _ _ _ _ ha]
   clear ha
   simp [lp,loopsOf,Tryz.f191,hlt,hw,hm,c1,e,fillT]
   simpa using ih
def fillOk (p:Sp) (x:List UInt8):Bool:=spOk p&&(x.all okB&&!ltI 48 x.length)&&eqI x.length (p.2 - p.1)
def fillS (t:List UInt8) (h d:List Sp) (p:Sp) (x:List UInt8):Out :=
 if ownOk t h d=true then
  if fillOk p x=true then
   if ownOk (fillT d x p.1.toNat (p.2 - p.1).toNat p.1.toNat t) (addS h p) d=true then rOB (fillT d x p.1.toNat (p.2 - p.1).toNat p.1.toNat t) (addS h p) d true else rOB t h d false
  else rOB t h d false
 else rOB [] [] [] false
theorem ev_spec_OwnFill (m m' m'':M) (hm:m.isOwn=false) (t:List UInt8) (h d:List Sp) (p:Sp) (x:List UInt8) (b:OwB t h d) (hx:x.length≤4000000) :
  ev E 191 [.v m true (owL t h d),.v m' true (spL p),.v m'' false [.str x]]=some (fillS t h d p x):=by
 have bt:=b.t
 have bh:=b.h
 have bd:=b.d
 have c1:=fun m hm=>ev_spec_OwnOk m hm t h d (by omega) (by omega) (by omega)
 have c2:=fun m=>ev_spec_SpanOk m p
 have c3:=fun m hm=>ev_l6Copy m hm t h d (by omega) (by omega)
 have c4:=fun m=>ev_spec_TextOk m x (by omega)
 rw [ev_fn Tryz.f191 rfl Tryz.func191 rfl rfl rfl (Nat.le_of_ble_eq_true rfl)]
 cases e1:ownOk t h d
 ·simp [c1,e1,hm,fillS]
 ·obtain ⟨ht,hsh,hsd,_⟩:=ownOk_t e1
  cases e2:spOk p
  ·simp [c1,c2,c3,e1,e2,hm,fillS,fillOk]
  ·have hp:=spOk_iff.1 e2
   cases e4:(x.all okB&&!ltI 48 x.length)
   ·simp [c1,c2,c3,c4,e1,e2,e4,hm,fillS,fillOk,-Bool.and_eq_false_imp,-List.all_eq_true,-List.all_eq_false,-Bool.and_eq_true]
   ·have hw:IntKind.i64.wrap (p.2 - p.1)=p.2 - p.1:=by rw [wrap64]<;>omega
    cases e5:eqI x.length (p.2 - p.1)
    ·simp [c1,c2,c3,c4,e1,e2,e4,e5,hw,hm,fillS,fillOk,-Bool.and_eq_false_imp,-List.all_eq_true,-List.all_eq_false,-Bool.and_eq_true]
    ·obtain ⟨lo',hi'⟩:=p
     obtain ⟨lo,rfl⟩:∃ lo:Nat,lo'=lo:=⟨lo'.toNat,by dsimp only at hp;omega⟩
     obtain ⟨hi,rfl⟩:∃ hi:Nat,hi'=hi:=⟨hi'.toNat,by dsimp only at hp;omega⟩
     have e5':=eqI_iff.1 e5
     dsimp only at hp e5' hw
     obtain ⟨mm,hl,hlen⟩:=lp_sFill m m'' hm t h d x lo hi (by omega) (by omega) (by omega) (by omega) _ rfl (hi - lo) lo .ro t (by omega) (by omega) ht
     have hT:fillT d x ((lo:Int),(hi:Int)).1.toNat (((lo:Int),(hi:Int)).2 - ((lo:Int),(hi:Int)).1).toNat ((lo:Int),(hi:Int)).1.toNat t=fillT d x lo (hi - lo) lo t:=by
      have:((hi:Int) - (lo:Int)).toNat=hi - lo:=by omega
      simp only [this,wrap_i]
     have c5:∀ m m',ev E 238 [.v m false [.sl (h.map spL)],.v m' true [.int .i64 lo,.int .i64 hi]]=some { rs:=[.v .own false [.sl ((addS h ((lo:Int),(hi:Int))).map spL)]],outs:=[] }:=fun m m'=>ev_spec_l1Add m m' h (lo,hi) (by omega) (by dsimp only;omega) (by dsimp only;omega) (by dsimp only;omega)
     have hl1:=addS_len h ((lo:Int),(hi:Int))
     rw [fillS,hT]
     generalize htt:fillT d x lo (hi - lo) lo t=t' at *
     have c8:=fun m m' hm hm'=>ev_l6Put m m' hm hm' t h d t' (addS h ((lo:Int),(hi:Int))) d (by omega) (by omega) (by omega) (by omega) (by omega)
     have f1:fillOk ((lo:Int),(hi:Int)) x=true:=by simp only [fillOk,e2,e4,e5];rfl
     rw [if_pos e1,if_pos f1]
     have c2':∀ m,ev E 153 [.v m true [.int .i64 lo,.int .i64 hi]]=some (rB true):=fun m=>by have:=c2 m;rw [e2] at this;exact this
     simp [c1,c2',c3,c4,e1,e4,e5,hw,hm,-Bool.and_eq_false_imp,-List.all_eq_true,-List.all_eq_false,-Bool.and_eq_true]
     rw [loopC_at ?_ hl]
     ·simp [c5,hm]
      rw [c8 m m hm hm]
      cases e7:ownOk t' (addS h ((lo:Int),(hi:Int))) d<;>simp
     ·rfl
end Go.Ev

