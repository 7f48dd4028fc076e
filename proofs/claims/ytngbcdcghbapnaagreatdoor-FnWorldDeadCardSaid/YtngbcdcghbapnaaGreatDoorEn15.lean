/- My texts joined: EvT26, EvT27, EvT28, EvM2, EvT30. No condition. -/
import Derived.Test.YtngbcdcghbapnaaGreatDoorEn1
import Derived.Test.YtngbcdcghbapnaaGreatDoorEn2
import Derived.Test.YtngbcdcghbapnaaGreatDoorEn5
import Derived.Test.YtngbcdcghbapnaaGreatDoorEn6
import Derived.Test.YtngbcdcghbapnaaGreatDoorEn7
import Derived.Test.YtngbcdcghbapnaaGreatDoorEn8
import Derived.Test.YtngbcdcghbapnaaGreatDoorEn9
import Derived.Test.YtngbcdcghbapnaaGreatDoorEn10
import Derived.Test.YtngbcdcghbapnaaGreatDoorEn11
import Derived.Test.YtngbcdcghbapnaaGreatDoorEn12
import Derived.Test.YtngbcdcghbapnaaGreatDoorEn13
set_option linter.unusedVariables false
set_option linter.unusedSimpArgs false

set_option maxRecDepth 100000
set_option maxHeartbeats 4000000
namespace Go.Ev
open Go.Proofs
def chgJ (t:List UInt8) (h d:List Sp) (may:Bool) (t':List UInt8) (f g:Nat→Bool):Out :=
 if ownOk t h d=true then
  if may=true then (if ownOk t' (spansF f 48 0) (spansF g 48 0)=true then rOB t' (spansF f 48 0) (spansF g 48 0) true else rOB t h d false)
  else rOB t h d false
 else rOB [] [] [] false
theorem ev_changed_one (m mb mf:M) (hm:m.isOwn=false) (t:List UInt8) (h d:List Sp) (may:Bool) (cl:FuncId) (l l2:L) (t':List UInt8) (f g:Nat→Bool) (b:OwB t h d) (hsig:E.sig cl=[.io,.ro,.ro]∧E.alt2 cl=none) (ht':may=true→ownOk t h d=true→t'.length=48)
  (hcl:may=true→ownOk t h d=true→∀ m1 m2,ev E cl ([.io false [.sl (rowsOfBytes t)],.v m1 true (pl (inF h)),.v m2 true (pl (inF d))]++([l]:List L).map fun l=>.v mf false [l])=some { rs:=[.v .own true (pl f),.v .own true (pl g)],outs:=[(.own,[.sl (rowsOfBytes t')])] }) :
  ev E 200 [.v m true (owL t h d),.v mb false [.bool may],.v mf false [.fn cl [l]]]=some (chgJ t h d may t' f g):=by
 have bt:=b.t
 have bh:=b.h
 have bd:=b.d
 have c1:=fun m hm=>ev_impl_OwnOk m hm t h d (by omega) (by omega) (by omega)
 have c3:=fun m hm=>ev_kept m hm t h d b
 rw [ev_fn Tryz.f200 rfl Tryz.func200 rfl rfl rfl (Nat.le_of_ble_eq_true rfl)]
 cases e1:ownOk t h d
 ·simp [c1,e1,hm,chgJ]
 ·cases may with
  | false=>simp [c1,c3,e1,hm,chgJ]
  | true =>
   have hcl:=hcl rfl e1
   have ht':=ht' rfl e1
   simp only [List.map_cons,List.map_nil,List.cons_append,List.nil_append] at hcl
   obtain ⟨ht,hsh,hsd,_⟩:=ownOk_t e1
   have hne:t≠[]:=by intro e;rw [e] at ht;simp at ht
   have c4:∀ m,ev E 64 [.v m false [.sl (h.map spL)]]=some { rs:=[.v .own true (pl (inF h))],outs:=[] }:=fun m=>ev_impl_of m h (by omega) fun s hs=>by have:=spsOk_sp hsh s hs;omega
   have c5:∀ m,ev E 64 [.v m false [.sl (d.map spL)]]=some { rs:=[.v .own true (pl (inF d))],outs:=[] }:=fun m=>ev_impl_of m d (by omega) fun s hs=>by have:=spsOk_sp hsd s hs;omega
   have l1:=spansF_len f 48 0
   have l2:=spansF_len g 48 0
   have c6:=fun m=>ev_spans m f
   have c7:=fun m=>ev_spans m g
   have hbr:=bytes_rows t'
   simp only [chgJ,e1,if_true]
   generalize spansF f 48 0=h' at *
   generalize spansF g 48 0=d' at *
   have c8:=fun m hm=>ev_impl_OwnOk m hm t' h' d' (by omega) (by omega) (by omega)
   cases e3:ownOk t' h' d'<;>simp [c1,e1,e3,hm,hne,ht,c3,c4,c5,c6,c7,c8,hcl,hsig.1,hsig.2,hbr,pl_ff]
theorem ev_changed_two (m mb mf:M) (hm:m.isOwn=false) (t:List UInt8) (h d:List Sp) (may:Bool) (cl:FuncId) (l l2:L) (t':List UInt8) (f g:Nat→Bool) (b:OwB t h d) (hsig:E.sig cl=[.io,.ro,.ro]∧E.alt2 cl=none) (ht':may=true→ownOk t h d=true→t'.length=48)
  (hcl:may=true→ownOk t h d=true→∀ m1 m2,ev E cl ([.io false [.sl (rowsOfBytes t)],.v m1 true (pl (inF h)),.v m2 true (pl (inF d))]++([l,l2]:List L).map fun l=>.v mf false [l])=some { rs:=[.v .own true (pl f),.v .own true (pl g)],outs:=[(.own,[.sl (rowsOfBytes t')])] }) :
  ev E 200 [.v m true (owL t h d),.v mb false [.bool may],.v mf false [.fn cl [l,l2]]]=some (chgJ t h d may t' f g):=by
 have bt:=b.t
 have bh:=b.h
 have bd:=b.d
 have c1:=fun m hm=>ev_impl_OwnOk m hm t h d (by omega) (by omega) (by omega)
 have c3:=fun m hm=>ev_kept m hm t h d b
 rw [ev_fn Tryz.f200 rfl Tryz.func200 rfl rfl rfl (Nat.le_of_ble_eq_true rfl)]
 cases e1:ownOk t h d
 ·simp [c1,e1,hm,chgJ]
 ·cases may with
  | false=>simp [c1,c3,e1,hm,chgJ]
  | true =>
   have hcl:=hcl rfl e1
   have ht':=ht' rfl e1
   simp only [List.map_cons,List.map_nil,List.cons_append,List.nil_append] at hcl
   obtain ⟨ht,hsh,hsd,_⟩:=ownOk_t e1
   have hne:t≠[]:=by intro e;rw [e] at ht;simp at ht
   have c4:∀ m,ev E 64 [.v m false [.sl (h.map spL)]]=some { rs:=[.v .own true (pl (inF h))],outs:=[] }:=fun m=>ev_impl_of m h (by omega) fun s hs=>by have:=spsOk_sp hsh s hs;omega
   have c5:∀ m,ev E 64 [.v m false [.sl (d.map spL)]]=some { rs:=[.v .own true (pl (inF d))],outs:=[] }:=fun m=>ev_impl_of m d (by omega) fun s hs=>by have:=spsOk_sp hsd s hs;omega
   have l1:=spansF_len f 48 0
   have l2:=spansF_len g 48 0
   have c6:=fun m=>ev_spans m f
   have c7:=fun m=>ev_spans m g
   have hbr:=bytes_rows t'
   simp only [chgJ,e1,if_true]
   generalize spansF f 48 0=h' at *
   generalize spansF g 48 0=d' at *
   have c8:=fun m hm=>ev_impl_OwnOk m hm t' h' d' (by omega) (by omega) (by omega)
   cases e3:ownOk t' h' d'<;>simp [c1,e1,e3,hm,hne,ht,c3,c4,c5,c6,c7,c8,hcl,hsig.1,hsig.2,hbr,pl_ff]
theorem rows_set (s:List UInt8) (i:Nat) (c:UInt8):(rowsOfBytes s).set i [.int .u8 c.toNat]=rowsOfBytes (s.set i c):=by
 simp [rowsOfBytes,List.map_set]
def setB (c:UInt8):Nat→Nat→List UInt8→List UInt8
 | 0,_,s=>s
 | n+1,i,s=>setB c n (i+1) (s.set i c)
theorem setB_len (c:UInt8):∀ n i s,(setB c n i s).length=s.length
 | 0,_,_=>rfl
 | n+1,i,s=>by rw [setB,setB_len c n (i+1)];simp
theorem setB_get (c:UInt8):∀ (n i:Nat) (s:List UInt8) (j:Nat),i+n≤s.length→(setB c n i s)[j]?=if i≤j∧j<i+n then some c else s[j]?
 | 0,i,s,j,h=>by rw [if_neg (by omega)];rfl
 | n+1,i,s,j,h=>by
  rw [setB,setB_get c n (i+1) (s.set i c) j (by simp;omega)]
  by_cases e:j=i
  ·subst e
   rw [if_neg (by omega),if_pos (by omega),List.getElem?_set_self (by omega)]
  ·rw [List.getElem?_set_ne (Ne.symm e)]
   by_cases h2:i≤j∧j<i+(n+1)
   ·rw [if_pos h2,if_pos (by omega)]
   ·rw [if_neg h2,if_neg (by omega)]
theorem overS_get (s x:List UInt8) (lo hi:Nat) (h1:lo≤hi) (h2:hi≤s.length) (hx:x.length=hi - lo) (j:Nat):(overS s ((lo:Int),(hi:Int)) x)[j]?=if lo≤j∧j<hi then x[j - lo]? else s[j]?:=by
 simp only [overS,wrap_i]
 by_cases a1:j<lo
 ·rw [List.append_assoc,List.getElem?_append_left (by simp;omega),List.getElem?_take_of_lt a1,if_neg (by omega)]
 ·by_cases a2:j<hi
  ·rw [if_pos ⟨by omega,a2⟩,List.append_assoc,List.getElem?_append_right (by simp;omega),List.getElem?_append_left (by simp;omega)]
   congr 1
   simp
   omega
  ·rw [if_neg (by omega),List.getElem?_append_right (by simp;omega),List.getElem?_drop]
   congr 1
   simp
   omega
theorem setB_over (c:UInt8) (s:List UInt8) (lo hi:Nat) (h1:lo≤hi) (h2:hi≤s.length):setB c (hi - lo) lo s=overS s ((lo:Int),(hi:Int)) (List.replicate (hi - lo) c):=by
 refine List.ext_getElem? fun j=>?_
 rw [setB_get c _ _ _ _ (by omega),overS_get s _ lo hi h1 h2 (by simp)]
 by_cases e:lo≤j∧j<hi
 ·rw [if_pos e,if_pos (by omega),List.getElem?_replicate,if_pos (by omega)]
 ·rw [if_neg e,if_neg (by omega)]
theorem over1 (s x:List UInt8) (i j:Nat) (hi:i<s.length) (hj:j<x.length):overS s ((i:Int),(i:Int)+1) ((x.take (j+1)).drop j)=s.set i x[j]:=by
 have hx:(x.take (j+1)).drop j=[x[j]]:=by
  refine List.ext_getElem? fun k=>?_
  cases k with
  | zero=>simp [hj]
  | succ k=>rw [List.getElem?_eq_none (by simp;omega)];simp
 have:=overS_get s [x[j]] i (i+1) (by omega) (by omega) (by simp)
 push_cast at this
 rw [hx]
 refine List.ext_getElem? fun k=>?_
 rw [this k,List.getElem?_set]
 by_cases e:i=k
 ·subst e;simp [hi]
 ·rw [if_neg e,if_neg (by omega)]
abbrev ato (i:Nat):AV:=.at (.p i) 0 0 0 [] 1 false
abbrev vim (m:M) (i:Int):AV:=.v m false [.int .i64 i]
theorem lp_dropFn (m3:M) (lo hi:Nat) (hhi:hi≤48) (z:Nat→Bool) (f g:Nat→Bool) (a:Code) (ha:a=lp Tryz.f242 0):∀ (n i:Nat) (mi:M) (s:List UInt8),i+n=hi→s.length=48 →
  ∃ me,loopC E (ev E) 242 a { V:=[(0,ato 0),(3,.v m3 false [.ref [.int .i64 lo,.int .i64 hi]]),(5,adc 5),(6,adc 6),(7,adc 7),(8,adc 8),(9,vim mi i)],H:=[ow (.p 0) [.sl (rowsOfBytes s)],bx (.c 5) (pl f),bx (.c 6) (pl g),bx (.c 7) (pl z),bx (.c 8) (pl z)],ps:=[0] } =
   some (.exit 0,{ V:=[(0,ato 0),(3,.v m3 false [.ref [.int .i64 lo,.int .i64 hi]]),(5,adc 5),(6,adc 6),(7,adc 7),(8,adc 8),(9,vim me hi),(15,vb false)],H:=[ow (.p 0) [.sl (rowsOfBytes (setB 46 n i s))],bx (.c 5) (pl f),bx (.c 6) (pl g),bx (.c 7) (pl z),bx (.c 8) (pl z)],ps:=[0] })
 | 0,i,mi,s,h0,hs=>by
  refine ⟨mi,?_⟩
  rw [loopC_of _ _ _ _ ha]
  obtain rfl:i=hi:=by omega
  simp [lp,loopsOf,Tryz.f242,setB]
 | n+1,i,mi,s,h0,hs=>by
  have hlt:i<hi:=by omega
  have hw:=wrapN i (by omega)
  have hi2:i<s.length:=by omega
  have hset:=rows_set s i 46
  obtain ⟨me,ih⟩:=lp_dropFn m3 lo hi hhi z f g a ha n (i+1) .ro (s.set i 46) (by omega) (by simpa using hs)
  refine ⟨me,?_⟩
  push_cast at ih
  rw [loopC_of _ _ _ _ ha]
  clear ha
  simp [lp,loopsOf,Tryz.f242,hlt,hw,hi2,setB]
  rw [← hset] at ih
  simpa using ih
set_option maxRecDepth 100000
set_option maxHeartbeats 4000000
theorem nat_sp {p:Sp} (hp:0≤p.1∧p.1<p.2∧p.2≤48):∃ lo hi:Nat,p=((lo:Int),(hi:Int))∧lo<hi∧hi≤48:=by
 obtain ⟨a,b⟩:=p
 dsimp only at hp
 exact ⟨a.toNat,b.toNat,by simp only [Prod.mk.injEq];omega,by omega,by omega⟩
theorem ev_dropFn (m1 m2 m3:M) (s:List UInt8) (f g:Nat→Bool) (lo hi:Nat) (hp:lo<hi) (hhi:hi≤48) (hs:s.length=48) :
  ev E 242 [.io false [.sl (rowsOfBytes s)],.v m1 true (pl f),.v m2 true (pl g),.v m3 false [.ref [.int .i64 lo,.int .i64 hi]]] =
   some { rs:=[.v .own true (pl fun j=>if inF [((lo:Int),(hi:Int))] j=true then false else f j),.v .own true (pl g)],outs:=[(.own,[.sl (rowsOfBytes (setB 46 (hi - lo) lo s))])] }:=by
 have c1:∀ m,ev E 64 [.v m false [.sl [[.int .i64 lo,.int .i64 hi]]]]=some { rs:=[.v .own true (pl (inF [((lo:Int),(hi:Int))]))],outs:=[] }:=fun m=>ev_impl_of m [((lo:Int),(hi:Int))] (by simp) fun s hs=>by simp only [List.mem_singleton] at hs;subst hs;dsimp only;omega
 have c2:=fun m m' m'' f=>ev_put m m' m'' f (inF [((lo:Int),(hi:Int))]) false
 obtain ⟨me,hl⟩:=lp_dropFn m3 lo hi hhi (fun _=>false) f g _ rfl (hi - lo) lo m3 s (by omega) hs
 rw [ev_fn Tryz.f242 rfl Tryz.func242 rfl rfl rfl (Nat.le_of_ble_eq_true rfl)]
 simp [pl_ff]
 rw [loopC_at ?_ hl]
 ·simp [c1,c2,pl_ff]
 ·rfl
theorem chgJ_ex (t:List UInt8) (h d:List Sp) (may:Bool) (t':List UInt8) (f g:Nat→Bool):∃ T H D b',chgJ t h d may t' f g=rOB T H D b':=by
 unfold chgJ
 split
 ·split
  ·split<;>exact ⟨_,_,_,_,rfl⟩
  ·exact ⟨_,_,_,_,rfl⟩
 ·exact ⟨_,_,_,_,rfl⟩
theorem ev_dropFnP (m1 m2 m3:M) (s:List UInt8) (f g:Nat→Bool) (p:Sp) (hp:0≤p.1∧p.1<p.2∧p.2≤48) (hs:s.length=48) :
  ev E 242 [.io false [.sl (rowsOfBytes s)],.v m1 true (pl f),.v m2 true (pl g),.v m3 false [.ref (spL p)]] =
   some { rs:=[.v .own true (pl fun j=>if inF [p] j=true then false else f j),.v .own true (pl g)],outs:=[(.own,[.sl (rowsOfBytes (setB 46 (p.2.toNat - p.1.toNat) p.1.toNat s))])] }:=by
 obtain ⟨lo,hi,rfl,hp1,hp2⟩:=nat_sp hp
 exact ev_dropFn m1 m2 m3 s f g lo hi hp1 hp2 hs
def dropMay (t:List UInt8) (h d:List Sp) (p:Sp):Bool:=spOk p&&eqI (patI t h d p).length 0
theorem ev_impl_OwnDrop (m m':M) (hm:m.isOwn=false) (t:List UInt8) (h d:List Sp) (p:Sp) (b:OwB t h d) :
  ev E 198 [.v m true (owL t h d),.v m' true (spL p)]=some (chgJ t h d (dropMay t h d p) (setB 46 (p.2.toNat - p.1.toNat) p.1.toNat t) (fun j=>if inF [p] j=true then false else inF h j) (inF d)):=by
 have c1:=fun m=>ev_impl_SpanOk m p
 have c0:=fun m m' hm=>ev_OwnPatches m m' hm t h d p b
 have c2:=fun m mb mf hm=>ev_changed_one m mb mf hm t h d (dropMay t h d p) 242 (.ref (spL p)) (.int .i64 0) _ _ _ b ⟨rfl,rfl⟩ (fun _ e=>by rw [setB_len];exact (ownOk_t e).1) (fun h1 h2 m1 m2=>ev_dropFnP m1 m2 mf t (inF h) (inF d) p (spOk_iff.1 (by simp only [dropMay,Bool.and_eq_true] at h1;exact h1.1)) (ownOk_t h2).1)
 obtain ⟨T,H,D,b',hr⟩:=chgJ_ex t h d (dropMay t h d p) (setB 46 (p.2.toNat - p.1.toNat) p.1.toNat t) (fun j=>if inF [p] j=true then false else inF h j) (inF d)
 rw [hr] at c2 ⊢
 simp only [dropMay] at c2
 rw [ev_fn Tryz.f198 rfl Tryz.func198 rfl rfl rfl (Nat.le_of_ble_eq_true rfl)]
 cases e1:spOk p
 ·simp only [e1,Bool.false_and] at c2
  simp [c1,e1,c2,hm]
 ·simp only [e1,Bool.true_and] at c2
  simp [c0,c1,e1,c2,hm]
set_option maxRecDepth 100000
set_option maxHeartbeats 4000000
def fillI (g:Nat→Bool) (x:List UInt8) (lo:Nat):Nat→Nat→List UInt8→List UInt8
 | 0,_,s=>s
 | n+1,i,s=>fillI g x lo n (i+1) (if g i=true then s else s.set i (x.getD (i - lo) 0))
theorem fillI_len (g:Nat→Bool) (x:List UInt8) (lo:Nat):∀ (n i:Nat) (s:List UInt8),(fillI g x lo n i s).length=s.length
 | 0,_,_=>rfl
 | n+1,i,s=>by
  rw [fillI,fillI_len g x lo n (i+1)]
  split<;>simp
theorem lp_fillFn (m3 m4:M) (x:List UInt8) (lo hi:Nat) (hlo:lo≤hi) (hhi:hi≤48) (hx:x.length=hi - lo) (z:Nat→Bool) (f g:Nat→Bool) (a:Code) (ha:a=lp Tryz.f201 0):∀ (n i:Nat) (mi:M) (s:List UInt8),i+n=hi→lo≤i→s.length=48 →
  ∃ me,loopC E (ev E) 201 a { V:=[(0,ato 0),(3,.v m3 false [.ref [.int .i64 lo,.int .i64 hi]]),(4,.v m4 false [.ref [.str x]]),(6,adc 6),(7,adc 7),(8,adc 8),(9,adc 9),(10,vim mi i)],H:=[ow (.p 0) [.sl (rowsOfBytes s)],bx (.c 6) (pl f),bx (.c 7) (pl g),bx (.c 8) (pl z),bx (.c 9) (pl z)],ps:=[0] } =
   some (.exit 0,{ V:=[(0,ato 0),(3,.v m3 false [.ref [.int .i64 lo,.int .i64 hi]]),(4,.v m4 false [.ref [.str x]]),(6,adc 6),(7,adc 7),(8,adc 8),(9,adc 9),(10,vim me hi),(16,vb false)],H:=[ow (.p 0) [.sl (rowsOfBytes (fillI g x lo n i s))],bx (.c 6) (pl f),bx (.c 7) (pl g),bx (.c 8) (pl z),bx (.c 9) (pl z)],ps:=[0] })
 | 0,i,mi,s,h0,h1,hs=>by
  refine ⟨mi,?_⟩
  rw [loopC_of _ _ _ _ ha]
  obtain rfl:i=hi:=by omega
  simp [lp,loopsOf,Tryz.f201,fillI]
 | n+1,i,mi,s,h0,h1,hs=>by
  have hlt:i<hi:=by omega
  have hw:=wrapN i (by omega)
  have hi2:i<s.length:=by omega
  have hi48:i<48:=by omega
  have hI:(i:Int)<48:=by omega
  have pt:=pl_take g hi48
  have pg:=pl_get g hi48
  cases e:g i
  ·obtain ⟨me,ih⟩:=lp_fillFn m3 m4 x lo hi hlo hhi hx z f g a ha n (i+1) .ro (s.set i (x.getD (i - lo) 0)) (by omega) (by omega) (by simpa using hs)
   refine ⟨me,?_⟩
   push_cast at ih
   rw [loopC_of _ _ _ _ ha]
   clear ha
   have w2:IntKind.i64.wrap ((i:Int) - lo)=((i - lo:Nat):Int):=by rw [wrap64]<;>omega
   have hj:i - lo<x.length:=by omega
   have hset:=rows_set s i (x.getD (i - lo) 0)
   simp [lp,loopsOf,Tryz.f201,hlt,hw,hi2,fillI,e,hI,hi48,pt,pg,show i≤48 by omega,show 1≤48 - i by omega,w2,hj]
   rw [← hset] at ih
   simpa [hj] using ih
  ·obtain ⟨me,ih⟩:=lp_fillFn m3 m4 x lo hi hlo hhi hx z f g a ha n (i+1) .ro s (by omega) (by omega) hs
   refine ⟨me,?_⟩
   push_cast at ih
   rw [loopC_of _ _ _ _ ha]
   clear ha
   simp [lp,loopsOf,Tryz.f201,hlt,hw,hi2,fillI,e,hI,hi48,pt,pg,show i≤48 by omega,show 1≤48 - i by omega]
   simpa using ih
theorem ev_fillFn (m1 m2 m3 m4:M) (s x:List UInt8) (f g:Nat→Bool) (lo hi:Nat) (hp:lo<hi) (hhi:hi≤48) (hx:x.length=hi - lo) (hs:s.length=48) :
  ev E 201 [.io false [.sl (rowsOfBytes s)],.v m1 true (pl f),.v m2 true (pl g),.v m3 false [.ref [.int .i64 lo,.int .i64 hi]],.v m4 false [.ref [.str x]]] =
   some { rs:=[.v .own true (pl fun j=>if inF [((lo:Int),(hi:Int))] j=true then true else f j),.v .own true (pl g)],outs:=[(.own,[.sl (rowsOfBytes (fillI g x lo (hi - lo) lo s))])] }:=by
 have c1:∀ m,ev E 64 [.v m false [.sl [[.int .i64 lo,.int .i64 hi]]]]=some { rs:=[.v .own true (pl (inF [((lo:Int),(hi:Int))]))],outs:=[] }:=fun m=>ev_impl_of m [((lo:Int),(hi:Int))] (by simp) fun s hs=>by simp only [List.mem_singleton] at hs;subst hs;dsimp only;omega
 have c2:=fun m m' m'' f=>ev_put m m' m'' f (inF [((lo:Int),(hi:Int))]) true
 obtain ⟨me,hl⟩:=lp_fillFn m3 m4 x lo hi (by omega) hhi hx (fun _=>false) f g _ rfl (hi - lo) lo m3 s (by omega) (by omega) hs
 rw [ev_fn Tryz.f201 rfl Tryz.func201 rfl rfl rfl (Nat.le_of_ble_eq_true rfl)]
 simp [pl_ff]
 rw [loopC_at ?_ hl]
 ·simp [c1,c2,pl_ff]
 ·rfl
theorem ev_fillFnP (m1 m2 m3 m4:M) (s x:List UInt8) (f g:Nat→Bool) (p:Sp) (hp:0≤p.1∧p.1<p.2∧p.2≤48) (hx:(x.length:Int)=p.2 - p.1) (hs:s.length=48) :
  ev E 201 [.io false [.sl (rowsOfBytes s)],.v m1 true (pl f),.v m2 true (pl g),.v m3 false [.ref (spL p)],.v m4 false [.ref [.str x]]] =
   some { rs:=[.v .own true (pl fun j=>if inF [p] j=true then true else f j),.v .own true (pl g)],outs:=[(.own,[.sl (rowsOfBytes (fillI g x p.1.toNat (p.2.toNat - p.1.toNat) p.1.toNat s))])] }:=by
 obtain ⟨lo,hi,rfl,hp1,hp2⟩:=nat_sp hp
 dsimp only at hx
 exact ev_fillFn m1 m2 m3 m4 s x f g lo hi hp1 hp2 (by omega) hs
theorem fillOk_sp {p:Sp} {x:List UInt8} (e:fillOk p x=true):(0≤p.1∧p.1<p.2∧p.2≤48)∧(x.length:Int)=p.2 - p.1:=by
 simp only [fillOk,Bool.and_eq_true] at e
 exact ⟨spOk_iff.1 e.1.1,eqI_iff.1 e.2⟩
theorem ev_impl_OwnFill (m m' m'':M) (hm:m.isOwn=false) (t:List UInt8) (h d:List Sp) (p:Sp) (x:List UInt8) (b:OwB t h d) (hx:x.length≤4000000) :
  ev E 145 [.v m true (owL t h d),.v m' true (spL p),.v m'' false [.str x]]=some (chgJ t h d (fillOk p x) (fillI (inF d) x p.1.toNat (p.2.toNat - p.1.toNat) p.1.toNat t) (fun j=>if inF [p] j=true then true else inF h j) (inF d)):=by
 have c1:=fun m=>ev_impl_SpanOk m p
 have c0:=fun m=>ev_impl_TextOk m x (by omega)
 have c2:=fun m mb mf hm=>ev_changed_two m mb mf hm t h d (fillOk p x) 201 (.ref (spL p)) (.ref [.str x]) _ _ _ b ⟨rfl,rfl⟩ (fun _ e=>by rw [fillI_len];exact (ownOk_t e).1) (fun h1 h2 m1 m2=>ev_fillFnP m1 m2 mf mf t x (inF h) (inF d) p (fillOk_sp h1).1 (fillOk_sp h1).2 (ownOk_t h2).1)
 obtain ⟨T,H,D,b',hr⟩:=chgJ_ex t h d (fillOk p x) (fillI (inF d) x p.1.toNat (p.2.toNat - p.1.toNat) p.1.toNat t) (fun j=>if inF [p] j=true then true else inF h j) (inF d)
 rw [hr] at c2 ⊢
 simp only [fillOk] at c2
 rw [ev_fn Tryz.f145 rfl Tryz.func145 rfl rfl rfl (Nat.le_of_ble_eq_true rfl)]
 cases e1:spOk p
 ·simp only [e1,Bool.false_and] at c2
  simp [c1,e1,c2,hm]
 ·simp only [e1,Bool.true_and] at c2
  have hp:=spOk_iff.1 e1
  have hw:IntKind.i64.wrap (p.2 - p.1)=p.2 - p.1:=by rw [wrap64]<;>omega
  cases e4:(x.all okB&&!ltI 48 x.length)
  ·simp only [e4,Bool.false_and] at c2
   simp [c0,c1,e1,e4,c2,hm,-Bool.and_eq_false_imp,-List.all_eq_true,-List.all_eq_false,-Bool.and_eq_true]
  ·simp only [e4,Bool.true_and] at c2
   simp [c0,c1,e1,e4,hw,c2,hm,-Bool.and_eq_false_imp,-List.all_eq_true,-List.all_eq_false,-Bool.and_eq_true]
theorem addS_spans (h:List Sp) (p:Sp):spansF (fun j=>if inF [p] j=true then true else inF h j) 48 0=addS h p :=
 spans_of fun j _=>by simp [inF]
theorem drop_eq (t:List UInt8) (h d:List Sp) (p:Sp):chgJ t h d (dropMay t h d p) (setB 46 (p.2.toNat - p.1.toNat) p.1.toNat t) (fun j=>if inF [p] j=true then false else inF h j) (inF d)=dropS t h d p:=by
 unfold chgJ dropS
 cases e:ownOk t h d with
 | false=>rfl
 | true =>
  obtain ⟨ht,_,hsd,_⟩:=ownOk_t e
  have h1:spansF (inF d) 48 0=d:=by rw [spans_of (g:=inF d) (fun j _=>rfl)];exact of_self hsd fun j _=>rfl
  have h2:spansF (fun j=>if inF [p] j=true then false else inF h j) 48 0=cutS h p:=spans_of fun j _=>by simp [inF]
  rw [h1,h2]
  cases e2:spOk p with
  | false=>simp [dropMay,e2]
  | true =>
   obtain ⟨lo,hi,rfl,hp1,hp2⟩:=nat_sp (spOk_iff.1 e2)
   have h3:=setB_over 46 t lo hi (by omega) (by omega)
   have h4:((hi:Int) - (lo:Int)).toNat=hi - lo:=by omega
   simp only [wrap_i,h3,h4,dropMay,e2,patI,e,Bool.true_and,if_true]
   cases patF t ((lo:Int),(hi:Int)) d with
   | nil=>simp [ltI,eqI]
   | cons q qs =>
    have:¬ ((qs.length:Int)+1=0):=by omega
    have:(0:Int)<(qs.length:Int)+1:=by omega
    simp [ltI,eqI, *]
theorem fill_eq (t:List UInt8) (h d:List Sp) (p:Sp) (x:List UInt8):chgJ t h d (fillOk p x) (fillI (inF d) x p.1.toNat (p.2.toNat - p.1.toNat) p.1.toNat t) (fun j=>if inF [p] j=true then true else inF h j) (inF d)=fillS t h d p x:=by
 unfold chgJ fillS
 cases e:ownOk t h d with
 | false=>rfl
 | true =>
  obtain ⟨ht,_,hsd,_⟩:=ownOk_t e
  have h1:spansF (inF d) 48 0=d:=by rw [spans_of (g:=inF d) (fun j _=>rfl)];exact of_self hsd fun j _=>rfl
  rw [h1,addS_spans]
  cases e2:fillOk p x with
  | false=>simp
  | true =>
   obtain ⟨hp,hx⟩:=fillOk_sp e2
   obtain ⟨lo,hi,rfl,hp1,hp2⟩:=nat_sp hp
   have h4:((hi:Int) - (lo:Int)).toNat=hi - lo:=by omega
   dsimp only at hx
   have h5:∀ n i (s:List UInt8),i+n=hi→lo≤i→s.length=48→fillI (inF d) x lo n i s=fillT d x lo n i s:=by
    intro n
    induction n with
    | zero=>intro i s _ _ _;rfl
    | succ n ih =>
     intro i s hi2 hlo hs
     simp only [fillI,fillT]
     cases inF d i with
     | true=>exact ih (i+1) s (by omega) (by omega) hs
     | false =>
      have hj:i - lo<x.length:=by omega
      have:=over1 s x i (i - lo) (by omega) hj
      simp only [Bool.false_eq_true,if_false,this,List.getD_eq_getElem?_getD,List.getElem?_eq_getElem hj,Option.getD_some]
      exact ih (i+1) _ (by omega) (by omega) (by simpa using hs)
   simp only [wrap_i,h4,h5 (hi - lo) lo t (by omega) (Nat.le_refl lo) ht]
theorem addS_get (h:List Sp) (p:Sp) (j:Nat) (hj:j<48):inF (addS h p) j=(inSp j p || inF h j):=by
 have:=(of_can fun j=>if inSp j p=true then true else h.any (inSp j)).2 j hj
 rw [addS,this]
 cases inSp j p<;>simp [inF]
theorem fillI_get (g:Nat→Bool) (x:List UInt8) (lo:Nat):∀ (n i:Nat) (s:List UInt8) (j:Nat),i+n≤s.length→(fillI g x lo n i s)[j]?=if i≤j∧j<i+n∧g j=false then some (x.getD (j - lo) 0) else s[j]?
 | 0,i,s,j,h=>by rw [if_neg (by omega)];rfl
 | n+1,i,s,j,h=>by
  have hl:(if g i=true then s else s.set i (x.getD (i - lo) 0)).length=s.length:=by split<;>simp
  rw [fillI,fillI_get g x lo n (i+1) _ j (by rw [hl];omega)]
  by_cases e:j=i
  ·subst e
   rw [if_neg (by omega)]
   cases e2:g j with
   | true=>simp
   | false =>
    simp [show j<s.length by omega]
  ·have hk:(if g i=true then s else s.set i (x.getD (i - lo) 0))[j]?=s[j]?:=by
    split
    ·rfl
    ·exact List.getElem?_set_ne (Ne.symm e)
   rw [hk]
   cases hg:g j with
   | true=>simp
   | false =>
    simp only [and_true]
    by_cases h2:i≤j∧j<i+(n+1)
    ·rw [if_pos h2,if_pos (by omega)]
    ·rw [if_neg h2,if_neg (by omega)]
set_option maxRecDepth 100000
set_option maxHeartbeats 4000000
theorem fillT_get (d:List Sp) (x:List UInt8) (lo hi:Nat) (h1:lo≤hi) (h2:hi≤48) (hx:x.length=hi - lo):∀ (n i:Nat) (s:List UInt8) (j:Nat),i+n=hi→lo≤i→s.length=48→(fillT d x lo n i s)[j]?=if i≤j∧j<i+n then (if inF d j=true then s[j]? else x[j - lo]?) else s[j]?:=by
 intro n i s j h3 h4 hs
 have h5:∀ n i (s:List UInt8),i+n=hi→lo≤i→s.length=48→fillT d x lo n i s=fillI (inF d) x lo n i s:=by
  intro n
  induction n with
  | zero=>intro i s _ _ _;rfl
  | succ n ih =>
   intro i s hi2 hlo hs
   simp only [fillI,fillT]
   cases inF d i with
   | true=>exact ih (i+1) s (by omega) (by omega) hs
   | false =>
    have hj:i - lo<x.length:=by omega
    have:=over1 s x i (i - lo) (by omega) hj
    simp only [Bool.false_eq_true,if_false,this,List.getD_eq_getElem?_getD,List.getElem?_eq_getElem hj,Option.getD_some]
    exact ih (i+1) _ (by omega) (by omega) (by simpa using hs)
 rw [h5 n i s h3 h4 hs,fillI_get _ _ _ _ _ _ _ (by omega)]
 by_cases h6:i≤j∧j<i+n
 ·have hj:j - lo<x.length:=by omega
  cases inF d j with
  | true=>simp
  | false=>simp [h6,hj]
 ·rw [if_neg (fun h7=>h6 ⟨h7.1,h7.2.1⟩),if_neg h6]
end Go.Ev

