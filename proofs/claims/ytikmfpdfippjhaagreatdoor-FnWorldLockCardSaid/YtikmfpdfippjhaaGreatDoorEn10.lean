/- My texts joined: EvT26, EvT27, EvT28, EvM2, EvT30, EvW3, EvW4. No condition. -/
import Derived.Test.YtikmfpdfippjhaaGreatDoorEn8
import Derived.Test.YtikmfpdfippjhaaGreatDoorEn9
set_option linter.unusedVariables false
set_option linter.unusedSimpArgs false

set_option maxRecDepth 100000
set_option maxHeartbeats 4000000
namespace Go.Ev
open Go.Proofs
def chgJ (t:List UInt8) (h d:List Sp) (may:Bool) (t':List UInt8) (f g:Nat→Bool):Out :=
  if ownOk t h d=true then
    if may=true then (if ownOk t' (spansF f 48 0) (spansF g 48 0)=true then rOB t' (spansF f 48 0) (spansF g 48 0) true else rOB t h d false)
    else rOB t h d false
  else rOB [] [] [] false
theorem ev_changed_one (m mb mf:M) (hm:m.isOwn=false) (t:List UInt8) (h d:List Sp) (may:Bool) (cl:FuncId) (l l2:L) (t':List UInt8) (f g:Nat→Bool) (b:OwB t h d) (hsig:E.sig cl=[.io,.ro,.ro]∧E.alt2 cl=none) (ht':may=true→ownOk t h d=true→t'.length=48)
    (hcl:may=true→ownOk t h d=true→∀ m1 m2,ev E cl ([.io false [.sl (rowsOfBytes t)],.v m1 true (pl (inF h)),.v m2 true (pl (inF d))]++([l]:List L).map fun l=>.v mf false [l])=some { rs:=[.v .own true (pl f),.v .own true (pl g)],outs:=[(.own,[.sl (rowsOfBytes t')])] }) :
    ev E 127 [.v m true (owL t h d),.v mb false [.bool may],.v mf false [.fn cl [l]]]=some (chgJ t h d may t' f g):=by
  have bt:=b.t
  have bh:=b.h
  have bd:=b.d
  have c1:=fun m hm=>ev_impl_OwnOk m hm t h d (by omega) (by omega) (by omega)
  have c3:=fun m hm=>ev_kept m hm t h d b
  rw [ev_fn Tryz.f127 rfl Tryz.func127 rfl rfl rfl (Nat.le_of_ble_eq_true rfl)]
  cases e1:ownOk t h d
  · simp [c1,e1,hm,chgJ]
  · cases may with
    | false=>simp [c1,c3,e1,hm,chgJ]
    | true =>
      have hcl:=hcl rfl e1
      have ht':=ht' rfl e1
      simp only [List.map_cons,List.map_nil,List.cons_append,List.nil_append] at hcl
      obtain ⟨ht,hsh,hsd,_⟩:=ownOk_t e1
      have hne:t≠[]:=by intro e;rw [e] at ht;simp at ht
      have c4:∀ m,ev E 42 [.v m false [.sl (h.map spL)]]=some { rs:=[.v .own true (pl (inF h))],outs:=[] }:=fun m=>ev_impl_of m h (by omega) fun s hs=>by have:=spsOk_sp hsh s hs;omega
      have c5:∀ m,ev E 42 [.v m false [.sl (d.map spL)]]=some { rs:=[.v .own true (pl (inF d))],outs:=[] }:=fun m=>ev_impl_of m d (by omega) fun s hs=>by have:=spsOk_sp hsd s hs;omega
      have l1:=spansF_len f 48 0
      have l2:=spansF_len g 48 0
      have c6:=fun m=>ev_spans m f
      have c7:=fun m=>ev_spans m g
      have hbr:=bytes_rows t'
      simp only [chgJ,e1,if_true]
      generalize spansF f 48 0=h' at *
      generalize spansF g 48 0=d' at *
      have c8:=fun m hm=>ev_impl_OwnOk m hm t' h' d' (by omega) (by omega) (by omega)
      cases e3:ownOk t' h' d'<;>simp [c1,e1,e3,hm,hne,ht,c3,c4,c5,c6,c7,c8,hcl,hsig.1,hsig.2,hbr,pl_ff]
theorem ev_changed_two (m mb mf:M) (hm:m.isOwn=false) (t:List UInt8) (h d:List Sp) (may:Bool) (cl:FuncId) (l l2:L) (t':List UInt8) (f g:Nat→Bool) (b:OwB t h d) (hsig:E.sig cl=[.io,.ro,.ro]∧E.alt2 cl=none) (ht':may=true→ownOk t h d=true→t'.length=48)
    (hcl:may=true→ownOk t h d=true→∀ m1 m2,ev E cl ([.io false [.sl (rowsOfBytes t)],.v m1 true (pl (inF h)),.v m2 true (pl (inF d))]++([l,l2]:List L).map fun l=>.v mf false [l])=some { rs:=[.v .own true (pl f),.v .own true (pl g)],outs:=[(.own,[.sl (rowsOfBytes t')])] }) :
    ev E 127 [.v m true (owL t h d),.v mb false [.bool may],.v mf false [.fn cl [l,l2]]]=some (chgJ t h d may t' f g):=by
  have bt:=b.t
  have bh:=b.h
  have bd:=b.d
  have c1:=fun m hm=>ev_impl_OwnOk m hm t h d (by omega) (by omega) (by omega)
  have c3:=fun m hm=>ev_kept m hm t h d b
  rw [ev_fn Tryz.f127 rfl Tryz.func127 rfl rfl rfl (Nat.le_of_ble_eq_true rfl)]
  cases e1:ownOk t h d
  · simp [c1,e1,hm,chgJ]
  · cases may with
    | false=>simp [c1,c3,e1,hm,chgJ]
    | true =>
      have hcl:=hcl rfl e1
      have ht':=ht' rfl e1
      simp only [List.map_cons,List.map_nil,List.cons_append,List.nil_append] at hcl
      obtain ⟨ht,hsh,hsd,_⟩:=ownOk_t e1
      have hne:t≠[]:=by intro e;rw [e] at ht;simp at ht
      have c4:∀ m,ev E 42 [.v m false [.sl (h.map spL)]]=some { rs:=[.v .own true (pl (inF h))],outs:=[] }:=fun m=>ev_impl_of m h (by omega) fun s hs=>by have:=spsOk_sp hsh s hs;omega
      have c5:∀ m,ev E 42 [.v m false [.sl (d.map spL)]]=some { rs:=[.v .own true (pl (inF d))],outs:=[] }:=fun m=>ev_impl_of m d (by omega) fun s hs=>by have:=spsOk_sp hsd s hs;omega
      have l1:=spansF_len f 48 0
      have l2:=spansF_len g 48 0
      have c6:=fun m=>ev_spans m f
      have c7:=fun m=>ev_spans m g
      have hbr:=bytes_rows t'
      simp only [chgJ,e1,if_true]
      generalize spansF f 48 0=h' at *
      generalize spansF g 48 0=d' at *
      have c8:=fun m hm=>ev_impl_OwnOk m hm t' h' d' (by omega) (by omega) (by omega)
      cases e3:ownOk t' h' d'<;>simp [c1,e1,e3,hm,hne,ht,c3,c4,c5,c6,c7,c8,hcl,hsig.1,hsig.2,hbr,pl_ff]
theorem rows_set (s:List UInt8) (i:Nat) (c:UInt8):(rowsOfBytes s).set i [.int .u8 c.toNat]=rowsOfBytes (s.set i c):=by
  simp [rowsOfBytes,List.map_set]
def setB (c:UInt8):Nat→Nat→List UInt8→List UInt8
  | 0,_,s=>s
  | n+1,i,s=>setB c n (i+1) (s.set i c)
theorem setB_len (c:UInt8):∀ n i s,(setB c n i s).length=s.length
  | 0,_,_=>rfl
  | n+1,i,s=>by rw [setB,setB_len c n (i+1)];simp
theorem setB_get (c:UInt8):∀ (n i:Nat) (s:List UInt8) (j:Nat),i+n≤s.length→(setB c n i s)[j]?=if i≤j∧j<i+n then some c else s[j]?
  | 0,i,s,j,h=>by rw [if_neg (by omega)];rfl
  | n+1,i,s,j,h=>by
    rw [setB,setB_get c n (i+1) (s.set i c) j (by simp;omega)]
    by_cases e:j=i
    · subst e
      rw [if_neg (by omega),if_pos (by omega),List.getElem?_set_self (by omega)]
    · rw [List.getElem?_set_ne (Ne.symm e)]
      by_cases h2:i≤j∧j<i+(n+1)
      · rw [if_pos h2,if_pos (by omega)]
      · rw [if_neg h2,if_neg (by omega)]
theorem overS_get (s x:List UInt8) (lo hi:Nat) (h1:lo≤hi) (h2:hi≤s.length) (hx:x.length=hi - lo) (j:Nat):(overS s ((lo:Int),(hi:Int)) x)[j]?=if lo≤j∧j<hi then x[j - lo]? else s[j]?:=by
  simp only [overS,wrap_i]
  by_cases a1:j<lo
  · rw [List.append_assoc,List.getElem?_append_left (by simp;omega),List.getElem?_take_of_lt a1,if_neg (by omega)]
  · by_cases a2:j<hi
    · rw [if_pos ⟨by omega,a2⟩,List.append_assoc,List.getElem?_append_right (by simp;omega),List.getElem?_append_left (by simp;omega)]
      congr 1
      simp
      omega
    · rw [if_neg (by omega),List.getElem?_append_right (by simp;omega),List.getElem?_drop]
      congr 1
      simp
      omega
theorem setB_over (c:UInt8) (s:List UInt8) (lo hi:Nat) (h1:lo≤hi) (h2:hi≤s.length):setB c (hi - lo) lo s=overS s ((lo:Int),(hi:Int)) (List.replicate (hi - lo) c):=by
  refine List.ext_getElem? fun j=>?_
  rw [setB_get c _ _ _ _ (by omega),overS_get s _ lo hi h1 h2 (by simp)]
  by_cases e:lo≤j∧j<hi
  · rw [if_pos e,if_pos (by omega),List.getElem?_replicate,if_pos (by omega)]
  · rw [if_neg e,if_neg (by omega)]
theorem over1 (s x:List UInt8) (i j:Nat) (hi:i<s.length) (hj:j<x.length):overS s ((i:Int),(i:Int)+1) ((x.take (j+1)).drop j)=s.set i x[j]:=by
  have hx:(x.take (j+1)).drop j=[x[j]]:=by
    refine List.ext_getElem? fun k=>?_
    cases k with
    | zero=>simp [hj]
    | succ k=>rw [List.getElem?_eq_none (by simp;omega)];simp
  have:=overS_get s [x[j]] i (i+1) (by omega) (by omega) (by simp)
  push_cast at this
  rw [hx]
  refine List.ext_getElem? fun k=>?_
  rw [this k,List.getElem?_set]
  by_cases e:i=k
  · subst e;simp [hi]
  · rw [if_neg e,if_neg (by omega)]
abbrev ato (i:Nat):AV:=.at (.p i) 0 0 0 [] 1 false
abbrev vim (m:M) (i:Int):AV:=.v m false [.int .i64 i]
theorem lp_dropFn (m3:M) (lo hi:Nat) (hhi:hi≤48) (z:Nat→Bool) (f g:Nat→Bool) (a:Code) (ha:a=lp Tryz.f176 0):∀ (n i:Nat) (mi:M) (s:List UInt8),i+n=hi→s.length=48 →
    ∃ me,loopC E (ev E) 176 a { V:=[(0,ato 0),(3,.v m3 false [.ref [.int .i64 lo,.int .i64 hi]]),(5,adc 5),(6,adc 6),(7,adc 7),(8,adc 8),(9,vim mi i)],H:=[ow (.p 0) [.sl (rowsOfBytes s)],bx (.c 5) (pl f),bx (.c 6) (pl g),bx (.c 7) (pl z),bx (.c 8) (pl z)],ps:=[0] } =
      some (.exit 0,{ V:=[(0,ato 0),(3,.v m3 false [.ref [.int .i64 lo,.int .i64 hi]]),(5,adc 5),(6,adc 6),(7,adc 7),(8,adc 8),(9,vim me hi),(15,vb false)],H:=[ow (.p 0) [.sl (rowsOfBytes (setB 46 n i s))],bx (.c 5) (pl f),bx (.c 6) (pl g),bx (.c 7) (pl z),bx (.c 8) (pl z)],ps:=[0] })
  | 0,i,mi,s,h0,hs=>by
    refine ⟨mi,?_⟩
    rw [loopC_of _ _ _ _ ha]
    obtain rfl:i=hi:=by omega
    simp [lp,loopsOf,Tryz.f176,setB]
  | n+1,i,mi,s,h0,hs=>by
    have hlt:i<hi:=by omega
    have hw:=wrapN i (by omega)
    have hi2:i<s.length:=by omega
    have hset:=rows_set s i 46
    obtain ⟨me,ih⟩:=lp_dropFn m3 lo hi hhi z f g a ha n (i+1) .ro (s.set i 46) (by omega) (by simpa using hs)
    refine ⟨me,?_⟩
    push_cast at ih
    rw [loopC_of _ _ _ _ ha]
    clear ha
    simp [lp,loopsOf,Tryz.f176,hlt,hw,hi2,setB]
    rw [← hset] at ih
    simpa using ih
end Go.Ev


set_option maxRecDepth 100000
set_option maxHeartbeats 4000000
namespace Go.Ev
open Go.Proofs
theorem nat_sp {p:Sp} (hp:0≤p.1∧p.1<p.2∧p.2≤48):∃ lo hi:Nat,p=((lo:Int),(hi:Int))∧lo<hi∧hi≤48:=by
  obtain ⟨a,b⟩:=p
  dsimp only at hp
  exact ⟨a.toNat,b.toNat,by simp only [Prod.mk.injEq];omega,by omega,by omega⟩
theorem ev_dropFn (m1 m2 m3:M) (s:List UInt8) (f g:Nat→Bool) (lo hi:Nat) (hp:lo<hi) (hhi:hi≤48) (hs:s.length=48) :
    ev E 176 [.io false [.sl (rowsOfBytes s)],.v m1 true (pl f),.v m2 true (pl g),.v m3 false [.ref [.int .i64 lo,.int .i64 hi]]] =
      some { rs:=[.v .own true (pl fun j=>if inF [((lo:Int),(hi:Int))] j=true then false else f j),.v .own true (pl g)],outs:=[(.own,[.sl (rowsOfBytes (setB 46 (hi - lo) lo s))])] }:=by
  have c1:∀ m,ev E 42 [.v m false [.sl [[.int .i64 lo,.int .i64 hi]]]]=some { rs:=[.v .own true (pl (inF [((lo:Int),(hi:Int))]))],outs:=[] }:=fun m=>ev_impl_of m [((lo:Int),(hi:Int))] (by simp) fun s hs=>by simp only [List.mem_singleton] at hs;subst hs;dsimp only;omega
  have c2:=fun m m' m'' f=>ev_put m m' m'' f (inF [((lo:Int),(hi:Int))]) false
  obtain ⟨me,hl⟩:=lp_dropFn m3 lo hi hhi (fun _=>false) f g _ rfl (hi - lo) lo m3 s (by omega) hs
  rw [ev_fn Tryz.f176 rfl Tryz.func176 rfl rfl rfl (Nat.le_of_ble_eq_true rfl)]
  simp [pl_ff]
  rw [loopC_at ?_ hl]
  · simp [c1,c2,pl_ff]
  · rfl
theorem chgJ_ex (t:List UInt8) (h d:List Sp) (may:Bool) (t':List UInt8) (f g:Nat→Bool):∃ T H D b',chgJ t h d may t' f g=rOB T H D b':=by
  unfold chgJ
  split
  · split
    · split<;>exact ⟨_,_,_,_,rfl⟩
    · exact ⟨_,_,_,_,rfl⟩
  · exact ⟨_,_,_,_,rfl⟩
theorem ev_dropFnP (m1 m2 m3:M) (s:List UInt8) (f g:Nat→Bool) (p:Sp) (hp:0≤p.1∧p.1<p.2∧p.2≤48) (hs:s.length=48) :
    ev E 176 [.io false [.sl (rowsOfBytes s)],.v m1 true (pl f),.v m2 true (pl g),.v m3 false [.ref (spL p)]] =
      some { rs:=[.v .own true (pl fun j=>if inF [p] j=true then false else f j),.v .own true (pl g)],outs:=[(.own,[.sl (rowsOfBytes (setB 46 (p.2.toNat - p.1.toNat) p.1.toNat s))])] }:=by
  obtain ⟨lo,hi,rfl,hp1,hp2⟩:=nat_sp hp
  exact ev_dropFn m1 m2 m3 s f g lo hi hp1 hp2 hs
def dropMay (t:List UInt8) (h d:List Sp) (p:Sp):Bool:=spOk p&&eqI (patI t h d p).length 0
theorem ev_impl_OwnDrop (m m':M) (hm:m.isOwn=false) (t:List UInt8) (h d:List Sp) (p:Sp) (b:OwB t h d) :
    ev E 125 [.v m true (owL t h d),.v m' true (spL p)]=some (chgJ t h d (dropMay t h d p) (setB 46 (p.2.toNat - p.1.toNat) p.1.toNat t) (fun j=>if inF [p] j=true then false else inF h j) (inF d)):=by
  have c1:=fun m=>ev_impl_SpanOk m p
  have c0:=fun m m' hm=>ev_OwnPatches m m' hm t h d p b
  have c2:=fun m mb mf hm=>ev_changed_one m mb mf hm t h d (dropMay t h d p) 176 (.ref (spL p)) (.int .i64 0) _ _ _ b ⟨rfl,rfl⟩ (fun _ e=>by rw [setB_len];exact (ownOk_t e).1) (fun h1 h2 m1 m2=>ev_dropFnP m1 m2 mf t (inF h) (inF d) p (spOk_iff.1 (by simp only [dropMay,Bool.and_eq_true] at h1;exact h1.1)) (ownOk_t h2).1)
  obtain ⟨T,H,D,b',hr⟩:=chgJ_ex t h d (dropMay t h d p) (setB 46 (p.2.toNat - p.1.toNat) p.1.toNat t) (fun j=>if inF [p] j=true then false else inF h j) (inF d)
  rw [hr] at c2 ⊢
  simp only [dropMay] at c2
  rw [ev_fn Tryz.f125 rfl Tryz.func125 rfl rfl rfl (Nat.le_of_ble_eq_true rfl)]
  cases e1:spOk p
  · simp only [e1,Bool.false_and] at c2
    simp [c1,e1,c2,hm]
  · simp only [e1,Bool.true_and] at c2
    simp [c0,c1,e1,c2,hm]
end Go.Ev


set_option maxRecDepth 100000
set_option maxHeartbeats 4000000
namespace Go.Ev
open Go.Proofs
def fillI (g:Nat→Bool) (x:List UInt8) (lo:Nat):Nat→Nat→List UInt8→List UInt8
  | 0,_,s=>s
  | n+1,i,s=>fillI g x lo n (i+1) (if g i=true then s else s.set i (x.getD (i - lo) 0))
theorem fillI_len (g:Nat→Bool) (x:List UInt8) (lo:Nat):∀ (n i:Nat) (s:List UInt8),(fillI g x lo n i s).length=s.length
  | 0,_,_=>rfl
  | n+1,i,s=>by
    rw [fillI,fillI_len g x lo n (i+1)]
    split<;>simp
theorem lp_fillFn (m3 m4:M) (x:List UInt8) (lo hi:Nat) (hlo:lo≤hi) (hhi:hi≤48) (hx:x.length=hi - lo) (z:Nat→Bool) (f g:Nat→Bool) (a:Code) (ha:a=lp Tryz.f128 0):∀ (n i:Nat) (mi:M) (s:List UInt8),i+n=hi→lo≤i→s.length=48 →
    ∃ me,loopC E (ev E) 128 a { V:=[(0,ato 0),(3,.v m3 false [.ref [.int .i64 lo,.int .i64 hi]]),(4,.v m4 false [.ref [.str x]]),(6,adc 6),(7,adc 7),(8,adc 8),(9,adc 9),(10,vim mi i)],H:=[ow (.p 0) [.sl (rowsOfBytes s)],bx (.c 6) (pl f),bx (.c 7) (pl g),bx (.c 8) (pl z),bx (.c 9) (pl z)],ps:=[0] } =
      some (.exit 0,{ V:=[(0,ato 0),(3,.v m3 false [.ref [.int .i64 lo,.int .i64 hi]]),(4,.v m4 false [.ref [.str x]]),(6,adc 6),(7,adc 7),(8,adc 8),(9,adc 9),(10,vim me hi),(16,vb false)],H:=[ow (.p 0) [.sl (rowsOfBytes (fillI g x lo n i s))],bx (.c 6) (pl f),bx (.c 7) (pl g),bx (.c 8) (pl z),bx (.c 9) (pl z)],ps:=[0] })
  | 0,i,mi,s,h0,h1,hs=>by
    refine ⟨mi,?_⟩
    rw [loopC_of _ _ _ _ ha]
    obtain rfl:i=hi:=by omega
    simp [lp,loopsOf,Tryz.f128,fillI]
  | n+1,i,mi,s,h0,h1,hs=>by
    have hlt:i<hi:=by omega
    have hw:=wrapN i (by omega)
    have hi2:i<s.length:=by omega
    have hi48:i<48:=by omega
    have hI:(i:Int)<48:=by omega
    have pt:=pl_take g hi48
    have pg:=pl_get g hi48
    cases e:g i
    · obtain ⟨me,ih⟩:=lp_fillFn m3 m4 x lo hi hlo hhi hx z f g a ha n (i+1) .ro (s.set i (x.getD (i - lo) 0)) (by omega) (by omega) (by simpa using hs)
      refine ⟨me,?_⟩
      push_cast at ih
      rw [loopC_of _ _ _ _ ha]
      clear ha
      have w2:IntKind.i64.wrap ((i:Int) - lo)=((i - lo:Nat):Int):=by rw [wrap64]<;>omega
      have hj:i - lo<x.length:=by omega
      have hset:=rows_set s i (x.getD (i - lo) 0)
      simp [lp,loopsOf,Tryz.f128,hlt,hw,hi2,fillI,e,hI,hi48,pt,pg,show i≤48 by omega,show 1≤48 - i by omega,w2,hj]
      rw [← hset] at ih
      simpa [hj] using ih
    · obtain ⟨me,ih⟩:=lp_fillFn m3 m4 x lo hi hlo hhi hx z f g a ha n (i+1) .ro s (by omega) (by omega) hs
      refine ⟨me,?_⟩
      push_cast at ih
      rw [loopC_of _ _ _ _ ha]
      clear ha
      simp [lp,loopsOf,Tryz.f128,hlt,hw,hi2,fillI,e,hI,hi48,pt,pg,show i≤48 by omega,show 1≤48 - i by omega]
      simpa using ih
theorem ev_fillFn (m1 m2 m3 m4:M) (s x:List UInt8) (f g:Nat→Bool) (lo hi:Nat) (hp:lo<hi) (hhi:hi≤48) (hx:x.length=hi - lo) (hs:s.length=48) :
    ev E 128 [.io false [.sl (rowsOfBytes s)],.v m1 true (pl f),.v m2 true (pl g),.v m3 false [.ref [.int .i64 lo,.int .i64 hi]],.v m4 false [.ref [.str x]]] =
      some { rs:=[.v .own true (pl fun j=>if inF [((lo:Int),(hi:Int))] j=true then true else f j),.v .own true (pl g)],outs:=[(.own,[.sl (rowsOfBytes (fillI g x lo (hi - lo) lo s))])] }:=by
  have c1:∀ m,ev E 42 [.v m false [.sl [[.int .i64 lo,.int .i64 hi]]]]=some { rs:=[.v .own true (pl (inF [((lo:Int),(hi:Int))]))],outs:=[] }:=fun m=>ev_impl_of m [((lo:Int),(hi:Int))] (by simp) fun s hs=>by simp only [List.mem_singleton] at hs;subst hs;dsimp only;omega
  have c2:=fun m m' m'' f=>ev_put m m' m'' f (inF [((lo:Int),(hi:Int))]) true
  obtain ⟨me,hl⟩:=lp_fillFn m3 m4 x lo hi (by omega) hhi hx (fun _=>false) f g _ rfl (hi - lo) lo m3 s (by omega) (by omega) hs
  rw [ev_fn Tryz.f128 rfl Tryz.func128 rfl rfl rfl (Nat.le_of_ble_eq_true rfl)]
  simp [pl_ff]
  rw [loopC_at ?_ hl]
  · simp [c1,c2,pl_ff]
  · rfl
theorem ev_fillFnP (m1 m2 m3 m4:M) (s x:List UInt8) (f g:Nat→Bool) (p:Sp) (hp:0≤p.1∧p.1<p.2∧p.2≤48) (hx:(x.length:Int)=p.2 - p.1) (hs:s.length=48) :
    ev E 128 [.io false [.sl (rowsOfBytes s)],.v m1 true (pl f),.v m2 true (pl g),.v m3 false [.ref (spL p)],.v m4 false [.ref [.str x]]] =
      some { rs:=[.v .own true (pl fun j=>if inF [p] j=true then true else f j),.v .own true (pl g)],outs:=[(.own,[.sl (rowsOfBytes (fillI g x p.1.toNat (p.2.toNat - p.1.toNat) p.1.toNat s))])] }:=by
  obtain ⟨lo,hi,rfl,hp1,hp2⟩:=nat_sp hp
  dsimp only at hx
  exact ev_fillFn m1 m2 m3 m4 s x f g lo hi hp1 hp2 (by omega) hs
theorem fillOk_sp {p:Sp} {x:List UInt8} (e:fillOk p x=true):(0≤p.1∧p.1<p.2∧p.2≤48)∧(x.length:Int)=p.2 - p.1:=by
  simp only [fillOk,Bool.and_eq_true] at e
  exact ⟨spOk_iff.1 e.1.1,eqI_iff.1 e.2⟩
theorem ev_impl_OwnFill (m m' m'':M) (hm:m.isOwn=false) (t:List UInt8) (h d:List Sp) (p:Sp) (x:List UInt8) (b:OwB t h d) (hx:x.length≤4000000) :
    ev E 87 [.v m true (owL t h d),.v m' true (spL p),.v m'' false [.str x]]=some (chgJ t h d (fillOk p x) (fillI (inF d) x p.1.toNat (p.2.toNat - p.1.toNat) p.1.toNat t) (fun j=>if inF [p] j=true then true else inF h j) (inF d)):=by
  have c1:=fun m=>ev_impl_SpanOk m p
  have c0:=fun m=>ev_impl_TextOk m x (by omega)
  have c2:=fun m mb mf hm=>ev_changed_two m mb mf hm t h d (fillOk p x) 128 (.ref (spL p)) (.ref [.str x]) _ _ _ b ⟨rfl,rfl⟩ (fun _ e=>by rw [fillI_len];exact (ownOk_t e).1) (fun h1 h2 m1 m2=>ev_fillFnP m1 m2 mf mf t x (inF h) (inF d) p (fillOk_sp h1).1 (fillOk_sp h1).2 (ownOk_t h2).1)
  obtain ⟨T,H,D,b',hr⟩:=chgJ_ex t h d (fillOk p x) (fillI (inF d) x p.1.toNat (p.2.toNat - p.1.toNat) p.1.toNat t) (fun j=>if inF [p] j=true then true else inF h j) (inF d)
  rw [hr] at c2 ⊢
  simp only [fillOk] at c2
  rw [ev_fn Tryz.f87 rfl Tryz.func87 rfl rfl rfl (Nat.le_of_ble_eq_true rfl)]
  cases e1:spOk p
  · simp only [e1,Bool.false_and] at c2
    simp [c1,e1,c2,hm]
  · simp only [e1,Bool.true_and] at c2
    have hp:=spOk_iff.1 e1
    have hw:IntKind.i64.wrap (p.2 - p.1)=p.2 - p.1:=by rw [wrap64]<;>omega
    cases e4:(x.all okB&&!ltI 48 x.length)
    · simp only [e4,Bool.false_and] at c2
      simp [c0,c1,e1,e4,c2,hm,-Bool.and_eq_false_imp,-List.all_eq_true,-List.all_eq_false,-Bool.and_eq_true]
    · simp only [e4,Bool.true_and] at c2
      simp [c0,c1,e1,e4,hw,c2,hm,-Bool.and_eq_false_imp,-List.all_eq_true,-List.all_eq_false,-Bool.and_eq_true]
theorem addS_spans (h:List Sp) (p:Sp):spansF (fun j=>if inF [p] j=true then true else inF h j) 48 0=addS h p :=
  spans_of fun j _=>by simp [inF]
theorem drop_eq (t:List UInt8) (h d:List Sp) (p:Sp):chgJ t h d (dropMay t h d p) (setB 46 (p.2.toNat - p.1.toNat) p.1.toNat t) (fun j=>if inF [p] j=true then false else inF h j) (inF d)=dropS t h d p:=by
  unfold chgJ dropS
  cases e:ownOk t h d with
  | false=>rfl
  | true =>
    obtain ⟨ht,_,hsd,_⟩:=ownOk_t e
    have h1:spansF (inF d) 48 0=d:=by rw [spans_of (g:=inF d) (fun j _=>rfl)];exact of_self hsd fun j _=>rfl
    have h2:spansF (fun j=>if inF [p] j=true then false else inF h j) 48 0=cutS h p:=spans_of fun j _=>by simp [inF]
    rw [h1,h2]
    cases e2:spOk p with
    | false=>simp [dropMay,e2]
    | true =>
      obtain ⟨lo,hi,rfl,hp1,hp2⟩:=nat_sp (spOk_iff.1 e2)
      have h3:=setB_over 46 t lo hi (by omega) (by omega)
      have h4:((hi:Int) - (lo:Int)).toNat=hi - lo:=by omega
      simp only [wrap_i,h3,h4,dropMay,e2,patI,e,Bool.true_and,if_true]
      cases patF t ((lo:Int),(hi:Int)) d with
      | nil=>simp [ltI,eqI]
      | cons q qs =>
        have:¬ ((qs.length:Int)+1=0):=by omega
        have:(0:Int)<(qs.length:Int)+1:=by omega
        simp [ltI,eqI, *]
theorem fill_eq (t:List UInt8) (h d:List Sp) (p:Sp) (x:List UInt8):chgJ t h d (fillOk p x) (fillI (inF d) x p.1.toNat (p.2.toNat - p.1.toNat) p.1.toNat t) (fun j=>if inF [p] j=true then true else inF h j) (inF d)=fillS t h d p x:=by
  unfold chgJ fillS
  cases e:ownOk t h d with
  | false=>rfl
  | true =>
    obtain ⟨ht,_,hsd,_⟩:=ownOk_t e
    have h1:spansF (inF d) 48 0=d:=by rw [spans_of (g:=inF d) (fun j _=>rfl)];exact of_self hsd fun j _=>rfl
    rw [h1,addS_spans]
    cases e2:fillOk p x with
    | false=>simp
    | true =>
      obtain ⟨hp,hx⟩:=fillOk_sp e2
      obtain ⟨lo,hi,rfl,hp1,hp2⟩:=nat_sp hp
      have h4:((hi:Int) - (lo:Int)).toNat=hi - lo:=by omega
      dsimp only at hx
      have h5:∀ n i (s:List UInt8),i+n=hi→lo≤i→s.length=48→fillI (inF d) x lo n i s=fillT d x lo n i s:=by
        intro n
        induction n with
        | zero=>intro i s _ _ _;rfl
        | succ n ih =>
          intro i s hi2 hlo hs
          simp only [fillI,fillT]
          cases inF d i with
          | true=>exact ih (i+1) s (by omega) (by omega) hs
          | false =>
            have hj:i - lo<x.length:=by omega
            have:=over1 s x i (i - lo) (by omega) hj
            simp only [Bool.false_eq_true,if_false,this,List.getD_eq_getElem?_getD,List.getElem?_eq_getElem hj,Option.getD_some]
            exact ih (i+1) _ (by omega) (by omega) (by simpa using hs)
      simp only [wrap_i,h4,h5 (hi - lo) lo t (by omega) (Nat.le_refl lo) ht]
end Go.Ev


namespace Go.Ev
open Go.Proofs
theorem addS_get (h:List Sp) (p:Sp) (j:Nat) (hj:j<48):inF (addS h p) j=(inSp j p || inF h j):=by
  have:=(of_can fun j=>if inSp j p=true then true else h.any (inSp j)).2 j hj
  rw [addS,this]
  cases inSp j p<;>simp [inF]
theorem fillI_get (g:Nat→Bool) (x:List UInt8) (lo:Nat):∀ (n i:Nat) (s:List UInt8) (j:Nat),i+n≤s.length→(fillI g x lo n i s)[j]?=if i≤j∧j<i+n∧g j=false then some (x.getD (j - lo) 0) else s[j]?
  | 0,i,s,j,h=>by rw [if_neg (by omega)];rfl
  | n+1,i,s,j,h=>by
    have hl:(if g i=true then s else s.set i (x.getD (i - lo) 0)).length=s.length:=by split<;>simp
    rw [fillI,fillI_get g x lo n (i+1) _ j (by rw [hl];omega)]
    by_cases e:j=i
    · subst e
      rw [if_neg (by omega)]
      cases e2:g j with
      | true=>simp
      | false =>
        simp [show j<s.length by omega]
    · have hk:(if g i=true then s else s.set i (x.getD (i - lo) 0))[j]?=s[j]?:=by
        split
        · rfl
        · exact List.getElem?_set_ne (Ne.symm e)
      rw [hk]
      cases hg:g j with
      | true=>simp
      | false =>
        simp only [and_true]
        by_cases h2:i≤j∧j<i+(n+1)
        · rw [if_pos h2,if_pos (by omega)]
        · rw [if_neg h2,if_neg (by omega)]
end Go.Ev


set_option maxRecDepth 100000
set_option maxHeartbeats 4000000
namespace Go.Ev
open Go.Proofs
theorem fillT_get (d:List Sp) (x:List UInt8) (lo hi:Nat) (h1:lo≤hi) (h2:hi≤48) (hx:x.length=hi - lo):∀ (n i:Nat) (s:List UInt8) (j:Nat),i+n=hi→lo≤i→s.length=48→(fillT d x lo n i s)[j]?=if i≤j∧j<i+n then (if inF d j=true then s[j]? else x[j - lo]?) else s[j]?:=by
  intro n i s j h3 h4 hs
  have h5:∀ n i (s:List UInt8),i+n=hi→lo≤i→s.length=48→fillT d x lo n i s=fillI (inF d) x lo n i s:=by
    intro n
    induction n with
    | zero=>intro i s _ _ _;rfl
    | succ n ih =>
      intro i s hi2 hlo hs
      simp only [fillI,fillT]
      cases inF d i with
      | true=>exact ih (i+1) s (by omega) (by omega) hs
      | false =>
        have hj:i - lo<x.length:=by omega
        have:=over1 s x i (i - lo) (by omega) hj
        simp only [Bool.false_eq_true,if_false,this,List.getD_eq_getElem?_getD,List.getElem?_eq_getElem hj,Option.getD_some]
        exact ih (i+1) _ (by omega) (by omega) (by simpa using hs)
  rw [h5 n i s h3 h4 hs,fillI_get _ _ _ _ _ _ _ (by omega)]
  by_cases h6:i≤j∧j<i+n
  · have hj:j - lo<x.length:=by omega
    cases inF d j with
    | true=>simp
    | false=>simp [h6,hj]
  · rw [if_neg (fun h7=>h6 ⟨h7.1,h7.2.1⟩),if_neg h6]
end Go.Ev


namespace Go.Ev
structure OwnT where
  t:Bs
  h:List Sp
  d:List Sp
def noO:OwnT:=⟨List.replicate 48 46,[],[]⟩
def OwnT.ok (o:OwnT):Bool:=ownOk o.t o.h o.d
def cleanT (o:OwnT) (p:Sp):OwnT × Bool:=if spOk p=true then (if ownOk o.t o.h (cutS o.d p)=true then (⟨o.t,o.h,cutS o.d p⟩,true) else (o,false)) else (o,false)
def dropT (o:OwnT) (p:Sp):OwnT × Bool :=
  if (spOk p&&eqI (patF o.t p o.d).length 0)=true then
    if ownOk (overS o.t p (List.replicate (p.2 - p.1).toNat 46)) (cutS o.h p) o.d=true then (⟨overS o.t p (List.replicate (p.2 - p.1).toNat 46),cutS o.h p,o.d⟩,true) else (o,false)
  else (o,false)
def fillT1 (o:OwnT) (p:Sp) (x:Bs):OwnT × Bool :=
  if fillOk p x=true then
    if ownOk (fillT o.d x p.1.toNat (p.2 - p.1).toNat p.1.toNat o.t) (addS o.h p) o.d=true then (⟨fillT o.d x p.1.toNat (p.2 - p.1).toNat p.1.toNat o.t,addS o.h p,o.d⟩,true) else (o,false)
  else (o,false)
def writeT1 (o:OwnT) (k:Int) (x:Bs):OwnT × Bool :=
  if wrOk k x=true then
    if ownOk (overS o.t (k,k+x.length) x) (addS o.h (k,k+x.length)) (addS o.d (k,k+x.length))=true then (⟨overS o.t (k,k+x.length) x,addS o.h (k,k+x.length),addS o.d (k,k+x.length)⟩,true) else (o,false)
  else (o,false)
structure WorldT where
  size:Int
  many:Int
  st:StoreT
  locks:List HoldT
  owns:List OwnT
  epochs:List Int
  alive:List Bool
  kept:List ReqT
  late:List ReqT
structure EvT where
  kind:Int
  who:Int
  write:Bool
  span:Sp
  pos:Int
  data:Bs
def WorldT.own (w:WorldT) (i:Nat):OwnT:=w.owns.getD i noO
def WorldT.lock (w:WorldT) (i:Nat):HoldT:=w.locks.getD i noH
def WorldT.ep (w:WorldT) (i:Nat):Int:=w.epochs.getD i 0
def WorldT.live (w:WorldT) (i:Nat):Bool:=w.alive.getD i false
def WorldT.byte (w:WorldT) (j:Nat):UInt8:=fileAt w.size.toNat w.many.toNat w.st.now j
def WorldT.file (w:WorldT):Bs:=(List.range 48).map w.byte
def whole:Sp:=(0,48)
def zeros (qs:List ReqT):List Int:=qs.map fun _=>0
structure WorldP (w:WorldT):Prop where
  lay:1≤w.size∧w.size≤8∧1≤w.many∧w.many≤3
  st:StoreP w.st
  lk:LockP w.locks
  owns:w.owns.length=3
  epochs:w.epochs.length=3
  alive:w.alive.length=3
  lateN:w.late.length≤8
  own:∀ i,i<3→(w.own i).ok=true
  ep:∀ i,i<3→w.st.floors.getD i 0≤w.ep i∧w.ep i≤100
  dead:∀ i,i<3→w.live i=false→w.own i=noO
  kept:storeAll (storeFall w.st) w.kept=(w.st,zeros w.kept)
  keptE:∀ q∈w.kept,q.epoch=w.ep q.who.toNat
  late:∀ q∈w.late,ReqP q∧q.epoch<w.st.floors.getD q.who.toNat 0
  held:∀ i,i<3→∀ j:Nat,j<48→inF (w.own i).h j=true→(inF (w.lock i).w j=true∨(inF (w.own i).d j=false∧inF (w.lock i).r j=true))∧(inF (w.own i).d j=true∨(w.own i).t.getD j 0=w.byte j)
def WorldT.reqs (w:WorldT) (i:Nat) (s:Sp):List ReqT:=reqsAll w.size.toNat w.many.toNat i (w.ep i) (patF (w.own i).t s (w.own i).d) (w.st.last.getD i 0+1)
def flushW (w:WorldT) (i:Nat) (s:Sp):Option WorldT :=
  if ((storeAll w.st (w.reqs i s)).2.all fun c=>eqI c 0)=true then
    if (cleanT (w.own i) s).2=true then some { w with st:=(storeAll w.st (w.reqs i s)).1,owns:=w.owns.set i (cleanT (w.own i) s).1,kept:=w.kept++w.reqs i s } else none
  else none
def putL (t:List HoldT) (i:Nat) (h:HoldT):List HoldT × Bool:=if lockOk (t.set i h)=true then (t.set i h,true) else (t,false)
def lockDrop (t:List HoldT) (i:Nat) (s:Sp):List HoldT × Bool:=putL t i ⟨cutS (t.getD i noH).r s,cutS (t.getD i noH).w s⟩
def lockDown (t:List HoldT) (i:Nat) (s:Sp):List HoldT × Bool:=putL t i ⟨ofL (fun j=>inF (t.getD i noH).r j || (inSp j s&&inF (t.getD i noH).w j)) 48 0 [],cutS (t.getD i noH).w s⟩
def lockGive (t:List HoldT) (i:Nat) (write:Bool) (s:Sp):List HoldT × Bool :=
  if write=true then putL t i ⟨cutS (t.getD i noH).r s,addS (t.getD i noH).w s⟩
  else putL t i ⟨ofL (fun j=>(inSp j s || inF (t.getD i noH).r j)&&!inF (t.getD i noH).w j) 48 0 [],(t.getD i noH).w⟩
def barsAt (t:List HoldT) (i:Nat) (write:Bool) (s:Sp) (k:Nat):Bool:=!(k==i)&&(!clearS (t.getD k noH).w [s] || (write&&!clearS (t.getD k noH).r [s]))
def lockBars (t:List HoldT) (i:Nat) (write:Bool) (s:Sp):List Nat:=(List.range 3).filter (barsAt t i write s)
def yieldW (w:WorldT) (k:Nat) (write:Bool) (s:Sp):Option WorldT :=
  match flushW w k s with
  | none=>none
  | some x =>
    if write=true then
      if ((lockDrop x.locks k s).2&&(dropT (x.own k) s).2)=true then some { x with owns:=x.owns.set k (dropT (x.own k) s).1,locks:=(lockDrop x.locks k s).1 } else none
    else if (lockDown x.locks k s).2=true then some { x with locks:=(lockDown x.locks k s).1 } else none
def yieldsW (write:Bool) (s:Sp):List Nat→WorldT→Option WorldT
  | [],w=>some w
  | k::ks,w=>match yieldW w k write s with | some x=>yieldsW write s ks x | none=>none
def lockW (w:WorldT) (i:Nat) (write:Bool) (s:Sp):WorldT × Int :=
  if ((lockBars w.locks i write s).any fun k=>!w.live k)=true then (w,22)
  else match yieldsW write s (lockBars w.locks i write s) w with
    | none=>(w,24)
    | some x=>if (lockGive x.locks i write s).2=true then ({ x with locks:=(lockGive x.locks i write s).1 },0) else (w,24)
def mayAt (h:HoldT) (write:Bool) (j:Nat):Bool:=inF h.w j || (!write&&inF h.r j)
def lockMay (h:HoldT) (write:Bool) (s:Sp):Bool:=allTo (mayAt h write) (s.2 - s.1).toNat s.1.toNat
def readW (w:WorldT) (i:Nat) (s:Sp):WorldT × Bs × Int :=
  if lockMay (w.lock i) false s=true then
    if (fillT1 (w.own i) s (subS w.file s)).2=true then ({ w with owns:=w.owns.set i (fillT1 (w.own i) s (subS w.file s)).1 },subS (fillT1 (w.own i) s (subS w.file s)).1.t s,0) else (w,[],24)
  else (w,[],23)
def writeW (w:WorldT) (i:Nat) (k:Int) (x:Bs):WorldT × Int :=
  if wrOk k x=true then
    if lockMay (w.lock i) true (k,k+x.length)=true then
      if (writeT1 (w.own i) k x).2=true then ({ w with owns:=w.owns.set i (writeT1 (w.own i) k x).1 },0) else (w,24)
    else (w,23)
  else (w,20)
def addLate:List ReqT→List ReqT→List ReqT
  | late,[]=>late
  | late,q::qs=>if (reqOk q&&ltI late.length 8)=true then addLate (late++[q]) qs else addLate late qs
def evictW (w:WorldT) (i:Nat):WorldT × Int :=
  if ltI (w.ep i) 100=true then
    ({ w with st:=storeFence (storeSync w.st) i (w.ep i+1),kept:=[],epochs:=w.epochs.set i (w.ep i+1),locks:=w.locks.set i noH,owns:=w.owns.set i noO,alive:=w.alive.set i true,late:=addLate w.late (w.reqs i whole) },0)
  else (w,24)
def giveW (w:WorldT) (k:Int):WorldT × Int :=
  if (ltI k 0 || !ltI k w.late.length)=true then (w,20)
  else ({ w with late:=w.late.take k.toNat++w.late.drop (k.toNat+1),st:=(storeDo w.st (w.late.getD k.toNat ⟨0,0,0,0,0,[]⟩)).1 },(storeDo w.st (w.late.getD k.toNat ⟨0,0,0,0,0,[]⟩)).2)
def dieW (w:WorldT) (i:Nat):WorldT:={ w with alive:=w.alive.set i false,owns:=w.owns.set i noO }
def formEv (e:EvT):Bool:=ltI e.kind 1 || ltI 9 e.kind || !whoOk e.who || ((eqI e.kind 1 || eqI e.kind 2)&&!spOk e.span)
def whoW (w:WorldT) (e:EvT):WorldT × Bs × Int :=
  if e.kind=1 then ((lockW w e.who.toNat e.write e.span).1,[],(lockW w e.who.toNat e.write e.span).2)
  else if e.kind=2 then readW w e.who.toNat e.span
  else if e.kind=3 then ((writeW w e.who.toNat e.pos e.data).1,[],(writeW w e.who.toNat e.pos e.data).2)
  else if e.kind=4 then (match flushW w e.who.toNat whole with | some x=>(x,[],0) | none=>(w,[],24))
  else (dieW w e.who.toNat,[],0)
def doW (w:WorldT) (e:EvT):WorldT × Bs × Int :=
  if e.kind=5 then ({ w with st:=storeSync w.st,kept:=[] },[],0)
  else if e.kind=6 then ({ w with st:=(storeAll (storeFall w.st) w.kept).1 },[],0)
  else if e.kind=9 then ((giveW w e.pos).1,[],(giveW w e.pos).2)
  else if formEv e=true then (w,[],20)
  else if e.kind=8 then ((evictW w e.who.toNat).1,[],(evictW w e.who.toNat).2)
  else if w.live e.who.toNat=false then (w,[],21)
  else whoW w e
theorem ownOk_have {o:OwnT} (h:o.ok=true) {j:Nat} (hj:j<48) (hd:inF o.d j=true):inF o.h j=true:=by
  simp only [OwnT.ok,ownOk,Bool.and_eq_true] at h
  have:=(allTo_iff _ 48 0).1 h.2 j (Nat.zero_le j) (by omega)
  simpa [okAt,hd] using this
theorem inF_lt {xs:List Sp} (h:spsOk xs=true) {j:Nat} (hj:inF xs j=true):j<48:=by
  obtain ⟨s,hs,_,h2⟩:=inF_iff.1 hj
  have:=spsOk_sp h s hs
  omega
theorem cleanT_ok {o:OwnT} {p:Sp} (h:(cleanT o p).2=true):spOk p=true∧ownOk o.t o.h (cutS o.d p)=true∧(cleanT o p).1=⟨o.t,o.h,cutS o.d p⟩:=by
  unfold cleanT at h ⊢
  split at h
  · split at h
    · rename_i a b
      exact ⟨a,b,by rw [if_pos a,if_pos b]⟩
    · cases h
  · cases h
theorem dropT_ok {o:OwnT} {p:Sp} (h:(dropT o p).2=true):spOk p=true∧patF o.t p o.d=[]∧(dropT o p).1.ok=true∧(dropT o p).1=⟨overS o.t p (List.replicate (p.2 - p.1).toNat 46),cutS o.h p,o.d⟩:=by
  unfold dropT at h ⊢
  split at h
  · split at h
    · rename_i a b
      rw [if_pos a,if_pos b]
      simp only [Bool.and_eq_true,eqI_iff] at a
      exact ⟨a.1,List.length_eq_zero_iff.1 (by omega),b,rfl⟩
    · cases h
  · cases h
theorem fillT1_ok {o:OwnT} {p:Sp} {x:Bs} (h:(fillT1 o p x).2=true):fillOk p x=true∧(fillT1 o p x).1.ok=true∧(fillT1 o p x).1=⟨fillT o.d x p.1.toNat (p.2 - p.1).toNat p.1.toNat o.t,addS o.h p,o.d⟩:=by
  unfold fillT1 at h ⊢
  split at h
  · split at h
    · rename_i a b
      rw [if_pos a,if_pos b]
      exact ⟨a,b,rfl⟩
    · cases h
  · cases h
theorem writeT1_ok {o:OwnT} {k:Int} {x:Bs} (h:(writeT1 o k x).2=true):wrOk k x=true∧(writeT1 o k x).1.ok=true∧(writeT1 o k x).1=⟨overS o.t (k,k+x.length) x,addS o.h (k,k+x.length),addS o.d (k,k+x.length)⟩:=by
  unfold writeT1 at h ⊢
  split at h
  · split at h
    · rename_i a b
      rw [if_pos a,if_pos b]
      exact ⟨a,b,rfl⟩
    · cases h
  · cases h
theorem putL_ok {t:List HoldT} {i:Nat} {h:HoldT} (e:(putL t i h).2=true):LockP (t.set i h)∧(putL t i h).1=t.set i h:=by
  unfold putL at e ⊢
  split at e
  · rename_i a
    rw [if_pos a]
    exact ⟨lockOk_iff.1 a,rfl⟩
  · cases e
end Go.Ev


namespace Go.Ev
theorem own_set (w:WorldT) (i k:Nat) (o:OwnT) (hl:w.owns.length=3) (hk:k<3):(w.owns.set i o).getD k noO=if i=k then o else w.own k:=by
  rw [getD_set]
  by_cases h:i=k
  · rw [if_pos ⟨h,by omega⟩,if_pos h]
  · rw [if_neg (fun q=>h q.1),if_neg h];rfl
theorem lock_set (t:List HoldT) (i k:Nat) (o:HoldT) (hl:t.length=3) (hk:k<3):(t.set i o).getD k noH=if i=k then o else t.getD k noH:=by
  rw [getD_set]
  by_cases h:i=k
  · rw [if_pos ⟨h,by omega⟩,if_pos h]
  · rw [if_neg (fun q=>h q.1),if_neg h]
theorem ownOk_bd {o:OwnT} (h:o.ok=true):o.t.length=48∧spsOk o.h=true∧spsOk o.d=true∧o.t.all okB=true:=ownOk_t h
theorem noO_ok:noO.ok=true:=by decide
theorem fine_all {cs:List Int}:(cs.all fun c=>eqI c 0)=true↔fineAll cs:=by
  simp only [List.all_eq_true,eqI_iff,fineAll]
theorem WorldP.sole {w:WorldT} (h:WorldP w) {i k j:Nat} (hi:i<3) (hk:k<3) (hne:k≠i) (hj:j<48) (hd:inF (w.own i).d j=true):inF (w.own k).h j=false:=by
  rw [← Bool.not_eq_true]
  intro hh
  have h1:=ownOk_have (h.own i hi) hj hd
  have hw:inF (w.lock i).w j=true:=by
    rcases (h.held i hi j hj h1).1 with q | ⟨q,_⟩
    · exact q
    · rw [hd] at q;cases q
  rcases (h.held k hk j hj hh).1 with q | ⟨_,q⟩
  · exact h.lk.ww i k hi hk hne j ⟨hw,q⟩
  · exact h.lk.wr i k hi hk hne j ⟨hw,q⟩
structure FlushR (w:WorldT) (i:Nat) (s:Sp) (x:WorldT):Prop where
  ok:WorldP x
  size:x.size=w.size
  many:x.many=w.many
  locks:x.locks=w.locks
  epochs:x.epochs=w.epochs
  alive:x.alive=w.alive
  late:x.late=w.late
  own:∀ k,k<3→x.own k=if i=k then ⟨(w.own i).t,(w.own i).h,cutS (w.own i).d s⟩ else w.own k
  byte:∀ j,x.byte j=if (inSp j s&&inF (w.own i).d j)=true then (w.own i).t.getD j 0 else w.byte j
  floors:x.st.floors=w.st.floors
  keptN:w.kept.length≤x.kept.length
theorem flushW_ok {w x:WorldT} {i:Nat} {s:Sp} (hw:WorldP w) (hi:i<3) (ha:w.live i=true) (h:flushW w i s=some x):FlushR w i s x:=by
  unfold flushW at h
  split at h<;>try (cases h;done)
  rename_i hf
  split at h<;>cases h
  rename_i hc
  rw [fine_all] at hf
  obtain ⟨hs,hok,hce⟩:=cleanT_ok hc
  have hp:=spOk_iff.1 hs
  obtain ⟨ht,hsh,hsd,hob⟩:=ownOk_bd (hw.own i hi)
  obtain ⟨l1,l2,l3,l4⟩:=hw.lay
  obtain ⟨k1,k2,k3⟩:=storeAll_keeps (w.reqs i s) w.st
  have hby:∀ j,fileAt w.size.toNat w.many.toNat (storeAll w.st (w.reqs i s)).1.now j=if (inSp j s&&inF (w.own i).d j)=true then (w.own i).t.getD j 0 else w.byte j:=fun j =>
    reqsAll_file (by omega) (by omega) (by omega) (w.own i).t s ht hp (w.own i).d _ w.st hw.st (spsOk_sp hsd) hf j
  have hown:∀ k,k<3→(w.owns.set i (cleanT (w.own i) s).1).getD k noO=if i=k then ⟨(w.own i).t,(w.own i).h,cutS (w.own i).d s⟩ else w.own k:=fun k hk=>by
    rw [own_set w i k _ hw.owns hk,hce]
  have hcd:∀ j,j<48→inF (cutS (w.own i).d s) j=(!inSp j s&&inF (w.own i).d j):=cutS_get (w.own i).d s
  refine ⟨⟨hw.lay,storeAll_ok (s:=w.st) _ hw.st,hw.lk,by simpa using hw.owns,hw.epochs,hw.alive,hw.lateN,fun k hk=>?_,fun k hk=>?_,fun k hk hd=>?_,?_,fun q hq=>?_,fun q hq=>?_,fun k hk j hj hh=>?_⟩,rfl,rfl,rfl,rfl,rfl,rfl,hown,hby,k3,by simp⟩
  · show OwnT.ok ((w.owns.set i (cleanT (w.own i) s).1).getD k noO)=true
    rw [hown k hk]
    split
    · exact hok
    · exact hw.own k hk
  · show (storeAll w.st (w.reqs i s)).1.floors.getD k 0≤_∧_
    rw [k3];exact hw.ep k hk
  · show (w.owns.set i (cleanT (w.own i) s).1).getD k noO=noO
    rw [hown k hk]
    have hne:i≠k:=fun e=>by
      subst e
      rw [show w.live i=false from hd] at ha;cases ha
    rw [if_neg hne]
    exact hw.dead k hk hd
  · show storeAll (storeFall (storeAll w.st (w.reqs i s)).1) (w.kept++w.reqs i s)=((storeAll w.st (w.reqs i s)).1,zeros (w.kept++w.reqs i s))
    rw [storeFall_all,storeAll_app,hw.kept]
    dsimp only
    congr 1
    simp only [zeros,List.map_append,List.append_cancel_left_eq]
    have hl:=storeAll_len (w.reqs i s) w.st
    generalize (storeAll w.st (w.reqs i s)).2=cs at hf hl
    refine List.ext_getElem (by simp [hl]) fun n h1 h2=>?_
    rw [hf _ (List.getElem_mem h1)]
    simp
  · rcases List.mem_append.1 hq with hq | hq
    · exact hw.keptE q hq
    · obtain ⟨e1,e2⟩:=reqsAll_who _ _ _ _ _ _ q hq
      rw [e1,e2]
      rfl
  · show ReqP q∧q.epoch<(storeAll w.st (w.reqs i s)).1.floors.getD q.who.toNat 0
    rw [k3];exact hw.late q hq
  · have hbk:=hby j
    change inF ((w.owns.set i (cleanT (w.own i) s).1).getD k noO).h j=true at hh
    show (inF (w.lock k).w j=true∨(inF ((w.owns.set i (cleanT (w.own i) s).1).getD k noO).d j=false∧inF (w.lock k).r j=true))∧(inF ((w.owns.set i (cleanT (w.own i) s).1).getD k noO).d j=true∨((w.owns.set i (cleanT (w.own i) s).1).getD k noO).t.getD j 0=fileAt w.size.toNat w.many.toNat (storeAll w.st (w.reqs i s)).1.now j)
    rw [hown k hk] at hh ⊢
    rw [hbk]
    by_cases hik:i=k
    · subst hik
      simp only [if_true] at hh ⊢
      obtain ⟨g1,g2⟩:=hw.held i hi j hj hh
      rw [hcd j hj]
      constructor
      · rcases g1 with g | ⟨g,g'⟩
        · exact .inl g
        · exact .inr ⟨by rw [g];simp,g'⟩
      · cases e1:inF (w.own i).d j
        · rw [e1] at g2
          simp only [Bool.false_eq_true,false_or] at g2
          right
          simp only [Bool.and_false,Bool.false_eq_true,if_false]
          exact g2
        · cases e2:inSp j s
          · left;rfl
          · right;simp
    · rw [if_neg hik] at hh ⊢
      obtain ⟨g1,g2⟩:=hw.held k hk j hj hh
      refine ⟨g1,?_⟩
      have:inF (w.own i).d j=false:=by
        rw [← Bool.not_eq_true]
        intro hd
        have:=hw.sole hi hk (fun e=>hik e.symm) hj hd
        rw [hh] at this;cases this
      rw [this,Bool.and_false]
      exact g2
theorem WorldP.turn {w:WorldT} (hw:WorldP w) {i:Nat} (hi:i<3) (o:OwnT) (h:HoldT) (hl:LockP (w.locks.set i h)) (ho:o.ok=true) (ha:w.live i=true)
    (hh:∀ j:Nat,j<48→inF o.h j=true→(inF h.w j=true∨(inF o.d j=false∧inF h.r j=true))∧(inF o.d j=true∨o.t.getD j 0=w.byte j)) :
    WorldP { w with owns:=w.owns.set i o,locks:=w.locks.set i h }:=by
  have hown:∀ k,k<3→(w.owns.set i o).getD k noO=if i=k then o else w.own k:=fun k hk=>own_set w i k _ hw.owns hk
  have hlk:∀ k,k<3→(w.locks.set i h).getD k noH=if i=k then h else w.lock k:=fun k hk=>lock_set w.locks i k _ hw.lk.len hk
  refine ⟨hw.lay,hw.st,hl,by simpa using hw.owns,hw.epochs,hw.alive,hw.lateN,fun k hk=>?_,hw.ep,fun k hk hd=>?_,hw.kept,hw.keptE,hw.late,fun k hk j hj hhv=>?_⟩
  · show OwnT.ok ((w.owns.set i o).getD k noO)=true
    rw [hown k hk]
    split
    · exact ho
    · exact hw.own k hk
  · show (w.owns.set i o).getD k noO=noO
    rw [hown k hk]
    have hne:i≠k:=fun e=>by
      subst e
      rw [show w.live i=false from hd] at ha;cases ha
    rw [if_neg hne]
    exact hw.dead k hk hd
  · change inF ((w.owns.set i o).getD k noO).h j=true at hhv
    show (inF ((w.locks.set i h).getD k noH).w j=true∨(inF ((w.owns.set i o).getD k noO).d j=false∧inF ((w.locks.set i h).getD k noH).r j=true))∧(inF ((w.owns.set i o).getD k noO).d j=true∨((w.owns.set i o).getD k noO).t.getD j 0=w.byte j)
    rw [hown k hk] at hhv ⊢
    rw [hlk k hk]
    by_cases hik:i=k
    · simp only [if_pos hik] at hhv ⊢
      exact hh j hj hhv
    · simp only [if_neg hik] at hhv ⊢
      exact hw.held k hk j hj hhv
theorem own_self (w:WorldT) {i:Nat} (h:w.owns.length=3) (hi:i<3):w.owns.set i (w.own i)=w.owns:=by
  have:i<w.owns.length:=by omega
  rw [show w.own i=w.owns[i] by simp [WorldT.own,List.getD_eq_getElem?_getD,this]]
  exact List.set_getElem_self this
theorem lock_self (w:WorldT) {i:Nat} (h:w.locks.length=3) (hi:i<3):w.locks.set i (w.lock i)=w.locks:=by
  have:i<w.locks.length:=by omega
  rw [show w.lock i=w.locks[i] by simp [WorldT.lock,List.getD_eq_getElem?_getD,this]]
  exact List.set_getElem_self this
theorem of_get (f:Nat→Bool) {j:Nat} (hj:j<48):inF (ofL f 48 0 []) j=f j:=(of_can f).2 j hj
structure YieldR (w:WorldT) (k:Nat) (write:Bool) (s:Sp) (x:WorldT):Prop where
  ok:WorldP x
  size:x.size=w.size
  many:x.many=w.many
  epochs:x.epochs=w.epochs
  alive:x.alive=w.alive
  late:x.late=w.late
  lock:∀ q,q<3→q≠k→x.lock q=w.lock q
  own:∀ q,q<3→q≠k→x.own q=w.own q
  byte:∀ j,x.byte j=if (inSp j s&&inF (w.own k).d j)=true then (w.own k).t.getD j 0 else w.byte j
  dirty:∀ j,j<48→inF (x.own k).d j=(!inSp j s&&inF (w.own k).d j)
  text:∀ j,inF (x.own k).d j=true→(x.own k).t.getD j 0=(w.own k).t.getD j 0
  lw:∀ j,j<48→inF (x.lock k).w j=(!inSp j s&&inF (w.lock k).w j)
  lr:∀ j,j<48→write=true→inF (x.lock k).r j=(!inSp j s&&inF (w.lock k).r j)
  lr2:∀ j,j<48→inF (x.lock k).r j=true→inF (w.lock k).r j=true∨inF (w.lock k).w j=true
  floors:x.st.floors=w.st.floors
theorem yieldW_ok {w x:WorldT} {k:Nat} {write:Bool} {s:Sp} (hw:WorldP w) (hk:k<3) (ha:w.live k=true) (h:yieldW w k write s=some x):YieldR w k write s x:=by
  unfold yieldW at h
  split at h<;>try (cases h;done)
  rename_i y hy
  have F:=flushW_ok hw hk ha hy
  have hay:y.live k=true:=by unfold WorldT.live at ha ⊢;rw [F.alive];exact ha
  have hok:=F.own k hk
  rw [if_pos rfl] at hok
  have hsp:spOk s=true:=by
    unfold flushW at hy
    split at hy<;>try (cases hy;done)
    split at hy<;>cases hy
    rename_i hc
    exact (cleanT_ok hc).1
  have hcd:∀ j,j<48→inF (cutS (w.own k).d s) j=(!inSp j s&&inF (w.own k).d j):=cutS_get (w.own k).d s
  have hby:y.lock k=w.lock k:=by unfold WorldT.lock;rw [F.locks]
  have hdlt:∀ j,inF (w.own k).d j=true→j<48:=fun j hj=>inF_lt (ownOk_bd (hw.own k hk)).2.2.1 hj
  have hylen:y.owns.length=3:=F.ok.owns
  have hllen:y.locks.length=3:=F.ok.lk.len
  split at h
  · rename_i hwr
    split at h<;>cases h
    rename_i hc
    rw [Bool.and_eq_true] at hc
    obtain ⟨hl,hle⟩:=putL_ok hc.1
    obtain ⟨_,hpat,hdo,hde⟩:=dropT_ok hc.2
    have hld:(lockDrop y.locks k s).1=y.locks.set k ⟨cutS (y.lock k).r s,cutS (y.lock k).w s⟩:=hle
    rw [hby] at hld
    rw [hld]
    have hl':LockP (y.locks.set k ⟨cutS (w.lock k).r s,cutS (w.lock k).w s⟩):=by rw [← hby];exact hl
    rw [hde] at hdo ⊢
    rw [hok] at hdo hpat ⊢
    dsimp only at hdo hpat ⊢
    have hp:=spOk_iff.1 hsp
    obtain ⟨lo,hi,hs,hlo,hhi⟩:=nat_sp hp
    have ht48:=(ownOk_bd (hw.own k hk)).1
    have htx:∀ j:Nat,inSp j s=false→(overS (w.own k).t s (List.replicate (s.2 - s.1).toNat 46)).getD j 0=(w.own k).t.getD j 0:=fun j hj=>by
      subst hs
      rw [List.getD_eq_getElem?_getD,overS_get _ _ lo hi (by omega) (by omega) (by simp),if_neg,List.getD_eq_getElem?_getD]
      rw [← Bool.not_eq_true,inSp_iff] at hj
      dsimp only at hj
      omega
    have W:=F.ok.turn hk ⟨overS (w.own k).t s (List.replicate (s.2 - s.1).toNat 46),cutS (w.own k).h s,cutS (w.own k).d s⟩ ⟨cutS (w.lock k).r s,cutS (w.lock k).w s⟩ hl' hdo hay (fun j hj hh=>by
      dsimp only at hh ⊢
      rw [cutS_get _ s j hj,Bool.and_eq_true,Bool.not_eq_true'] at hh
      have:=F.ok.held k hk j hj (by rw [hok];exact hh.2)
      rw [hby,hok] at this
      dsimp only at this
      rw [cutS_get _ s j hj,cutS_get _ s j hj,cutS_get _ s j hj] at *
      rw [hh.1] at this ⊢
      rw [htx j hh.1]
      simpa using this)
    refine ⟨W,F.size,F.many,F.epochs,F.alive,F.late,fun q hq hne=>?_,fun q hq hne=>?_,F.byte,fun j hj=>?_,fun j hj=>?_,fun j hj=>?_,fun j hj _=>?_,fun j hj hh=>?_,F.floors⟩
    · show (y.locks.set k _).getD q noH=_
      rw [lock_set _ _ _ _ hllen hq,if_neg (fun e=>hne e.symm)]
      show y.lock q=_
      unfold WorldT.lock;rw [F.locks]
    · show (y.owns.set k _).getD q noO=_
      rw [own_set _ _ _ _ hylen hq,if_neg (fun e=>hne e.symm),F.own q hq,if_neg (fun e=>hne e.symm)]
    · show inF ((y.owns.set k _).getD k noO).d j=_
      rw [own_set _ _ _ _ hylen hk,if_pos rfl]
      exact hcd j hj
    · change inF ((y.owns.set k _).getD k noO).d j=true at hj
      show ((y.owns.set k _).getD k noO).t.getD j 0=_
      rw [own_set _ _ _ _ hylen hk,if_pos rfl] at hj ⊢
      dsimp only at hj ⊢
      have hlt:=inF_lt (ownOk_bd hdo).2.2.1 hj
      rw [hcd j hlt,Bool.and_eq_true,Bool.not_eq_true'] at hj
      exact htx j hj.1
    · show inF ((y.locks.set k _).getD k noH).w j=_
      rw [lock_set _ _ _ _ hllen hk,if_pos rfl]
      exact cutS_get _ s j hj
    · show inF ((y.locks.set k _).getD k noH).r j=_
      rw [lock_set _ _ _ _ hllen hk,if_pos rfl]
      exact cutS_get _ s j hj
    · change inF ((y.locks.set k _).getD k noH).r j=true at hh
      rw [lock_set _ _ _ _ hllen hk,if_pos rfl] at hh
      dsimp only at hh
      rw [cutS_get _ s j hj,Bool.and_eq_true] at hh
      exact .inl hh.2
  · rename_i hwr
    split at h<;>cases h
    rename_i hc
    obtain ⟨hl,hle⟩:=putL_ok hc
    have hld:(lockDown y.locks k s).1=y.locks.set k ⟨ofL (fun j=>inF (y.lock k).r j || (inSp j s&&inF (y.lock k).w j)) 48 0 [],cutS (y.lock k).w s⟩:=hle
    rw [hby] at hld
    rw [hld]
    have hl':LockP (y.locks.set k ⟨ofL (fun j=>inF (w.lock k).r j || (inSp j s&&inF (w.lock k).w j)) 48 0 [],cutS (w.lock k).w s⟩):=by rw [← hby];exact hl
    have W:=F.ok.turn hk (y.own k) ⟨ofL (fun j=>inF (w.lock k).r j || (inSp j s&&inF (w.lock k).w j)) 48 0 [],cutS (w.lock k).w s⟩ hl' (F.ok.own k hk) hay (fun j hj hh=>by
      have:=F.ok.held k hk j hj hh
      rw [hby] at this
      refine ⟨?_,this.2⟩
      dsimp only
      rw [cutS_get _ s j hj,of_get _ hj]
      have hd:inF (y.own k).d j=(!inSp j s&&inF (w.own k).d j):=by rw [hok];exact hcd j hj
      rw [hd] at this ⊢
      cases e1:inSp j s<;>cases e2:inF (w.lock k).w j<;>cases e3:inF (w.lock k).r j<;>simp [e1,e2,e3] at this ⊢
      all_goals first | exact this.1 | skip)
    rw [own_self y hylen hk] at W
    refine ⟨W,F.size,F.many,F.epochs,F.alive,F.late,fun q hq hne=>?_,fun q hq hne=>?_,F.byte,fun j hj=>?_,fun j hj=>?_,fun j hj=>?_,fun j hj hx=>absurd hx hwr,fun j hj hh=>?_,F.floors⟩
    · show (y.locks.set k _).getD q noH=_
      rw [lock_set _ _ _ _ hllen hq,if_neg (fun e=>hne e.symm)]
      show y.lock q=_
      unfold WorldT.lock;rw [F.locks]
    · show y.own q=_
      rw [F.own q hq,if_neg (fun e=>hne e.symm)]
    · show inF (y.own k).d j=_
      rw [hok]
      exact hcd j hj
    · show (y.own k).t.getD j 0=_
      rw [hok]
    · show inF ((y.locks.set k _).getD k noH).w j=_
      rw [lock_set _ _ _ _ hllen hk,if_pos rfl]
      exact cutS_get _ s j hj
    · change inF ((y.locks.set k _).getD k noH).r j=true at hh
      rw [lock_set _ _ _ _ hllen hk,if_pos rfl] at hh
      dsimp only at hh
      rw [of_get _ hj,Bool.or_eq_true,Bool.and_eq_true] at hh
      exact hh.imp id fun q=>q.2
end Go.Ev

