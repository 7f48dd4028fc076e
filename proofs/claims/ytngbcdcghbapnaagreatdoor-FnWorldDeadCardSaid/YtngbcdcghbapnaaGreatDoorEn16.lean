/- My texts joined: EvW3, EvW4. No condition. -/
import Derived.Test.YtngbcdcghbapnaaGreatDoorEn1
import Derived.Test.YtngbcdcghbapnaaGreatDoorEn2
import Derived.Test.YtngbcdcghbapnaaGreatDoorEn5
import Derived.Test.YtngbcdcghbapnaaGreatDoorEn6
import Derived.Test.YtngbcdcghbapnaaGreatDoorEn7
import Derived.Test.YtngbcdcghbapnaaGreatDoorEn8
import Derived.Test.YtngbcdcghbapnaaGreatDoorEn9
import Derived.Test.YtngbcdcghbapnaaGreatDoorEn10
import Derived.Test.YtngbcdcghbapnaaGreatDoorEn11
import Derived.Test.YtngbcdcghbapnaaGreatDoorEn12
import Derived.Test.YtngbcdcghbapnaaGreatDoorEn13
import Derived.Test.YtngbcdcghbapnaaGreatDoorEn14
import Derived.Test.YtngbcdcghbapnaaGreatDoorEn15
set_option linter.unusedVariables false
set_option linter.unusedSimpArgs false

namespace Go.Ev
structure OwnT where
 t:Bs
 h:List Sp
 d:List Sp
def noO:OwnT:=⟨List.replicate 48 46,[],[]⟩
def OwnT.ok (o:OwnT):Bool:=ownOk o.t o.h o.d
def cleanT (o:OwnT) (p:Sp):OwnT × Bool:=if spOk p=true then (if ownOk o.t o.h (cutS o.d p)=true then (⟨o.t,o.h,cutS o.d p⟩,true) else (o,false)) else (o,false)
def dropT (o:OwnT) (p:Sp):OwnT × Bool :=
 if (spOk p&&eqI (patF o.t p o.d).length 0)=true then
  if ownOk (overS o.t p (List.replicate (p.2 - p.1).toNat 46)) (cutS o.h p) o.d=true then (⟨overS o.t p (List.replicate (p.2 - p.1).toNat 46),cutS o.h p,o.d⟩,true) else (o,false)
 else (o,false)
def fillT1 (o:OwnT) (p:Sp) (x:Bs):OwnT × Bool :=
 if fillOk p x=true then
  if ownOk (fillT o.d x p.1.toNat (p.2 - p.1).toNat p.1.toNat o.t) (addS o.h p) o.d=true then (⟨fillT o.d x p.1.toNat (p.2 - p.1).toNat p.1.toNat o.t,addS o.h p,o.d⟩,true) else (o,false)
 else (o,false)
def writeT1 (o:OwnT) (k:Int) (x:Bs):OwnT × Bool :=
 if wrOk k x=true then
  if ownOk (overS o.t (k,k+x.length) x) (addS o.h (k,k+x.length)) (addS o.d (k,k+x.length))=true then (⟨overS o.t (k,k+x.length) x,addS o.h (k,k+x.length),addS o.d (k,k+x.length)⟩,true) else (o,false)
 else (o,false)
structure WorldT where
 size:Int
 many:Int
 st:StoreT
 locks:List HoldT
 owns:List OwnT
 epochs:List Int
 alive:List Bool
 kept:List ReqT
 late:List ReqT
structure EvT where
 kind:Int
 who:Int
 write:Bool
 span:Sp
 pos:Int
 data:Bs
def WorldT.own (w:WorldT) (i:Nat):OwnT:=w.owns.getD i noO
def WorldT.lock (w:WorldT) (i:Nat):HoldT:=w.locks.getD i noH
def WorldT.ep (w:WorldT) (i:Nat):Int:=w.epochs.getD i 0
def WorldT.live (w:WorldT) (i:Nat):Bool:=w.alive.getD i false
def WorldT.byte (w:WorldT) (j:Nat):UInt8:=fileAt w.size.toNat w.many.toNat w.st.now j
def WorldT.file (w:WorldT):Bs:=(List.range 48).map w.byte
def whole:Sp:=(0,48)
def zeros (qs:List ReqT):List Int:=qs.map fun _=>0
structure WorldP (w:WorldT):Prop where
 lay:1≤w.size∧w.size≤8∧1≤w.many∧w.many≤3
 st:StoreP w.st
 lk:LockP w.locks
 owns:w.owns.length=3
 epochs:w.epochs.length=3
 alive:w.alive.length=3
 lateN:w.late.length≤8
 own:∀ i,i<3→(w.own i).ok=true
 ep:∀ i,i<3→w.st.floors.getD i 0≤w.ep i∧w.ep i≤100
 dead:∀ i,i<3→w.live i=false→w.own i=noO
 kept:storeAll (storeFall w.st) w.kept=(w.st,zeros w.kept)
 keptE:∀ q∈w.kept,q.epoch=w.ep q.who.toNat
 late:∀ q∈w.late,ReqP q∧q.epoch<w.st.floors.getD q.who.toNat 0
 held:∀ i,i<3→∀ j:Nat,j<48→inF (w.own i).h j=true→(inF (w.lock i).w j=true∨(inF (w.own i).d j=false∧inF (w.lock i).r j=true))∧(inF (w.own i).d j=true∨(w.own i).t.getD j 0=w.byte j)
def WorldT.reqs (w:WorldT) (i:Nat) (s:Sp):List ReqT:=reqsAll w.size.toNat w.many.toNat i (w.ep i) (patF (w.own i).t s (w.own i).d) (w.st.last.getD i 0+1)
def flushW (w:WorldT) (i:Nat) (s:Sp):Option WorldT :=
 if ((storeAll w.st (w.reqs i s)).2.all fun c=>eqI c 0)=true then
  if (cleanT (w.own i) s).2=true then some { w with st:=(storeAll w.st (w.reqs i s)).1,owns:=w.owns.set i (cleanT (w.own i) s).1,kept:=w.kept++w.reqs i s } else none
 else none
def putL (t:List HoldT) (i:Nat) (h:HoldT):List HoldT × Bool:=if lockOk (t.set i h)=true then (t.set i h,true) else (t,false)
def lockDrop (t:List HoldT) (i:Nat) (s:Sp):List HoldT × Bool:=putL t i ⟨cutS (t.getD i noH).r s,cutS (t.getD i noH).w s⟩
def lockDown (t:List HoldT) (i:Nat) (s:Sp):List HoldT × Bool:=putL t i ⟨ofL (fun j=>inF (t.getD i noH).r j || (inSp j s&&inF (t.getD i noH).w j)) 48 0 [],cutS (t.getD i noH).w s⟩
def lockGive (t:List HoldT) (i:Nat) (write:Bool) (s:Sp):List HoldT × Bool :=
 if write=true then putL t i ⟨cutS (t.getD i noH).r s,addS (t.getD i noH).w s⟩
 else putL t i ⟨ofL (fun j=>(inSp j s || inF (t.getD i noH).r j)&&!inF (t.getD i noH).w j) 48 0 [],(t.getD i noH).w⟩
def barsAt (t:List HoldT) (i:Nat) (write:Bool) (s:Sp) (k:Nat):Bool:=!(k==i)&&(!clearS (t.getD k noH).w [s] || (write&&!clearS (t.getD k noH).r [s]))
def lockBars (t:List HoldT) (i:Nat) (write:Bool) (s:Sp):List Nat:=(List.range 3).filter (barsAt t i write s)
def yieldW (w:WorldT) (k:Nat) (write:Bool) (s:Sp):Option WorldT :=
 match flushW w k s with
 | none=>none
 | some x =>
  if write=true then
   if ((lockDrop x.locks k s).2&&(dropT (x.own k) s).2)=true then some { x with owns:=x.owns.set k (dropT (x.own k) s).1,locks:=(lockDrop x.locks k s).1 } else none
  else if (lockDown x.locks k s).2=true then some { x with locks:=(lockDown x.locks k s).1 } else none
def yieldsW (write:Bool) (s:Sp):List Nat→WorldT→Option WorldT
 | [],w=>some w
 | k::ks,w=>match yieldW w k write s with | some x=>yieldsW write s ks x | none=>none
def lockW (w:WorldT) (i:Nat) (write:Bool) (s:Sp):WorldT × Int :=
 if ((lockBars w.locks i write s).any fun k=>!w.live k)=true then (w,22)
 else match yieldsW write s (lockBars w.locks i write s) w with
  | none=>(w,24)
  | some x=>if (lockGive x.locks i write s).2=true then ({ x with locks:=(lockGive x.locks i write s).1 },0) else (w,24)
def mayAt (h:HoldT) (write:Bool) (j:Nat):Bool:=inF h.w j || (!write&&inF h.r j)
def lockMay (h:HoldT) (write:Bool) (s:Sp):Bool:=allTo (mayAt h write) (s.2 - s.1).toNat s.1.toNat
def readW (w:WorldT) (i:Nat) (s:Sp):WorldT × Bs × Int :=
 if lockMay (w.lock i) false s=true then
  if (fillT1 (w.own i) s (subS w.file s)).2=true then ({ w with owns:=w.owns.set i (fillT1 (w.own i) s (subS w.file s)).1 },subS (fillT1 (w.own i) s (subS w.file s)).1.t s,0) else (w,[],24)
 else (w,[],23)
def writeW (w:WorldT) (i:Nat) (k:Int) (x:Bs):WorldT × Int :=
 if wrOk k x=true then
  if lockMay (w.lock i) true (k,k+x.length)=true then
   if (writeT1 (w.own i) k x).2=true then ({ w with owns:=w.owns.set i (writeT1 (w.own i) k x).1 },0) else (w,24)
  else (w,23)
 else (w,20)
def addLate:List ReqT→List ReqT→List ReqT
 | late,[]=>late
 | late,q::qs=>if (reqOk q&&ltI late.length 8)=true then addLate (late++[q]) qs else addLate late qs
def evictW (w:WorldT) (i:Nat):WorldT × Int :=
 if ltI (w.ep i) 100=true then
  ({ w with st:=storeFence (storeSync w.st) i (w.ep i+1),kept:=[],epochs:=w.epochs.set i (w.ep i+1),locks:=w.locks.set i noH,owns:=w.owns.set i noO,alive:=w.alive.set i true,late:=addLate w.late (w.reqs i whole) },0)
 else (w,24)
def giveW (w:WorldT) (k:Int):WorldT × Int :=
 if (ltI k 0 || !ltI k w.late.length)=true then (w,20)
 else ({ w with late:=w.late.take k.toNat++w.late.drop (k.toNat+1),st:=(storeDo w.st (w.late.getD k.toNat ⟨0,0,0,0,0,[]⟩)).1 },(storeDo w.st (w.late.getD k.toNat ⟨0,0,0,0,0,[]⟩)).2)
def dieW (w:WorldT) (i:Nat):WorldT:={ w with alive:=w.alive.set i false,owns:=w.owns.set i noO }
def formEv (e:EvT):Bool:=ltI e.kind 1 || ltI 9 e.kind || !whoOk e.who || ((eqI e.kind 1 || eqI e.kind 2)&&!spOk e.span)
def whoW (w:WorldT) (e:EvT):WorldT × Bs × Int :=
 if e.kind=1 then ((lockW w e.who.toNat e.write e.span).1,[],(lockW w e.who.toNat e.write e.span).2)
 else if e.kind=2 then readW w e.who.toNat e.span
 else if e.kind=3 then ((writeW w e.who.toNat e.pos e.data).1,[],(writeW w e.who.toNat e.pos e.data).2)
 else if e.kind=4 then (match flushW w e.who.toNat whole with | some x=>(x,[],0) | none=>(w,[],24))
 else (dieW w e.who.toNat,[],0)
def doW (w:WorldT) (e:EvT):WorldT × Bs × Int :=
 if e.kind=5 then ({ w with st:=storeSync w.st,kept:=[] },[],0)
 else if e.kind=6 then ({ w with st:=(storeAll (storeFall w.st) w.kept).1 },[],0)
 else if e.kind=9 then ((giveW w e.pos).1,[],(giveW w e.pos).2)
 else if formEv e=true then (w,[],20)
 else if e.kind=8 then ((evictW w e.who.toNat).1,[],(evictW w e.who.toNat).2)
 else if w.live e.who.toNat=false then (w,[],21)
 else whoW w e
theorem ownOk_have {o:OwnT} (h:o.ok=true) {j:Nat} (hj:j<48) (hd:inF o.d j=true):inF o.h j=true:=by
 simp only [OwnT.ok,ownOk,Bool.and_eq_true] at h
 have:=(allTo_iff _ 48 0).1 h.2 j (Nat.zero_le j) (by omega)
 simpa [okAt,hd] using this
theorem inF_lt {xs:List Sp} (h:spsOk xs=true) {j:Nat} (hj:inF xs j=true):j<48:=by
 obtain ⟨s,hs,_,h2⟩:=inF_iff.1 hj
 have:=spsOk_sp h s hs
 omega
theorem cleanT_ok {o:OwnT} {p:Sp} (h:(cleanT o p).2=true):spOk p=true∧ownOk o.t o.h (cutS o.d p)=true∧(cleanT o p).1=⟨o.t,o.h,cutS o.d p⟩:=by
 unfold cleanT at h ⊢
 split at h
 ·split at h
  ·rename_i a b
   exact ⟨a,b,by rw [if_pos a,if_pos b]⟩
  ·cases h
 ·cases h
theorem dropT_ok {o:OwnT} {p:Sp} (h:(dropT o p).2=true):spOk p=true∧patF o.t p o.d=[]∧(dropT o p).1.ok=true∧(dropT o p).1=⟨overS o.t p (List.replicate (p.2 - p.1).toNat 46),cutS o.h p,o.d⟩:=by
 unfold dropT at h ⊢
 split at h
 ·split at h
  ·rename_i a b
   rw [if_pos a,if_pos b]
   simp only [Bool.and_eq_true,eqI_iff] at a
   exact ⟨a.1,List.length_eq_zero_iff.1 (by omega),b,rfl⟩
  ·cases h
 ·cases h
theorem fillT1_ok {o:OwnT} {p:Sp} {x:Bs} (h:(fillT1 o p x).2=true):fillOk p x=true∧(fillT1 o p x).1.ok=true∧(fillT1 o p x).1=⟨fillT o.d x p.1.toNat (p.2 - p.1).toNat p.1.toNat o.t,addS o.h p,o.d⟩:=by
 unfold fillT1 at h ⊢
 split at h
 ·split at h
  ·rename_i a b
   rw [if_pos a,if_pos b]
   exact ⟨a,b,rfl⟩
  ·cases h
 ·cases h
theorem writeT1_ok {o:OwnT} {k:Int} {x:Bs} (h:(writeT1 o k x).2=true):wrOk k x=true∧(writeT1 o k x).1.ok=true∧(writeT1 o k x).1=⟨overS o.t (k,k+x.length) x,addS o.h (k,k+x.length),addS o.d (k,k+x.length)⟩:=by
 unfold writeT1 at h ⊢
 split at h
 ·split at h
  ·rename_i a b
   rw [if_pos a,if_pos b]
   exact ⟨a,b,rfl⟩
  ·cases h
 ·cases h
theorem putL_ok {t:List HoldT} {i:Nat} {h:HoldT} (e:(putL t i h).2=true):LockP (t.set i h)∧(putL t i h).1=t.set i h:=by
 unfold putL at e ⊢
 split at e
 ·rename_i a
  rw [if_pos a]
  exact ⟨lockOk_iff.1 a,rfl⟩
 ·cases e
end Go.Ev


namespace Go.Ev
theorem own_set (w:WorldT) (i k:Nat) (o:OwnT) (hl:w.owns.length=3) (hk:k<3):(w.owns.set i o).getD k noO=if i=k then o else w.own k:=by
 rw [getD_set]
 by_cases h:i=k
 ·rw [if_pos ⟨h,by omega⟩,if_pos h]
 ·rw [if_neg (fun q=>h q.1),if_neg h];rfl
theorem lock_set (t:List HoldT) (i k:Nat) (o:HoldT) (hl:t.length=3) (hk:k<3):(t.set i o).getD k noH=if i=k then o else t.getD k noH:=by
 rw [getD_set]
 by_cases h:i=k
 ·rw [if_pos ⟨h,by omega⟩,if_pos h]
 ·rw [if_neg (fun q=>h q.1),if_neg h]
theorem ownOk_bd {o:OwnT} (h:o.ok=true):o.t.length=48∧spsOk o.h=true∧spsOk o.d=true∧o.t.all okB=true:=ownOk_t h
theorem noO_ok:noO.ok=true:=by decide
theorem fine_all {cs:List Int}:(cs.all fun c=>eqI c 0)=true↔fineAll cs:=by
 simp only [List.all_eq_true,eqI_iff,fineAll]
theorem WorldP.sole {w:WorldT} (h:WorldP w) {i k j:Nat} (hi:i<3) (hk:k<3) (hne:k≠i) (hj:j<48) (hd:inF (w.own i).d j=true):inF (w.own k).h j=false:=by
 rw [← Bool.not_eq_true]
 intro hh
 have h1:=ownOk_have (h.own i hi) hj hd
 have hw:inF (w.lock i).w j=true:=by
  rcases (h.held i hi j hj h1).1 with q | ⟨q,_⟩
  ·exact q
  ·rw [hd] at q;cases q
 rcases (h.held k hk j hj hh).1 with q | ⟨_,q⟩
 ·exact h.lk.ww i k hi hk hne j ⟨hw,q⟩
 ·exact h.lk.wr i k hi hk hne j ⟨hw,q⟩
structure FlushR (w:WorldT) (i:Nat) (s:Sp) (x:WorldT):Prop where
 ok:WorldP x
 size:x.size=w.size
 many:x.many=w.many
 locks:x.locks=w.locks
 epochs:x.epochs=w.epochs
 alive:x.alive=w.alive
 late:x.late=w.late
 own:∀ k,k<3→x.own k=if i=k then ⟨(w.own i).t,(w.own i).h,cutS (w.own i).d s⟩ else w.own k
 byte:∀ j,x.byte j=if (inSp j s&&inF (w.own i).d j)=true then (w.own i).t.getD j 0 else w.byte j
 floors:x.st.floors=w.st.floors
 keptN:w.kept.length≤x.kept.length
theorem flushW_ok {w x:WorldT} {i:Nat} {s:Sp} (hw:WorldP w) (hi:i<3) (ha:w.live i=true) (h:flushW w i s=some x):FlushR w i s x:=by
 unfold flushW at h
 split at h<;>try (cases h;done)
 rename_i hf
 split at h<;>cases h
 rename_i hc
 rw [fine_all] at hf
 obtain ⟨hs,hok,hce⟩:=cleanT_ok hc
 have hp:=spOk_iff.1 hs
 obtain ⟨ht,hsh,hsd,hob⟩:=ownOk_bd (hw.own i hi)
 obtain ⟨l1,l2,l3,l4⟩:=hw.lay
 obtain ⟨k1,k2,k3⟩:=storeAll_keeps (w.reqs i s) w.st
 have hby:∀ j,fileAt w.size.toNat w.many.toNat (storeAll w.st (w.reqs i s)).1.now j=if (inSp j s&&inF (w.own i).d j)=true then (w.own i).t.getD j 0 else w.byte j:=fun j =>
  reqsAll_file (by omega) (by omega) (by omega) (w.own i).t s ht hp (w.own i).d _ w.st hw.st (spsOk_sp hsd) hf j
 have hown:∀ k,k<3→(w.owns.set i (cleanT (w.own i) s).1).getD k noO=if i=k then ⟨(w.own i).t,(w.own i).h,cutS (w.own i).d s⟩ else w.own k:=fun k hk=>by
  rw [own_set w i k _ hw.owns hk,hce]
 have hcd:∀ j,j<48→inF (cutS (w.own i).d s) j=(!inSp j s&&inF (w.own i).d j):=cutS_get (w.own i).d s
 refine ⟨⟨hw.lay,storeAll_ok (s:=w.st) _ hw.st,hw.lk,by simpa using hw.owns,hw.epochs,hw.alive,hw.lateN,fun k hk=>?_,fun k hk=>?_,fun k hk hd=>?_,?_,fun q hq=>?_,fun q hq=>?_,fun k hk j hj hh=>?_⟩,rfl,rfl,rfl,rfl,rfl,rfl,hown,hby,k3,by simp⟩
 ·show OwnT.ok ((w.owns.set i (cleanT (w.own i) s).1).getD k noO)=true
  rw [hown k hk]
  split
  ·exact hok
  ·exact hw.own k hk
 ·show (storeAll w.st (w.reqs i s)).1.floors.getD k 0≤_∧_
  rw [k3];exact hw.ep k hk
 ·show (w.owns.set i (cleanT (w.own i) s).1).getD k noO=noO
  rw [hown k hk]
  have hne:i≠k:=fun e=>by
   subst e
   rw [show w.live i=false from hd] at ha;cases ha
  rw [if_neg hne]
  exact hw.dead k hk hd
 ·show storeAll (storeFall (storeAll w.st (w.reqs i s)).1) (w.kept++w.reqs i s)=((storeAll w.st (w.reqs i s)).1,zeros (w.kept++w.reqs i s))
  rw [storeFall_all,storeAll_app,hw.kept]
  dsimp only
  congr 1
  simp only [zeros,List.map_append,List.append_cancel_left_eq]
  have hl:=storeAll_len (w.reqs i s) w.st
  generalize (storeAll w.st (w.reqs i s)).2=cs at hf hl
  refine List.ext_getElem (by simp [hl]) fun n h1 h2=>?_
  rw [hf _ (List.getElem_mem h1)]
  simp
 ·rcases List.mem_append.1 hq with hq | hq
  ·exact hw.keptE q hq
  ·obtain ⟨e1,e2⟩:=reqsAll_who _ _ _ _ _ _ q hq
   rw [e1,e2]
   rfl
 ·show ReqP q∧q.epoch<(storeAll w.st (w.reqs i s)).1.floors.getD q.who.toNat 0
  rw [k3];exact hw.late q hq
 ·have hbk:=hby j
  change inF ((w.owns.set i (cleanT (w.own i) s).1).getD k noO).h j=true at hh
  show (inF (w.lock k).w j=true∨(inF ((w.owns.set i (cleanT (w.own i) s).1).getD k noO).d j=false∧inF (w.lock k).r j=true))∧(inF ((w.owns.set i (cleanT (w.own i) s).1).getD k noO).d j=true∨((w.owns.set i (cleanT (w.own i) s).1).getD k noO).t.getD j 0=fileAt w.size.toNat w.many.toNat (storeAll w.st (w.reqs i s)).1.now j)
  rw [hown k hk] at hh ⊢
  rw [hbk]
  by_cases hik:i=k
  ·subst hik
   simp only [if_true] at hh ⊢
   obtain ⟨g1,g2⟩:=hw.held i hi j hj hh
   rw [hcd j hj]
   constructor
   ·rcases g1 with g | ⟨g,g'⟩
    ·exact .inl g
    ·exact .inr ⟨by rw [g];simp,g'⟩
   ·cases e1:inF (w.own i).d j
    ·rw [e1] at g2
     simp only [Bool.false_eq_true,false_or] at g2
     right
     simp only [Bool.and_false,Bool.false_eq_true,if_false]
     exact g2
    ·cases e2:inSp j s
     ·left;rfl
     ·right;simp
  ·rw [if_neg hik] at hh ⊢
   obtain ⟨g1,g2⟩:=hw.held k hk j hj hh
   refine ⟨g1,?_⟩
   have:inF (w.own i).d j=false:=by
    rw [← Bool.not_eq_true]
    intro hd
    have:=hw.sole hi hk (fun e=>hik e.symm) hj hd
    rw [hh] at this;cases this
   rw [this,Bool.and_false]
   exact g2
theorem WorldP.turn {w:WorldT} (hw:WorldP w) {i:Nat} (hi:i<3) (o:OwnT) (h:HoldT) (hl:LockP (w.locks.set i h)) (ho:o.ok=true) (ha:w.live i=true)
  (hh:∀ j:Nat,j<48→inF o.h j=true→(inF h.w j=true∨(inF o.d j=false∧inF h.r j=true))∧(inF o.d j=true∨o.t.getD j 0=w.byte j)) :
  WorldP { w with owns:=w.owns.set i o,locks:=w.locks.set i h }:=by
 have hown:∀ k,k<3→(w.owns.set i o).getD k noO=if i=k then o else w.own k:=fun k hk=>own_set w i k _ hw.owns hk
 have hlk:∀ k,k<3→(w.locks.set i h).getD k noH=if i=k then h else w.lock k:=fun k hk=>lock_set w.locks i k _ hw.lk.len hk
 refine ⟨hw.lay,hw.st,hl,by simpa using hw.owns,hw.epochs,hw.alive,hw.lateN,fun k hk=>?_,hw.ep,fun k hk hd=>?_,hw.kept,hw.keptE,hw.late,fun k hk j hj hhv=>?_⟩
 ·show OwnT.ok ((w.owns.set i o).getD k noO)=true
  rw [hown k hk]
  split
  ·exact ho
  ·exact hw.own k hk
 ·show (w.owns.set i o).getD k noO=noO
  rw [hown k hk]
  have hne:i≠k:=fun e=>by
   subst e
   rw [show w.live i=false from hd] at ha;cases ha
  rw [if_neg hne]
  exact hw.dead k hk hd
 ·change inF ((w.owns.set i o).getD k noO).h j=true at hhv
  show (inF ((w.locks.set i h).getD k noH).w j=true∨(inF ((w.owns.set i o).getD k noO).d j=false∧inF ((w.locks.set i h).getD k noH).r j=true))∧(inF ((w.owns.set i o).getD k noO).d j=true∨((w.owns.set i o).getD k noO).t.getD j 0=w.byte j)
  rw [hown k hk] at hhv ⊢
  rw [hlk k hk]
  by_cases hik:i=k
  ·simp only [if_pos hik] at hhv ⊢
   exact hh j hj hhv
  ·simp only [if_neg hik] at hhv ⊢
   exact hw.held k hk j hj hhv
theorem own_self (w:WorldT) {i:Nat} (h:w.owns.length=3) (hi:i<3):w.owns.set i (w.own i)=w.owns:=by
 have:i<w.owns.length:=by omega
 rw [show w.own i=w.owns[i] by simp [WorldT.own,List.getD_eq_getElem?_getD,this]]
 exact List.set_getElem_self this
theorem lock_self (w:WorldT) {i:Nat} (h:w.locks.length=3) (hi:i<3):w.locks.set i (w.lock i)=w.locks:=by
 have:i<w.locks.length:=by omega
 rw [show w.lock i=w.locks[i] by simp [WorldT.lock,List.getD_eq_getElem?_getD,this]]
 exact List.set_getElem_self this
theorem of_get (f:Nat→Bool) {j:Nat} (hj:j<48):inF (ofL f 48 0 []) j=f j:=(of_can f).2 j hj
structure YieldR (w:WorldT) (k:Nat) (write:Bool) (s:Sp) (x:WorldT):Prop where
 ok:WorldP x
 size:x.size=w.size
 many:x.many=w.many
 epochs:x.epochs=w.epochs
 alive:x.alive=w.alive
 late:x.late=w.late
 lock:∀ q,q<3→q≠k→x.lock q=w.lock q
 own:∀ q,q<3→q≠k→x.own q=w.own q
 byte:∀ j,x.byte j=if (inSp j s&&inF (w.own k).d j)=true then (w.own k).t.getD j 0 else w.byte j
 dirty:∀ j,j<48→inF (x.own k).d j=(!inSp j s&&inF (w.own k).d j)
 text:∀ j,inF (x.own k).d j=true→(x.own k).t.getD j 0=(w.own k).t.getD j 0
 lw:∀ j,j<48→inF (x.lock k).w j=(!inSp j s&&inF (w.lock k).w j)
 lr:∀ j,j<48→write=true→inF (x.lock k).r j=(!inSp j s&&inF (w.lock k).r j)
 lr2:∀ j,j<48→inF (x.lock k).r j=true→inF (w.lock k).r j=true∨inF (w.lock k).w j=true
 floors:x.st.floors=w.st.floors
theorem yieldW_ok {w x:WorldT} {k:Nat} {write:Bool} {s:Sp} (hw:WorldP w) (hk:k<3) (ha:w.live k=true) (h:yieldW w k write s=some x):YieldR w k write s x:=by
 unfold yieldW at h
 split at h<;>try (cases h;done)
 rename_i y hy
 have F:=flushW_ok hw hk ha hy
 have hay:y.live k=true:=by unfold WorldT.live at ha ⊢;rw [F.alive];exact ha
 have hok:=F.own k hk
 rw [if_pos rfl] at hok
 have hsp:spOk s=true:=by
  unfold flushW at hy
  split at hy<;>try (cases hy;done)
  split at hy<;>cases hy
  rename_i hc
  exact (cleanT_ok hc).1
 have hcd:∀ j,j<48→inF (cutS (w.own k).d s) j=(!inSp j s&&inF (w.own k).d j):=cutS_get (w.own k).d s
 have hby:y.lock k=w.lock k:=by unfold WorldT.lock;rw [F.locks]
 have hdlt:∀ j,inF (w.own k).d j=true→j<48:=fun j hj=>inF_lt (ownOk_bd (hw.own k hk)).2.2.1 hj
 have hylen:y.owns.length=3:=F.ok.owns
 have hllen:y.locks.length=3:=F.ok.lk.len
 split at h
 ·rename_i hwr
  split at h<;>cases h
  rename_i hc
  rw [Bool.and_eq_true] at hc
  obtain ⟨hl,hle⟩:=putL_ok hc.1
  obtain ⟨_,hpat,hdo,hde⟩:=dropT_ok hc.2
  have hld:(lockDrop y.locks k s).1=y.locks.set k ⟨cutS (y.lock k).r s,cutS (y.lock k).w s⟩:=hle
  rw [hby] at hld
  rw [hld]
  have hl':LockP (y.locks.set k ⟨cutS (w.lock k).r s,cutS (w.lock k).w s⟩):=by rw [← hby];exact hl
  rw [hde] at hdo ⊢
  rw [hok] at hdo hpat ⊢
  dsimp only at hdo hpat ⊢
  have hp:=spOk_iff.1 hsp
  obtain ⟨lo,hi,hs,hlo,hhi⟩:=nat_sp hp
  have ht48:=(ownOk_bd (hw.own k hk)).1
  have htx:∀ j:Nat,inSp j s=false→(overS (w.own k).t s (List.replicate (s.2 - s.1).toNat 46)).getD j 0=(w.own k).t.getD j 0:=fun j hj=>by
   subst hs
   rw [List.getD_eq_getElem?_getD,overS_get _ _ lo hi (by omega) (by omega) (by simp),if_neg,List.getD_eq_getElem?_getD]
   rw [← Bool.not_eq_true,inSp_iff] at hj
   dsimp only at hj
   omega
  have W:=F.ok.turn hk ⟨overS (w.own k).t s (List.replicate (s.2 - s.1).toNat 46),cutS (w.own k).h s,cutS (w.own k).d s⟩ ⟨cutS (w.lock k).r s,cutS (w.lock k).w s⟩ hl' hdo hay (fun j hj hh=>by
   dsimp only at hh ⊢
   rw [cutS_get _ s j hj,Bool.and_eq_true,Bool.not_eq_true'] at hh
   have:=F.ok.held k hk j hj (by rw [hok];exact hh.2)
   rw [hby,hok] at this
   dsimp only at this
   rw [cutS_get _ s j hj,cutS_get _ s j hj,cutS_get _ s j hj] at *
   rw [hh.1] at this ⊢
   rw [htx j hh.1]
   simpa using this)
  refine ⟨W,F.size,F.many,F.epochs,F.alive,F.late,fun q hq hne=>?_,fun q hq hne=>?_,F.byte,fun j hj=>?_,fun j hj=>?_,fun j hj=>?_,fun j hj _=>?_,fun j hj hh=>?_,F.floors⟩
  ·show (y.locks.set k _).getD q noH=_
   rw [lock_set _ _ _ _ hllen hq,if_neg (fun e=>hne e.symm)]
   show y.lock q=_
   unfold WorldT.lock;rw [F.locks]
  ·show (y.owns.set k _).getD q noO=_
   rw [own_set _ _ _ _ hylen hq,if_neg (fun e=>hne e.symm),F.own q hq,if_neg (fun e=>hne e.symm)]
  ·show inF ((y.owns.set k _).getD k noO).d j=_
   rw [own_set _ _ _ _ hylen hk,if_pos rfl]
   exact hcd j hj
  ·change inF ((y.owns.set k _).getD k noO).d j=true at hj
   show ((y.owns.set k _).getD k noO).t.getD j 0=_
   rw [own_set _ _ _ _ hylen hk,if_pos rfl] at hj ⊢
   dsimp only at hj ⊢
   have hlt:=inF_lt (ownOk_bd hdo).2.2.1 hj
   rw [hcd j hlt,Bool.and_eq_true,Bool.not_eq_true'] at hj
   exact htx j hj.1
  ·show inF ((y.locks.set k _).getD k noH).w j=_
   rw [lock_set _ _ _ _ hllen hk,if_pos rfl]
   exact cutS_get _ s j hj
  ·show inF ((y.locks.set k _).getD k noH).r j=_
   rw [lock_set _ _ _ _ hllen hk,if_pos rfl]
   exact cutS_get _ s j hj
  ·change inF ((y.locks.set k _).getD k noH).r j=true at hh
   rw [lock_set _ _ _ _ hllen hk,if_pos rfl] at hh
   dsimp only at hh
   rw [cutS_get _ s j hj,Bool.and_eq_true] at hh
   exact .inl hh.2
 ·rename_i hwr
  split at h<;>cases h
  rename_i hc
  obtain ⟨hl,hle⟩:=putL_ok hc
  have hld:(lockDown y.locks k s).1=y.locks.set k ⟨ofL (fun j=>inF (y.lock k).r j || (inSp j s&&inF (y.lock k).w j)) 48 0 [],cutS (y.lock k).w s⟩:=hle
  rw [hby] at hld
  rw [hld]
  have hl':LockP (y.locks.set k ⟨ofL (fun j=>inF (w.lock k).r j || (inSp j s&&inF (w.lock k).w j)) 48 0 [],cutS (w.lock k).w s⟩):=by rw [← hby];exact hl
  have W:=F.ok.turn hk (y.own k) ⟨ofL (fun j=>inF (w.lock k).r j || (inSp j s&&inF (w.lock k).w j)) 48 0 [],cutS (w.lock k).w s⟩ hl' (F.ok.own k hk) hay (fun j hj hh=>by
   have:=F.ok.held k hk j hj hh
   rw [hby] at this
   refine ⟨?_,this.2⟩
   dsimp only
   rw [cutS_get _ s j hj,of_get _ hj]
   have hd:inF (y.own k).d j=(!inSp j s&&inF (w.own k).d j):=by rw [hok];exact hcd j hj
   rw [hd] at this ⊢
   cases e1:inSp j s<;>cases e2:inF (w.lock k).w j<;>cases e3:inF (w.lock k).r j<;>simp [e1,e2,e3] at this ⊢
   all_goals first | exact this.1 | skip)
  rw [own_self y hylen hk] at W
  refine ⟨W,F.size,F.many,F.epochs,F.alive,F.late,fun q hq hne=>?_,fun q hq hne=>?_,F.byte,fun j hj=>?_,fun j hj=>?_,fun j hj=>?_,fun j hj hx=>absurd hx hwr,fun j hj hh=>?_,F.floors⟩
  ·show (y.locks.set k _).getD q noH=_
   rw [lock_set _ _ _ _ hllen hq,if_neg (fun e=>hne e.symm)]
   show y.lock q=_
   unfold WorldT.lock;rw [F.locks]
  ·show y.own q=_
   rw [F.own q hq,if_neg (fun e=>hne e.symm)]
  ·show inF (y.own k).d j=_
   rw [hok]
   exact hcd j hj
  ·show (y.own k).t.getD j 0=_
   rw [hok]
  ·show inF ((y.locks.set k _).getD k noH).w j=_
   rw [lock_set _ _ _ _ hllen hk,if_pos rfl]
   exact cutS_get _ s j hj
  ·change inF ((y.locks.set k _).getD k noH).r j=true at hh
   rw [lock_set _ _ _ _ hllen hk,if_pos rfl] at hh
   dsimp only at hh
   rw [of_get _ hj,Bool.or_eq_true,Bool.and_eq_true] at hh
   exact hh.imp id fun q=>q.2
end Go.Ev

