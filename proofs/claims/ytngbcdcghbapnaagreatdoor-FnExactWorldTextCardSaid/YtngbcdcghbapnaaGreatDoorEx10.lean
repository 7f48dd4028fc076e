/- My texts joined: EvW1, EvW2, EvT26, EvT27, EvW3, EvW4, EvW5, EvW6. No condition. -/
import Derived.Test.YtngbcdcghbapnaaGreatDoorEx1
import Derived.Test.YtngbcdcghbapnaaGreatDoorEx2
import Derived.Test.YtngbcdcghbapnaaGreatDoorEx5
import Derived.Test.YtngbcdcghbapnaaGreatDoorEx6
import Derived.Test.YtngbcdcghbapnaaGreatDoorEx7
import Derived.Test.YtngbcdcghbapnaaGreatDoorEx8
import Derived.Test.YtngbcdcghbapnaaGreatDoorEx9
set_option linter.unusedVariables false
set_option linter.unusedSimpArgs false

namespace Go.Ev
abbrev Bs:=List UInt8
structure ReqT where
 who:Int
 epoch:Int
 num:Int
 obj:Int
 pos:Int
 data:Bs
structure StoreT where
 now:List Bs
 sure:List Bs
 last:List Int
 slast:List Int
 floors:List Int
def whoOk (k:Int):Bool:=!ltI k 0&&ltI k 3
def reqOk (q:ReqT):Bool:=whoOk q.who&&!ltI q.epoch 0&&!ltI 100 q.epoch&&!ltI q.num 1&&!ltI 1000 q.num&&!ltI q.obj 0&&ltI q.obj 3&&wrOk q.pos q.data
def numsOk (s:StoreT) (i:Nat):Bool:=!ltI (s.slast.getD i 0) 0&&!ltI (s.last.getD i 0) (s.slast.getD i 0)&&!ltI 1000 (s.last.getD i 0)&&!ltI (s.floors.getD i 0) 0&&!ltI 100 (s.floors.getD i 0)
def textsOk (xs:List Bs):Bool:=xs.all txtOk&&eqI xs.length 3
def storeOk (s:StoreT):Bool:=textsOk s.now&&textsOk s.sure&&eqI s.last.length 3&&eqI s.slast.length 3&&eqI s.floors.length 3&&allTo (numsOk s) 3 0
def storeDo (s:StoreT) (q:ReqT):StoreT × Int :=
 if reqOk q=true then
  if ltI q.epoch (s.floors.getD q.who.toNat 0)=true then (s,2)
  else if ltI (s.last.getD q.who.toNat 0) q.num=true then
   if ltI (s.last.getD q.who.toNat 0+1) q.num=true then (s,4)
   else ({ s with now:=s.now.set q.obj.toNat (wrS (s.now.getD q.obj.toNat []) q.pos.toNat q.data),last:=s.last.set q.who.toNat q.num },0)
  else (s,3)
 else (s,1)
def storeAll (s:StoreT):List ReqT→StoreT × List Int
 | []=>(s,[])
 | q::qs=>((storeAll (storeDo s q).1 qs).1,(storeDo s q).2::(storeAll (storeDo s q).1 qs).2)
def storeFall (s:StoreT):StoreT:={ s with now:=s.sure,last:=s.slast }
structure StoreP (s:StoreT):Prop where
 now:s.now.length=3
 nowT:∀ x∈s.now,txtOk x=true
 sure:s.sure.length=3
 sureT:∀ x∈s.sure,txtOk x=true
 last:s.last.length=3
 slast:s.slast.length=3
 floors:s.floors.length=3
 nums:∀ i,i<3→0≤s.slast.getD i 0∧s.slast.getD i 0≤s.last.getD i 0∧s.last.getD i 0≤1000∧0≤s.floors.getD i 0∧s.floors.getD i 0≤100
theorem eqI3 {n:Nat}:eqI n 3=true↔n=3:=by rw [eqI_iff];omega
theorem storeOk_iff {s:StoreT}:storeOk s=true↔StoreP s:=by
 simp only [storeOk,textsOk,Bool.and_eq_true,eqI3,allTo_iff,List.all_eq_true]
 constructor
 ·rintro ⟨⟨⟨⟨⟨⟨h1,h2⟩,⟨h3,h4⟩⟩,h5⟩,h6⟩,h7⟩,h8⟩
  refine ⟨h2,h1,h4,h3,h5,h6,h7,fun i hi=>?_⟩
  have:=h8 i (Nat.zero_le i) (by omega)
  simp only [numsOk,Bool.and_eq_true,Bool.not_eq_true',ltI_not] at this
  omega
 ·intro h
  refine ⟨⟨⟨⟨⟨⟨h.nowT,h.now⟩,⟨h.sureT,h.sure⟩⟩,h.last⟩,h.slast⟩,h.floors⟩,fun i _ hi=>?_⟩
  have:=h.nums i (by omega)
  simp only [numsOk,Bool.and_eq_true,Bool.not_eq_true',ltI_not]
  omega
structure ReqP (q:ReqT):Prop where
 who:0≤q.who∧q.who<3
 epoch:0≤q.epoch∧q.epoch≤100
 num:1≤q.num∧q.num≤1000
 obj:0≤q.obj∧q.obj<3
 wr:wrOk q.pos q.data=true
theorem reqOk_iff {q:ReqT}:reqOk q=true↔ReqP q:=by
 simp only [reqOk,whoOk,Bool.and_eq_true,Bool.not_eq_true',ltI_not,ltI_iff]
 constructor
 ·rintro ⟨⟨⟨⟨⟨⟨⟨⟨h1,h2⟩,h3⟩,h4⟩,h5⟩,h6⟩,h7⟩,h8⟩,h9⟩
  exact ⟨⟨h1,h2⟩,⟨h3,h4⟩,⟨h5,h6⟩,⟨h7,h8⟩,h9⟩
 ·intro h
  exact ⟨⟨⟨⟨⟨⟨⟨⟨h.who.1,h.who.2⟩,h.epoch.1⟩,h.epoch.2⟩,h.num.1⟩,h.num.2⟩,h.obj.1⟩,h.obj.2⟩,h.wr⟩
theorem storeDo_fine {s:StoreT} {q:ReqT} (h:(storeDo s q).2=0):ReqP q∧s.floors.getD q.who.toNat 0≤q.epoch∧q.num=s.last.getD q.who.toNat 0+1 ∧
  storeDo s q=({ s with now:=s.now.set q.obj.toNat (wrS (s.now.getD q.obj.toNat []) q.pos.toNat q.data),last:=s.last.set q.who.toNat q.num },0):=by
 unfold storeDo at h ⊢
 cases e1:reqOk q
 ·simp only [e1,Bool.false_eq_true,if_false] at h;exact absurd h (by decide)
 ·cases e2:ltI q.epoch (s.floors.getD q.who.toNat 0)
  ·cases e3:ltI (s.last.getD q.who.toNat 0) q.num
   ·simp only [e1,e2,e3,Bool.false_eq_true,if_false,if_true] at h;exact absurd h (by decide)
   ·cases e4:ltI (s.last.getD q.who.toNat 0+1) q.num
    ·rw [ltI_not] at e2 e4
     rw [ltI_iff] at e3
     exact ⟨reqOk_iff.1 e1,e2,by omega,by simp only [Bool.false_eq_true,if_false,if_true]⟩
    ·simp only [e1,e2,e3,e4,Bool.false_eq_true,if_false,if_true] at h;exact absurd h (by decide)
  ·simp only [e1,e2,if_true] at h;exact absurd h (by decide)
theorem getD_set {α:Type} (xs:List α) (i j:Nat) (a d:α):(xs.set i a).getD j d=if i=j∧j<xs.length then a else xs.getD j d:=by
 simp only [List.getD_eq_getElem?_getD,List.getElem?_set]
 by_cases h:i=j
 ·subst h
  by_cases h2:i<xs.length
  ·simp [h2]
  ·simp [h2,List.getElem?_eq_none (by omega:xs.length≤i)]
 ·simp [h]
theorem storeDo_ok {s:StoreT} (q:ReqT) (h:StoreP s):StoreP (storeDo s q).1:=by
 by_cases hc:(storeDo s q).2=0
 ·obtain ⟨h1,h2,h3,h4⟩:=storeDo_fine hc
  rw [h4]
  obtain ⟨ho1,ho2⟩:=h1.obj
  obtain ⟨hw1,hw2⟩:=h1.who
  refine ⟨by simpa using h.now,fun x hx=>?_,h.sure,h.sureT,by simpa using h.last,h.slast,h.floors,fun i hi=>?_⟩
  ·rcases List.mem_or_eq_of_mem_set hx with hx | rfl
   ·exact h.nowT x hx
   ·refine txtOk_wr (h.nowT _ ?_) h1.wr
    have:q.obj.toNat<s.now.length:=by rw [h.now];omega
    rw [List.getD_eq_getElem?_getD,List.getElem?_eq_getElem this]
    exact List.getElem_mem this
  ·have:=h.nums i hi
   simp only [getD_set]
   split
   ·rename_i hi2
    obtain ⟨rfl,_⟩:=hi2
    have:=h1.num
    omega
   ·exact this
 ·have:(storeDo s q).1=s:=by
   unfold storeDo at hc ⊢
   repeat' split
   all_goals first | rfl | skip
   rename_i a b c d
   rw [if_pos a,if_neg b,if_pos c,if_neg d] at hc
   exact absurd rfl hc
  rw [this];exact h
theorem storeAll_len:∀ (qs:List ReqT) (s:StoreT),(storeAll s qs).2.length=qs.length
 | [],s=>rfl
 | q::qs,s=>by simp [storeAll,storeAll_len qs]
def objOf (size many j:Nat):Nat:=j / size % many
def posOf (size many j:Nat):Nat:=j / size / many*size+j % size
theorem pos_le {size many j:Nat} (hs:0<size) (hm:0<many):posOf size many j≤j:=by
 unfold posOf
 have b1:=Nat.div_add_mod j size
 have:j / size / many*size≤j / size*size:=Nat.mul_le_mul_right _ (Nat.div_le_self _ _)
 rw [Nat.mul_comm (j / size)] at this
 omega
def fileAt (size many:Nat) (now:List Bs) (j:Nat):UInt8:=(now.getD (objOf size many j) []).getD (posOf size many j) 46
end Go.Ev


namespace Go.Ev
structure HoldT where
 r:List Sp
 w:List Sp
def noH:HoldT:=⟨[],[]⟩
def clearS (a b:List Sp):Bool:=a.all fun x=>b.all fun y=>!ltI (meetS x y).1 (meetS x y).2
def lockAt (t:List HoldT) (i:Nat):Bool:=spsOk (t.getD i noH).r&&spsOk (t.getD i noH).w&&clearS (t.getD i noH).r (t.getD i noH).w&&allTo (fun k=>(k==i) || (clearS (t.getD i noH).w (t.getD k noH).w&&clearS (t.getD i noH).w (t.getD k noH).r)) 3 0
def lockOk (t:List HoldT):Bool:=eqI t.length 3&&allTo (lockAt t) 3 0
def apartS (a b:List Sp):Prop:=∀ j:Nat,¬ (inF a j=true∧inF b j=true)
structure LockP (t:List HoldT):Prop where
 len:t.length=3
 r:∀ i,i<3→spsOk (t.getD i noH).r=true
 w:∀ i,i<3→spsOk (t.getD i noH).w=true
 rw:∀ i,i<3→apartS (t.getD i noH).r (t.getD i noH).w
 ww:∀ i k,i<3→k<3→k≠i→apartS (t.getD i noH).w (t.getD k noH).w
 wr:∀ i k,i<3→k<3→k≠i→apartS (t.getD i noH).w (t.getD k noH).r
theorem clearS_iff {a b:List Sp} (ha:∀ s∈a,0≤s.1∧s.1<s.2∧s.2≤48) (hb:∀ s∈b,0≤s.1∧s.1<s.2∧s.2≤48):clearS a b=true↔apartS a b:=by
 simp only [clearS,List.all_eq_true,Bool.not_eq_true',ltI_not]
 constructor
 ·intro h j ⟨h1,h2⟩
  obtain ⟨x,hx,x1,x2⟩:=inF_iff.1 h1
  obtain ⟨y,hy,y1,y2⟩:=inF_iff.1 h2
  have:=h x hx y hy
  simp only [meetS,maxI,minI,ltI,decide_eq_true_eq] at this
  split at this<;>split at this<;>omega
 ·intro h x hx y hy
  have hx0:=ha x hx
  have hy0:=hb y hy
  apply Classical.byContradiction
  intro hn
  have hlt:(meetS x y).1<(meetS x y).2:=by omega
  refine h (meetS x y).1.toNat ⟨inF_iff.2 ⟨x,hx,?_⟩,inF_iff.2 ⟨y,hy,?_⟩⟩ <;>
   ·simp only [meetS,maxI,minI,ltI,decide_eq_true_eq] at hlt ⊢
    split at hlt<;>split at hlt<;>(constructor<;>simp only [*,if_true,if_false]<;>omega)
theorem lockOk_iff {t:List HoldT}:lockOk t=true↔LockP t:=by
 simp only [lockOk,Bool.and_eq_true,eqI3,allTo_iff]
 constructor
 ·rintro ⟨h0,h⟩
  have g:∀ i,i<3→spsOk (t.getD i noH).r=true∧spsOk (t.getD i noH).w=true:=fun i hi=>by
   have:=h i (Nat.zero_le i) (by omega)
   simp only [lockAt,Bool.and_eq_true] at this
   exact ⟨this.1.1.1,this.1.1.2⟩
  refine ⟨h0,fun i hi=>(g i hi).1,fun i hi=>(g i hi).2,fun i hi=>?_,fun i k hi hk hne=>?_,fun i k hi hk hne=>?_⟩
  ·have:=h i (Nat.zero_le i) (by omega)
   simp only [lockAt,Bool.and_eq_true] at this
   exact (clearS_iff (spsOk_sp (g i hi).1) (spsOk_sp (g i hi).2)).1 this.1.2
  all_goals
   have:=h i (Nat.zero_le i) (by omega)
   simp only [lockAt,Bool.and_eq_true,allTo_iff] at this
   have:=this.2 k (Nat.zero_le k) (by omega)
   simp only [Bool.or_eq_true,beq_iff_eq,Bool.and_eq_true,hne,false_or] at this
  ·exact (clearS_iff (spsOk_sp (g i hi).2) (spsOk_sp (g k hk).2)).1 this.1
  ·exact (clearS_iff (spsOk_sp (g i hi).2) (spsOk_sp (g k hk).1)).1 this.2
 ·intro h
  refine ⟨h.len,fun i _ hi=>?_⟩
  have hi:i<3:=by omega
  simp only [lockAt,Bool.and_eq_true,allTo_iff]
  refine ⟨⟨⟨h.r i hi,h.w i hi⟩,(clearS_iff (spsOk_sp (h.r i hi)) (spsOk_sp (h.w i hi))).2 (h.rw i hi)⟩,fun k _ hk=>?_⟩
  have hk:k<3:=by omega
  by_cases hne:k=i
  ·simp [hne]
  ·simp only [Bool.or_eq_true,beq_iff_eq,Bool.and_eq_true,hne,false_or]
   exact ⟨(clearS_iff (spsOk_sp (h.w i hi)) (spsOk_sp (h.w k hk))).2 (h.ww i k hi hk hne),(clearS_iff (spsOk_sp (h.w i hi)) (spsOk_sp (h.r k hk))).2 (h.wr i k hi hk hne)⟩
end Go.Ev


set_option maxRecDepth 100000
set_option maxHeartbeats 4000000
namespace Go.Ev
open Go.Proofs
theorem overS_get (s x:List UInt8) (lo hi:Nat) (h1:lo≤hi) (h2:hi≤s.length) (hx:x.length=hi - lo) (j:Nat):(overS s ((lo:Int),(hi:Int)) x)[j]?=if lo≤j∧j<hi then x[j - lo]? else s[j]?:=by
 simp only [overS,wrap_i]
 by_cases a1:j<lo
 ·rw [List.append_assoc,List.getElem?_append_left (by simp;omega),List.getElem?_take_of_lt a1,if_neg (by omega)]
 ·by_cases a2:j<hi
  ·rw [if_pos ⟨by omega,a2⟩,List.append_assoc,List.getElem?_append_right (by simp;omega),List.getElem?_append_left (by simp;omega)]
   congr 1
   simp
   omega
  ·rw [if_neg (by omega),List.getElem?_append_right (by simp;omega),List.getElem?_drop]
   congr 1
   simp
   omega
abbrev vim (m:M) (i:Int):AV:=.v m false [.int .i64 i]
end Go.Ev


set_option maxRecDepth 100000
set_option maxHeartbeats 4000000
namespace Go.Ev
open Go.Proofs
theorem nat_sp {p:Sp} (hp:0≤p.1∧p.1<p.2∧p.2≤48):∃ lo hi:Nat,p=((lo:Int),(hi:Int))∧lo<hi∧hi≤48:=by
 obtain ⟨a,b⟩:=p
 dsimp only at hp
 exact ⟨a.toNat,b.toNat,by simp only [Prod.mk.injEq];omega,by omega,by omega⟩
end Go.Ev


namespace Go.Ev
structure OwnT where
 t:Bs
 h:List Sp
 d:List Sp
def noO:OwnT:=⟨List.replicate 48 46,[],[]⟩
def OwnT.ok (o:OwnT):Bool:=ownOk o.t o.h o.d
structure WorldT where
 size:Int
 many:Int
 st:StoreT
 locks:List HoldT
 owns:List OwnT
 epochs:List Int
 alive:List Bool
 kept:List ReqT
 late:List ReqT
def WorldT.own (w:WorldT) (i:Nat):OwnT:=w.owns.getD i noO
def WorldT.lock (w:WorldT) (i:Nat):HoldT:=w.locks.getD i noH
def WorldT.ep (w:WorldT) (i:Nat):Int:=w.epochs.getD i 0
def WorldT.live (w:WorldT) (i:Nat):Bool:=w.alive.getD i false
def WorldT.byte (w:WorldT) (j:Nat):UInt8:=fileAt w.size.toNat w.many.toNat w.st.now j
def WorldT.file (w:WorldT):Bs:=(List.range 48).map w.byte
def whole:Sp:=(0,48)
def zeros (qs:List ReqT):List Int:=qs.map fun _=>0
structure WorldP (w:WorldT):Prop where
 lay:1≤w.size∧w.size≤8∧1≤w.many∧w.many≤3
 st:StoreP w.st
 lk:LockP w.locks
 owns:w.owns.length=3
 epochs:w.epochs.length=3
 alive:w.alive.length=3
 lateN:w.late.length≤8
 own:∀ i,i<3→(w.own i).ok=true
 ep:∀ i,i<3→w.st.floors.getD i 0≤w.ep i∧w.ep i≤100
 dead:∀ i,i<3→w.live i=false→w.own i=noO
 kept:storeAll (storeFall w.st) w.kept=(w.st,zeros w.kept)
 keptE:∀ q∈w.kept,q.epoch=w.ep q.who.toNat
 late:∀ q∈w.late,ReqP q∧q.epoch<w.st.floors.getD q.who.toNat 0
 held:∀ i,i<3→∀ j:Nat,j<48→inF (w.own i).h j=true→(inF (w.lock i).w j=true∨(inF (w.own i).d j=false∧inF (w.lock i).r j=true))∧(inF (w.own i).d j=true∨(w.own i).t.getD j 0=w.byte j)
def mayAt (h:HoldT) (write:Bool) (j:Nat):Bool:=inF h.w j || (!write&&inF h.r j)
def lockMay (h:HoldT) (write:Bool) (s:Sp):Bool:=allTo (mayAt h write) (s.2 - s.1).toNat s.1.toNat
theorem ownOk_have {o:OwnT} (h:o.ok=true) {j:Nat} (hj:j<48) (hd:inF o.d j=true):inF o.h j=true:=by
 simp only [OwnT.ok,ownOk,Bool.and_eq_true] at h
 have:=(allTo_iff _ 48 0).1 h.2 j (Nat.zero_le j) (by omega)
 simpa [okAt,hd] using this
theorem inF_lt {xs:List Sp} (h:spsOk xs=true) {j:Nat} (hj:inF xs j=true):j<48:=by
 obtain ⟨s,hs,_,h2⟩:=inF_iff.1 hj
 have:=spsOk_sp h s hs
 omega
end Go.Ev


namespace Go.Ev
theorem own_set (w:WorldT) (i k:Nat) (o:OwnT) (hl:w.owns.length=3) (hk:k<3):(w.owns.set i o).getD k noO=if i=k then o else w.own k:=by
 rw [getD_set]
 by_cases h:i=k
 ·rw [if_pos ⟨h,by omega⟩,if_pos h]
 ·rw [if_neg (fun q=>h q.1),if_neg h];rfl
theorem lock_set (t:List HoldT) (i k:Nat) (o:HoldT) (hl:t.length=3) (hk:k<3):(t.set i o).getD k noH=if i=k then o else t.getD k noH:=by
 rw [getD_set]
 by_cases h:i=k
 ·rw [if_pos ⟨h,by omega⟩,if_pos h]
 ·rw [if_neg (fun q=>h q.1),if_neg h]
theorem ownOk_bd {o:OwnT} (h:o.ok=true):o.t.length=48∧spsOk o.h=true∧spsOk o.d=true∧o.t.all okB=true:=ownOk_t h
theorem WorldP.sole {w:WorldT} (h:WorldP w) {i k j:Nat} (hi:i<3) (hk:k<3) (hne:k≠i) (hj:j<48) (hd:inF (w.own i).d j=true):inF (w.own k).h j=false:=by
 rw [← Bool.not_eq_true]
 intro hh
 have h1:=ownOk_have (h.own i hi) hj hd
 have hw:inF (w.lock i).w j=true:=by
  rcases (h.held i hi j hj h1).1 with q | ⟨q,_⟩
  ·exact q
  ·rw [hd] at q;cases q
 rcases (h.held k hk j hj hh).1 with q | ⟨_,q⟩
 ·exact h.lk.ww i k hi hk hne j ⟨hw,q⟩
 ·exact h.lk.wr i k hi hk hne j ⟨hw,q⟩
structure FlushR (w:WorldT) (i:Nat) (s:Sp) (x:WorldT):Prop where
 ok:WorldP x
 size:x.size=w.size
 many:x.many=w.many
 locks:x.locks=w.locks
 epochs:x.epochs=w.epochs
 alive:x.alive=w.alive
 late:x.late=w.late
 own:∀ k,k<3→x.own k=if i=k then ⟨(w.own i).t,(w.own i).h,cutS (w.own i).d s⟩ else w.own k
 byte:∀ j,x.byte j=if (inSp j s&&inF (w.own i).d j)=true then (w.own i).t.getD j 0 else w.byte j
 floors:x.st.floors=w.st.floors
 keptN:w.kept.length≤x.kept.length
theorem WorldP.turn {w:WorldT} (hw:WorldP w) {i:Nat} (hi:i<3) (o:OwnT) (h:HoldT) (hl:LockP (w.locks.set i h)) (ho:o.ok=true) (ha:w.live i=true)
  (hh:∀ j:Nat,j<48→inF o.h j=true→(inF h.w j=true∨(inF o.d j=false∧inF h.r j=true))∧(inF o.d j=true∨o.t.getD j 0=w.byte j)) :
  WorldP { w with owns:=w.owns.set i o,locks:=w.locks.set i h }:=by
 have hown:∀ k,k<3→(w.owns.set i o).getD k noO=if i=k then o else w.own k:=fun k hk=>own_set w i k _ hw.owns hk
 have hlk:∀ k,k<3→(w.locks.set i h).getD k noH=if i=k then h else w.lock k:=fun k hk=>lock_set w.locks i k _ hw.lk.len hk
 refine ⟨hw.lay,hw.st,hl,by simpa using hw.owns,hw.epochs,hw.alive,hw.lateN,fun k hk=>?_,hw.ep,fun k hk hd=>?_,hw.kept,hw.keptE,hw.late,fun k hk j hj hhv=>?_⟩
 ·show OwnT.ok ((w.owns.set i o).getD k noO)=true
  rw [hown k hk]
  split
  ·exact ho
  ·exact hw.own k hk
 ·show (w.owns.set i o).getD k noO=noO
  rw [hown k hk]
  have hne:i≠k:=fun e=>by
   subst e
   rw [show w.live i=false from hd] at ha;cases ha
  rw [if_neg hne]
  exact hw.dead k hk hd
 ·change inF ((w.owns.set i o).getD k noO).h j=true at hhv
  show (inF ((w.locks.set i h).getD k noH).w j=true∨(inF ((w.owns.set i o).getD k noO).d j=false∧inF ((w.locks.set i h).getD k noH).r j=true))∧(inF ((w.owns.set i o).getD k noO).d j=true∨((w.owns.set i o).getD k noO).t.getD j 0=w.byte j)
  rw [hown k hk] at hhv ⊢
  rw [hlk k hk]
  by_cases hik:i=k
  ·simp only [if_pos hik] at hhv ⊢
   exact hh j hj hhv
  ·simp only [if_neg hik] at hhv ⊢
   exact hw.held k hk j hj hhv
end Go.Ev


namespace Go.Ev
structure YieldsR (w:WorldT) (ks:List Nat) (write:Bool) (s:Sp) (x:WorldT):Prop where
 ok:WorldP x
 size:x.size=w.size
 many:x.many=w.many
 epochs:x.epochs=w.epochs
 alive:x.alive=w.alive
 late:x.late=w.late
 lock:∀ q,q<3→q ∉ ks→x.lock q=w.lock q
 own:∀ q,q<3→q ∉ ks→x.own q=w.own q
 dirty:∀ q,q<3→q∈ks→∀ j,j<48→inF (x.own q).d j=(!inSp j s&&inF (w.own q).d j)
 text:∀ q,q<3→∀ j,inF (x.own q).d j=true→(x.own q).t.getD j 0=(w.own q).t.getD j 0
 byte:∀ j,x.byte j=w.byte j∨∃ q,q<3∧q∈ks∧inSp j s=true∧inF (w.own q).d j=true∧x.byte j=(w.own q).t.getD j 0
 put:∀ q,q<3→q∈ks→∀ j:Nat,j<48→inSp j s=true→inF (w.own q).d j=true→x.byte j=(w.own q).t.getD j 0
 lw:∀ q,q<3→q∈ks→∀ j,j<48→inF (x.lock q).w j=(!inSp j s&&inF (w.lock q).w j)
 lr:write=true→∀ q,q<3→q∈ks→∀ j,j<48→inF (x.lock q).r j=(!inSp j s&&inF (w.lock q).r j)
 lr2:∀ q,q<3→∀ j,j<48→inF (x.lock q).r j=true→inF (w.lock q).r j=true∨inF (w.lock q).w j=true
 floors:x.st.floors=w.st.floors
theorem file_get (w:WorldT) {j:Nat} (hj:j<48):w.file[j]?=some (w.byte j):=by
 simp [WorldT.file,hj]
theorem file_len (w:WorldT):w.file.length=48:=by simp [WorldT.file]
theorem file_getD (w:WorldT) {j:Nat} (hj:j<48) (d:UInt8):w.file.getD j d=w.byte j:=by
 rw [List.getD_eq_getElem?_getD,file_get w hj];rfl
end Go.Ev


namespace Go.Ev
def overAll (t:Bs):List Sp→Bs→Bs
 | [],s=>s
 | d::ds,s=>overAll t ds (overS s d (subS t d))
def textF:List OwnT→Bs→Bs
 | [],s=>s
 | o::os,s=>textF os (overAll o.t o.d s)
def WorldT.text (w:WorldT):Bs:=textF w.owns w.file
theorem overAll_get (t:Bs) (ht:t.length=48):∀ (ds:List Sp) (s:Bs),(∀ d∈ds,0≤d.1∧d.1<d.2∧d.2≤48)→s.length=48→(overAll t ds s).length=48∧∀ j,(overAll t ds s).getD j 0=if inF ds j=true then t.getD j 0 else s.getD j 0
 | [],s,_,hs=>⟨hs,fun j=>by simp [overAll,inF]⟩
 | d::ds,s,hd,hs=>by
  have h0:=hd d (by simp)
  obtain ⟨lo,hi,rfl,h1,h2⟩:=nat_sp h0
  have hl:(subS t ((lo:Int),(hi:Int))).length=hi - lo:=by simp [subS];omega
  have hlen:(overS s ((lo:Int),(hi:Int)) (subS t ((lo:Int),(hi:Int)))).length=48:=by
   rw [overS_len _ _ _ (by omega) (by omega) (by dsimp only;omega),hl]
   dsimp only
   omega
  obtain ⟨g1,g2⟩:=overAll_get t ht ds _ (fun q hq=>hd q (by simp [hq])) hlen
  refine ⟨g1,fun j=>?_⟩
  rw [overAll,g2 j]
  have e4:inF (((lo:Int),(hi:Int))::ds) j=(inSp j ((lo:Int),(hi:Int)) || inF ds j):=rfl
  have hab:inSp j ((lo:Int),(hi:Int))=true↔lo≤j∧j<hi:=by rw [inSp_iff];dsimp only;omega
  rw [e4]
  cases e:inF ds j
  ·simp only [Bool.or_false,Bool.false_eq_true,if_false]
   rw [List.getD_eq_getElem?_getD,overS_get s _ lo hi (by omega) (by omega) hl j]
   by_cases hc:lo≤j∧j<hi
   ·rw [if_pos hc,if_pos (hab.2 hc),subS_get t lo hi _ (by omega),show lo+(j - lo)=j by omega,List.getD_eq_getElem?_getD]
   ·rw [if_neg hc,if_neg (fun q=>hc (hab.1 q)),List.getD_eq_getElem?_getD]
  ·simp
def WorldT.see (w:WorldT) (j:Nat):UInt8:=if inF (w.own 2).d j=true then (w.own 2).t.getD j 0 else if inF (w.own 1).d j=true then (w.own 1).t.getD j 0 else if inF (w.own 0).d j=true then (w.own 0).t.getD j 0 else w.byte j
theorem list3 {α:Type} {xs:List α} (d:α) (h:xs.length=3):xs=[xs.getD 0 d,xs.getD 1 d,xs.getD 2 d]:=by
 match xs,h with
 | [a,b,c],_=>rfl
theorem WorldP.textGet {w:WorldT} (h:WorldP w):w.text.length=48∧∀ j,j<48→w.text.getD j 0=w.see j:=by
 have e:w.owns=[w.own 0,w.own 1,w.own 2]:=list3 noO h.owns
 have b:=fun i (hi:i<3)=>ownOk_bd (h.own i hi)
 have g0:=overAll_get (w.own 0).t (b 0 (by omega)).1 (w.own 0).d w.file (spsOk_sp (b 0 (by omega)).2.2.1) (file_len w)
 have g1:=overAll_get (w.own 1).t (b 1 (by omega)).1 (w.own 1).d _ (spsOk_sp (b 1 (by omega)).2.2.1) g0.1
 have g2:=overAll_get (w.own 2).t (b 2 (by omega)).1 (w.own 2).d _ (spsOk_sp (b 2 (by omega)).2.2.1) g1.1
 have et:w.text=overAll (w.own 2).t (w.own 2).d (overAll (w.own 1).t (w.own 1).d (overAll (w.own 0).t (w.own 0).d w.file)):=by
  unfold WorldT.text
  rw [e];rfl
 rw [et]
 refine ⟨g2.1,fun j hj=>?_⟩
 rw [g2.2,g1.2,g0.2,file_getD w hj]
 rfl
theorem WorldP.see_own {w:WorldT} (h:WorldP w) {i j:Nat} (hi:i<3) (hj:j<48) (hd:inF (w.own i).d j=true):w.see j=(w.own i).t.getD j 0:=by
 have hno:∀ k,k<3→k≠i→inF (w.own k).d j=false:=fun k hk hne=>by
  rw [← Bool.not_eq_true]
  intro hk2
  have:=ownOk_have (h.own k hk) hj hk2
  rw [h.sole hi hk hne hj hd] at this
  cases this
 unfold WorldT.see
 match i,hi with
 | 0,_=>rw [hno 2 (by omega) (by omega),hno 1 (by omega) (by omega),hd];rfl
 | 1,_=>rw [hno 2 (by omega) (by omega),hd];rfl
 | 2,_=>rw [hd];rfl
theorem see_none {w:WorldT} {j:Nat} (hd:∀ i,i<3→inF (w.own i).d j=false):w.see j=w.byte j:=by
 unfold WorldT.see
 rw [hd 2 (by omega),hd 1 (by omega),hd 0 (by omega)]
 rfl
theorem WorldP.see_of {w:WorldT} (h:WorldP w) {j:Nat} (hj:j<48) {v:UInt8} (h1:∀ i,i<3→inF (w.own i).d j=true→(w.own i).t.getD j 0=v) (h2:(∀ i,i<3→inF (w.own i).d j=false)→w.byte j=v):w.see j=v:=by
 by_cases hc:∃ i,i<3∧inF (w.own i).d j=true
 ·obtain ⟨i,hi,hd⟩:=hc
  rw [h.see_own hi hj hd,h1 i hi hd]
 ·have hn:∀ i,i<3→inF (w.own i).d j=false:=fun i hi=>by
   rw [← Bool.not_eq_true]
   exact fun q=>hc ⟨i,hi,q⟩
  rw [see_none hn,h2 hn]
theorem FlushR.see {w x:WorldT} {i:Nat} {s:Sp} (hw:WorldP w) (hi:i<3) (F:FlushR w i s x) {j:Nat} (hj:j<48):x.see j=w.see j:=by
 have hcd:=cutS_get (w.own i).d s j hj
 refine F.ok.see_of hj (fun k hk hd=>?_) (fun hn=>?_)
 ·rw [F.own k hk] at hd ⊢
  by_cases e:i=k
  ·subst e
   rw [if_pos rfl] at hd ⊢
   dsimp only at hd ⊢
   rw [hcd,Bool.and_eq_true] at hd
   exact (hw.see_own hi hj hd.2).symm
  ·rw [if_neg e] at hd ⊢
   exact (hw.see_own hk hj hd).symm
 ·rw [F.byte j]
  by_cases hc:(inSp j s&&inF (w.own i).d j)=true
  ·rw [if_pos hc]
   rw [Bool.and_eq_true] at hc
   exact (hw.see_own hi hj hc.2).symm
  ·rw [if_neg hc]
   refine (see_none fun k hk=>?_).symm
   have:=hn k hk
   rw [F.own k hk] at this
   by_cases e:i=k
   ·subst e
    rw [if_pos rfl] at this
    dsimp only at this
    rw [hcd] at this
    cases e1:inSp j s<;>cases e2:inF (w.own i).d j<;>simp [e1,e2] at this hc ⊢
   ·rwa [if_neg e] at this
theorem YieldsR.see {w x:WorldT} {ks:List Nat} {write:Bool} {s:Sp} (hw:WorldP w) (Y:YieldsR w ks write s x) {j:Nat} (hj:j<48):x.see j=w.see j:=by
 have hdd:∀ q,q<3→inF (x.own q).d j=true→inF (w.own q).d j=true:=fun q hq hd=>by
  by_cases hm:q∈ks
  ·rw [Y.dirty q hq hm j hj,Bool.and_eq_true] at hd;exact hd.2
  ·rwa [Y.own q hq hm] at hd
 refine Y.ok.see_of hj (fun k hk hd=>?_) (fun hn=>?_)
 ·rw [Y.text k hk j hd]
  exact (hw.see_own hk hj (hdd k hk hd)).symm
 ·rcases Y.byte j with e | ⟨q,hq,hm,h1,h2,h3⟩
  ·by_cases hc:∃ i,i<3∧inF (w.own i).d j=true
   ·obtain ⟨i,hi,hd⟩:=hc
    have hx:=hn i hi
    by_cases hm:i∈ks
    ·rw [Y.dirty i hi hm j hj,hd] at hx
     have hjs:inSp j s=true:=by cases e1:inSp j s<;>simp [e1] at hx ⊢
     -- the place was put into the file
     have hk:=ownOk_have (hw.own i hi) hj hd
     rw [hw.see_own hi hj hd]
     -- by the invariant of x at an owner that still keeps it,or by the byte itself
     exact (Y.put i hi hm j hj hjs hd)
    ·rw [Y.own i hi hm,hd] at hx;cases hx
   ·rw [e]
    refine (see_none fun i hi=>?_).symm
    rw [← Bool.not_eq_true]
    exact fun q=>hc ⟨i,hi,q⟩
  ·rw [h3]
   exact (hw.see_own hq hj h2).symm
end Go.Ev

