/- My texts joined: EvW1, EvW2. No condition. -/
import Derived.Test.YtngbcdcghbapnaaGreatDoorEn1
import Derived.Test.YtngbcdcghbapnaaGreatDoorEn2
import Derived.Test.YtngbcdcghbapnaaGreatDoorEn5
import Derived.Test.YtngbcdcghbapnaaGreatDoorEn6
import Derived.Test.YtngbcdcghbapnaaGreatDoorEn7
import Derived.Test.YtngbcdcghbapnaaGreatDoorEn8
import Derived.Test.YtngbcdcghbapnaaGreatDoorEn9
import Derived.Test.YtngbcdcghbapnaaGreatDoorEn10
import Derived.Test.YtngbcdcghbapnaaGreatDoorEn11
import Derived.Test.YtngbcdcghbapnaaGreatDoorEn12
import Derived.Test.YtngbcdcghbapnaaGreatDoorEn13
set_option linter.unusedVariables false
set_option linter.unusedSimpArgs false

namespace Go.Ev
abbrev Bs:=List UInt8
structure ReqT where
 who:Int
 epoch:Int
 num:Int
 obj:Int
 pos:Int
 data:Bs
structure StoreT where
 now:List Bs
 sure:List Bs
 last:List Int
 slast:List Int
 floors:List Int
def whoOk (k:Int):Bool:=!ltI k 0&&ltI k 3
def reqOk (q:ReqT):Bool:=whoOk q.who&&!ltI q.epoch 0&&!ltI 100 q.epoch&&!ltI q.num 1&&!ltI 1000 q.num&&!ltI q.obj 0&&ltI q.obj 3&&wrOk q.pos q.data
def numsOk (s:StoreT) (i:Nat):Bool:=!ltI (s.slast.getD i 0) 0&&!ltI (s.last.getD i 0) (s.slast.getD i 0)&&!ltI 1000 (s.last.getD i 0)&&!ltI (s.floors.getD i 0) 0&&!ltI 100 (s.floors.getD i 0)
def textsOk (xs:List Bs):Bool:=xs.all txtOk&&eqI xs.length 3
def storeOk (s:StoreT):Bool:=textsOk s.now&&textsOk s.sure&&eqI s.last.length 3&&eqI s.slast.length 3&&eqI s.floors.length 3&&allTo (numsOk s) 3 0
def storeDo (s:StoreT) (q:ReqT):StoreT × Int :=
 if reqOk q=true then
  if ltI q.epoch (s.floors.getD q.who.toNat 0)=true then (s,2)
  else if ltI (s.last.getD q.who.toNat 0) q.num=true then
   if ltI (s.last.getD q.who.toNat 0+1) q.num=true then (s,4)
   else ({ s with now:=s.now.set q.obj.toNat (wrS (s.now.getD q.obj.toNat []) q.pos.toNat q.data),last:=s.last.set q.who.toNat q.num },0)
  else (s,3)
 else (s,1)
def storeAll (s:StoreT):List ReqT→StoreT × List Int
 | []=>(s,[])
 | q::qs=>((storeAll (storeDo s q).1 qs).1,(storeDo s q).2::(storeAll (storeDo s q).1 qs).2)
def storeSync (s:StoreT):StoreT:={ s with sure:=s.now,slast:=s.last }
def storeFall (s:StoreT):StoreT:={ s with now:=s.sure,last:=s.slast }
def storeFence (s:StoreT) (who:Nat) (e:Int):StoreT:={ s with floors:=s.floors.set who (maxI (s.floors.getD who 0) e) }
structure StoreP (s:StoreT):Prop where
 now:s.now.length=3
 nowT:∀ x∈s.now,txtOk x=true
 sure:s.sure.length=3
 sureT:∀ x∈s.sure,txtOk x=true
 last:s.last.length=3
 slast:s.slast.length=3
 floors:s.floors.length=3
 nums:∀ i,i<3→0≤s.slast.getD i 0∧s.slast.getD i 0≤s.last.getD i 0∧s.last.getD i 0≤1000∧0≤s.floors.getD i 0∧s.floors.getD i 0≤100
theorem eqI3 {n:Nat}:eqI n 3=true↔n=3:=by rw [eqI_iff];omega
theorem storeOk_iff {s:StoreT}:storeOk s=true↔StoreP s:=by
 simp only [storeOk,textsOk,Bool.and_eq_true,eqI3,allTo_iff,List.all_eq_true]
 constructor
 ·rintro ⟨⟨⟨⟨⟨⟨h1,h2⟩,⟨h3,h4⟩⟩,h5⟩,h6⟩,h7⟩,h8⟩
  refine ⟨h2,h1,h4,h3,h5,h6,h7,fun i hi=>?_⟩
  have:=h8 i (Nat.zero_le i) (by omega)
  simp only [numsOk,Bool.and_eq_true,Bool.not_eq_true',ltI_not] at this
  omega
 ·intro h
  refine ⟨⟨⟨⟨⟨⟨h.nowT,h.now⟩,⟨h.sureT,h.sure⟩⟩,h.last⟩,h.slast⟩,h.floors⟩,fun i _ hi=>?_⟩
  have:=h.nums i (by omega)
  simp only [numsOk,Bool.and_eq_true,Bool.not_eq_true',ltI_not]
  omega
structure ReqP (q:ReqT):Prop where
 who:0≤q.who∧q.who<3
 epoch:0≤q.epoch∧q.epoch≤100
 num:1≤q.num∧q.num≤1000
 obj:0≤q.obj∧q.obj<3
 wr:wrOk q.pos q.data=true
theorem reqOk_iff {q:ReqT}:reqOk q=true↔ReqP q:=by
 simp only [reqOk,whoOk,Bool.and_eq_true,Bool.not_eq_true',ltI_not,ltI_iff]
 constructor
 ·rintro ⟨⟨⟨⟨⟨⟨⟨⟨h1,h2⟩,h3⟩,h4⟩,h5⟩,h6⟩,h7⟩,h8⟩,h9⟩
  exact ⟨⟨h1,h2⟩,⟨h3,h4⟩,⟨h5,h6⟩,⟨h7,h8⟩,h9⟩
 ·intro h
  exact ⟨⟨⟨⟨⟨⟨⟨⟨h.who.1,h.who.2⟩,h.epoch.1⟩,h.epoch.2⟩,h.num.1⟩,h.num.2⟩,h.obj.1⟩,h.obj.2⟩,h.wr⟩
theorem storeDo_fine {s:StoreT} {q:ReqT} (h:(storeDo s q).2=0):ReqP q∧s.floors.getD q.who.toNat 0≤q.epoch∧q.num=s.last.getD q.who.toNat 0+1 ∧
  storeDo s q=({ s with now:=s.now.set q.obj.toNat (wrS (s.now.getD q.obj.toNat []) q.pos.toNat q.data),last:=s.last.set q.who.toNat q.num },0):=by
 unfold storeDo at h ⊢
 cases e1:reqOk q
 ·simp only [e1,Bool.false_eq_true,if_false] at h;exact absurd h (by decide)
 ·cases e2:ltI q.epoch (s.floors.getD q.who.toNat 0)
  ·cases e3:ltI (s.last.getD q.who.toNat 0) q.num
   ·simp only [e1,e2,e3,Bool.false_eq_true,if_false,if_true] at h;exact absurd h (by decide)
   ·cases e4:ltI (s.last.getD q.who.toNat 0+1) q.num
    ·rw [ltI_not] at e2 e4
     rw [ltI_iff] at e3
     exact ⟨reqOk_iff.1 e1,e2,by omega,by simp only [Bool.false_eq_true,if_false,if_true]⟩
    ·simp only [e1,e2,e3,e4,Bool.false_eq_true,if_false,if_true] at h;exact absurd h (by decide)
  ·simp only [e1,e2,if_true] at h;exact absurd h (by decide)
theorem getD_set {α:Type} (xs:List α) (i j:Nat) (a d:α):(xs.set i a).getD j d=if i=j∧j<xs.length then a else xs.getD j d:=by
 simp only [List.getD_eq_getElem?_getD,List.getElem?_set]
 by_cases h:i=j
 ·subst h
  by_cases h2:i<xs.length
  ·simp [h2]
  ·simp [h2,List.getElem?_eq_none (by omega:xs.length≤i)]
 ·simp [h]
theorem storeDo_ok {s:StoreT} (q:ReqT) (h:StoreP s):StoreP (storeDo s q).1:=by
 by_cases hc:(storeDo s q).2=0
 ·obtain ⟨h1,h2,h3,h4⟩:=storeDo_fine hc
  rw [h4]
  obtain ⟨ho1,ho2⟩:=h1.obj
  obtain ⟨hw1,hw2⟩:=h1.who
  refine ⟨by simpa using h.now,fun x hx=>?_,h.sure,h.sureT,by simpa using h.last,h.slast,h.floors,fun i hi=>?_⟩
  ·rcases List.mem_or_eq_of_mem_set hx with hx | rfl
   ·exact h.nowT x hx
   ·refine txtOk_wr (h.nowT _ ?_) h1.wr
    have:q.obj.toNat<s.now.length:=by rw [h.now];omega
    rw [List.getD_eq_getElem?_getD,List.getElem?_eq_getElem this]
    exact List.getElem_mem this
  ·have:=h.nums i hi
   simp only [getD_set]
   split
   ·rename_i hi2
    obtain ⟨rfl,_⟩:=hi2
    have:=h1.num
    omega
   ·exact this
 ·have:(storeDo s q).1=s:=by
   unfold storeDo at hc ⊢
   repeat' split
   all_goals first | rfl | skip
   rename_i a b c d
   rw [if_pos a,if_neg b,if_pos c,if_neg d] at hc
   exact absurd rfl hc
  rw [this];exact h
theorem storeAll_ok {s:StoreT}:∀ (qs:List ReqT) {s:StoreT},StoreP s→StoreP (storeAll s qs).1
 | [],s,h=>h
 | q::qs,s,h=>storeAll_ok (s:=s) qs (storeDo_ok q h)
theorem storeDo_keeps (s:StoreT) (q:ReqT):(storeDo s q).1.sure=s.sure∧(storeDo s q).1.slast=s.slast∧(storeDo s q).1.floors=s.floors:=by
 unfold storeDo
 split
 ·split
  ·exact ⟨rfl,rfl,rfl⟩
  ·split
   ·split<;>exact ⟨rfl,rfl,rfl⟩
   ·exact ⟨rfl,rfl,rfl⟩
 ·exact ⟨rfl,rfl,rfl⟩
theorem storeAll_keeps:∀ (qs:List ReqT) (s:StoreT),(storeAll s qs).1.sure=s.sure∧(storeAll s qs).1.slast=s.slast∧(storeAll s qs).1.floors=s.floors
 | [],s=>⟨rfl,rfl,rfl⟩
 | q::qs,s=>by
  obtain ⟨h1,h2,h3⟩:=storeAll_keeps qs (storeDo s q).1
  obtain ⟨g1,g2,g3⟩:=storeDo_keeps s q
  exact ⟨h1.trans g1,h2.trans g2,h3.trans g3⟩
theorem storeAll_len:∀ (qs:List ReqT) (s:StoreT),(storeAll s qs).2.length=qs.length
 | [],s=>rfl
 | q::qs,s=>by simp [storeAll,storeAll_len qs]
theorem storeAll_app:∀ (qs rs:List ReqT) (s:StoreT),storeAll s (qs++rs)=((storeAll (storeAll s qs).1 rs).1,(storeAll s qs).2++(storeAll (storeAll s qs).1 rs).2)
 | [],rs,s=>rfl
 | q::qs,rs,s=>by simp [storeAll,storeAll_app qs rs]
theorem storeFall_all (s:StoreT) (qs:List ReqT):storeFall (storeAll s qs).1=storeFall s:=by
 obtain ⟨h1,h2,h3⟩:=storeAll_keeps qs s
 simp [storeFall,h1,h2,h3]
def fineAll (cs:List Int):Prop:=∀ c∈cs,c=0
def objOf (size many j:Nat):Nat:=j / size % many
def posOf (size many j:Nat):Nat:=j / size / many*size+j % size
theorem lay_inj {size many j k:Nat} (hs:0<size) (hm:0<many) (h1:objOf size many j=objOf size many k) (h2:posOf size many j=posOf size many k):j=k:=by
 unfold objOf posOf at *
 have a1:=Nat.mod_lt j hs
 have a2:=Nat.mod_lt k hs
 have b1:=Nat.div_add_mod j size
 have b2:=Nat.div_add_mod k size
 have c1:=Nat.div_add_mod (j / size) many
 have c2:=Nat.div_add_mod (k / size) many
 have e1:j % size=k % size:=by
  have:=congrArg (· % size) h2
  simpa [Nat.mul_add_mod_self_right] using this
 have e2:j / size / many*size=k / size / many*size:=by omega
 have e3:j / size / many=k / size / many:=Nat.eq_of_mul_eq_mul_right hs e2
 rw [e3,h1] at c1
 have e4:j / size=k / size:=by omega
 rw [e4,e1] at b1
 omega
theorem pos_le {size many j:Nat} (hs:0<size) (hm:0<many):posOf size many j≤j:=by
 unfold posOf
 have b1:=Nat.div_add_mod j size
 have:j / size / many*size≤j / size*size:=Nat.mul_le_mul_right _ (Nat.div_le_self _ _)
 rw [Nat.mul_comm (j / size)] at this
 omega
theorem lay_run {size many a d:Nat} (hs:0<size) (h:a % size+d<size):objOf size many (a+d)=objOf size many a∧posOf size many (a+d)=posOf size many a+d:=by
 have e1:(a+d) / size=a / size:=by
  have b1:=Nat.div_add_mod a size
  refine Nat.div_eq_of_lt_le ?_ ?_
  ·rw [Nat.mul_comm];omega
  ·rw [Nat.succ_mul,Nat.mul_comm];omega
 have e2:(a+d) % size=a % size+d:=by
  have b1:=Nat.div_add_mod a size
  have b2:=Nat.div_add_mod (a+d) size
  rw [e1] at b2
  omega
 unfold objOf posOf
 rw [e1,e2]
 exact ⟨rfl,by omega⟩
def fileAt (size many:Nat) (now:List Bs) (j:Nat):UInt8:=(now.getD (objOf size many j) []).getD (posOf size many j) 46
theorem file_put {size many a:Nat} {now:List Bs} {x:Bs} (hs:0<size) (hm:0<many) (hm3:many≤3) (hn:now.length=3) (hx:a % size+x.length≤size) (j:Nat) :
  fileAt size many (now.set (objOf size many a) (wrS (now.getD (objOf size many a) []) (posOf size many a) x)) j=if a≤j∧j<a+x.length then x.getD (j - a) 0 else fileAt size many now j:=by
 have ho:objOf size many a<now.length:=by have:=Nat.mod_lt (a / size) hm;unfold objOf;omega
 unfold fileAt
 rw [getD_set]
 by_cases hj:objOf size many a=objOf size many j
 ·rw [if_pos ⟨hj,by rw [← hj];exact ho⟩]
  rw [List.getD_eq_getElem?_getD (l:=wrS _ _ _),wrS_get]
  by_cases hp:posOf size many a≤posOf size many j∧posOf size many j<posOf size many a+x.length
  ·rw [if_pos hp]
   obtain ⟨d,hd⟩:∃ d,posOf size many j=posOf size many a+d:=⟨posOf size many j - posOf size many a,by omega⟩
   have hr:=lay_run (many:=many) hs (a:=a) (d:=d) (by omega)
   have he:j=a+d:=lay_inj hs hm (hj.symm.trans hr.1.symm) (hd.trans hr.2.symm)
   rw [if_pos (by omega),hd,he]
   rw [List.getD_eq_getElem?_getD,show posOf size many a+d - posOf size many a=d by omega,show a+d - a=d by omega]
   rw [List.getElem?_eq_getElem (by omega)]
   rfl
  ·have hnn:¬ (a≤j∧j<a+x.length):=by
    intro hc
    obtain ⟨d,hd⟩:∃ d,j=a+d:=⟨j - a,by omega⟩
    have hr:=lay_run (many:=many) hs (a:=a) (d:=d) (by omega)
    rw [hd,hr.2] at hp
    omega
   rw [if_neg hp,if_neg hnn,← hj]
   by_cases h1:posOf size many j<(now.getD (objOf size many a) []).length
   ·rw [if_pos h1];simp only [List.getD_eq_getElem?_getD]
   ·rw [if_neg h1,List.getD_eq_getElem?_getD,List.getElem?_eq_none (by omega)]
    split<;>rfl
 ·rw [if_neg (fun h=>hj h.1),if_neg]
  intro hc
  obtain ⟨d,hd⟩:∃ d,j=a+d:=⟨j - a,by omega⟩
  have hr:=lay_run (many:=many) hs (a:=a) (d:=d) (by omega)
  rw [hd,hr.1] at hj
  exact hj rfl
end Go.Ev


namespace Go.Ev
def endOf (size a hi:Nat):Nat:=min hi ((a / size+1)*size)
theorem endOf_gt {size a hi:Nat} (hs:0<size) (h:a<hi):a<endOf size a hi∧endOf size a hi≤hi∧a % size+(endOf size a hi - a)≤size:=by
 have b1:=Nat.div_add_mod a size
 have b2:=Nat.mod_lt a hs
 unfold endOf
 rw [Nat.succ_mul,Nat.mul_comm (a / size) size]
 omega
def reqsF (size many:Nat) (who epoch:Int) (lo:Nat) (x:Bs) (hi:Nat):Nat→Nat→Int→List ReqT
 | 0,_,_=>[]
 | n+1,a,num=>if a<hi then { who,epoch,num,obj:=(objOf size many a:Nat),pos:=(posOf size many a:Nat),data:=(x.take (endOf size a hi - lo)).drop (a - lo) }::reqsF size many who epoch lo x hi n (endOf size a hi) (num+1) else []
theorem fineAll_cons {c:Int} {cs:List Int}:fineAll (c::cs)↔c=0∧fineAll cs:=by simp [fineAll]
theorem fineAll_app {cs ds:List Int}:fineAll (cs++ds)↔fineAll cs∧fineAll ds:=by
 simp only [fineAll,List.mem_append]
 exact ⟨fun h=>⟨fun c hc=>h c (.inl hc),fun c hc=>h c (.inr hc)⟩,fun h c hc=>hc.elim (h.1 c) (h.2 c)⟩
theorem reqsF_file {size many:Nat} (hs:0<size) (hm:0<many) (hm3:many≤3) {who epoch:Int} {lo hi:Nat} {x:Bs} (hx:hi=lo+x.length):∀ (n a:Nat) (num:Int) (s:StoreT),StoreP s→lo≤a→hi≤a+n →
  fineAll (storeAll s (reqsF size many who epoch lo x hi n a num)).2→∀ j,fileAt size many (storeAll s (reqsF size many who epoch lo x hi n a num)).1.now j=if a≤j∧j<hi then x.getD (j - lo) 0 else fileAt size many s.now j
 | 0,a,num,s,hsp,hlo,hn,hf,j=>by
  rw [if_neg (by omega)]
  rfl
 | n+1,a,num,s,hsp,hlo,hn,hf,j=>by
  rw [reqsF] at hf ⊢
  by_cases ha:a<hi
  ·rw [if_pos ha] at hf ⊢
   obtain ⟨g1,g2,g3⟩:=endOf_gt hs ha
   generalize endOf size a hi=e at *
   simp only [storeAll] at hf ⊢
   rw [fineAll_cons] at hf
   obtain ⟨_,_,_,hd⟩:=storeDo_fine hf.1
   have ih:=reqsF_file hs hm hm3 (who:=who) (epoch:=epoch) hx n e (num+1) _ (storeDo_ok _ hsp) (by omega) (by omega) hf.2 j
   rw [ih,hd]
   dsimp only
   simp only [Int.toNat_natCast]
   have hl:((x.take (e - lo)).drop (a - lo)).length=e - a:=by simp;omega
   rw [file_put hs hm hm3 hsp.now (by rw [hl];omega),hl]
   by_cases h1:e≤j∧j<hi
   ·rw [if_pos h1,if_pos (by omega)]
   ·rw [if_neg h1]
    by_cases h2:a≤j∧j<a+(e - a)
    ·rw [if_pos h2,if_pos (by omega)]
     simp only [List.getD_eq_getElem?_getD,List.getElem?_drop]
     rw [List.getElem?_take_of_lt (by omega),show a - lo+(j - a)=j - lo by omega]
    ·rw [if_neg h2,if_neg (by omega)]
  ·rw [if_neg ha,if_neg (by omega)]
   rfl
def reqsAll (size many:Nat) (who epoch:Int):List Pt→Int→List ReqT
 | [],_=>[]
 | q::qs,num=>reqsF size many who epoch q.1.toNat q.2 (q.1.toNat+q.2.length) 48 q.1.toNat num++reqsAll size many who epoch qs (num+(reqsF size many who epoch q.1.toNat q.2 (q.1.toNat+q.2.length) 48 q.1.toNat num).length)
theorem reqsAll_file {size many:Nat} (hs:0<size) (hm:0<many) (hm3:many≤3) {who epoch:Int} (t:Bs) (p:Sp) (ht:t.length=48) (hp:0≤p.1∧p.1<p.2∧p.2≤48):∀ (ds:List Sp) (num:Int) (s:StoreT),StoreP s→(∀ d∈ds,0≤d.1∧d.1<d.2∧d.2≤48) →
  fineAll (storeAll s (reqsAll size many who epoch (patF t p ds) num)).2→∀ j,fileAt size many (storeAll s (reqsAll size many who epoch (patF t p ds) num)).1.now j=if (inSp j p&&inF ds j)=true then t.getD j 0 else fileAt size many s.now j
 | [],num,s,hsp,hd,hf,j=>by
  have:inF [] j=false:=rfl
  rw [this,Bool.and_false]
  rfl
 | d::ds,num,s,hsp,hd,hf,j=>by
  have hs0:=hd d (by simp)
  have hb:=meet_bd hs0 hp
  have hme:(meetS d p).1=maxI d.1 p.1∧(meetS d p).2=minI d.2 p.2:=⟨rfl,rfl⟩
  have hin:∀ i:Nat,inSp i (meetS d p)=(inSp i d&&inSp i p):=fun i=>by
   rw [Bool.eq_iff_iff,Bool.and_eq_true,inSp_iff,inSp_iff,inSp_iff,hme.1,hme.2]
   simp only [maxI,minI,ltI,decide_eq_true_eq]
   constructor
   ·intro ⟨h1,h2⟩;split at h1<;>split at h2<;>omega
   ·intro h;constructor<;>split<;>omega
  have e4:inF (d::ds) j=(inSp j d || inF ds j):=rfl
  rw [patF] at hf ⊢
  cases e:ltI (meetS d p).1 (meetS d p).2
  ·rw [e] at hf
   simp only [Bool.false_eq_true,if_false] at hf ⊢
   have ih:=reqsAll_file hs hm hm3 (who:=who) (epoch:=epoch) t p ht hp ds num s hsp (fun q hq=>hd q (by simp [hq])) hf j
   have:inSp j (meetS d p)=false:=by
    rw [← Bool.not_eq_true,inSp_iff]
    rw [ltI_not] at e
    omega
   rw [hin j] at this
   have e5:(inSp j p&&inF (d::ds) j)=(inSp j p&&inF ds j):=bool_pass _ this
   rw [ih]
   simp only [e5]
  ·rw [e] at hf
   simp only [if_true] at hf ⊢
   rw [ltI_iff] at e
   obtain ⟨a,ha⟩:∃ a:Nat,(meetS d p).1=a:=⟨(meetS d p).1.toNat,by omega⟩
   obtain ⟨b,hbb⟩:∃ b:Nat,(meetS d p).2=b:=⟨(meetS d p).2.toNat,by omega⟩
   have hms:meetS d p=((a:Int),(b:Int)):=Prod.ext ha hbb
   rw [hms] at hin e hb hf ⊢
   dsimp only at e hb hf ⊢
   have hl:(subS t ((a:Int),(b:Int))).length=b - a:=by simp [subS];omega
   rw [reqsAll,storeAll_app] at hf ⊢
   dsimp only at hf ⊢
   rw [fineAll_app] at hf
   simp only [Int.toNat_natCast,hl] at hf ⊢
   rw [show a+(b - a)=b by omega] at hf ⊢
   have h1:=reqsF_file hs hm hm3 (who:=who) (epoch:=epoch) (lo:=a) (hi:=b) (x:=subS t ((a:Int),(b:Int))) (by omega) 48 a num s hsp (by omega) (by omega) hf.1 j
   have ih:=reqsAll_file hs hm hm3 (who:=who) (epoch:=epoch) t p ht hp ds _ _ (storeAll_ok (s:=s) _ hsp) (fun q hq=>hd q (by simp [hq])) hf.2 j
   rw [ih,h1]
   have hini:=hin j
   have hab:inSp j ((a:Int),(b:Int))=true↔a≤j∧j<b:=by rw [inSp_iff];dsimp only;omega
   by_cases hc:a≤j∧j<b
   ·have hini:=hini.symm.trans (hab.2 hc)
    rw [Bool.and_eq_true] at hini
    have e6:(inSp j p&&inF (d::ds) j)=true:=by rw [e4,hini.1,hini.2];rfl
    rw [if_pos hc,if_pos e6]
    have:(subS t ((a:Int),(b:Int))).getD (j - a) 0=t.getD j 0:=by
     rw [List.getD_eq_getElem?_getD,subS_get t a b _ (by omega),show a+(j - a)=j by omega,List.getD_eq_getElem?_getD]
    rw [this]
    split<;>rfl
   ·have hf2:inSp j ((a:Int),(b:Int))=false:=by rw [← Bool.not_eq_true,hab];exact hc
    have e5:(inSp j p&&inF (d::ds) j)=(inSp j p&&inF ds j):=bool_pass _ (hini.symm.trans hf2)
    rw [if_neg hc]
    simp only [e5]
theorem reqsF_who (size many:Nat) (who epoch:Int) (lo:Nat) (x:Bs) (hi:Nat):∀ (n a:Nat) (num:Int),∀ q∈reqsF size many who epoch lo x hi n a num,q.who=who∧q.epoch=epoch
 | 0,a,num=>by simp [reqsF]
 | n+1,a,num=>by
  intro q hq
  rw [reqsF] at hq
  split at hq
  ·rcases List.mem_cons.1 hq with rfl | hq
   ·exact ⟨rfl,rfl⟩
   ·exact reqsF_who size many who epoch lo x hi n _ _ q hq
  ·simp at hq
theorem reqsAll_who (size many:Nat) (who epoch:Int):∀ (ps:List Pt) (num:Int),∀ q∈reqsAll size many who epoch ps num,q.who=who∧q.epoch=epoch
 | [],num=>by simp [reqsAll]
 | p::ps,num=>by
  intro q hq
  rw [reqsAll,List.mem_append] at hq
  exact hq.elim (reqsF_who _ _ _ _ _ _ _ _ _ _ q) (reqsAll_who size many who epoch ps _ q)
structure HoldT where
 r:List Sp
 w:List Sp
def noH:HoldT:=⟨[],[]⟩
def clearS (a b:List Sp):Bool:=a.all fun x=>b.all fun y=>!ltI (meetS x y).1 (meetS x y).2
def lockAt (t:List HoldT) (i:Nat):Bool:=spsOk (t.getD i noH).r&&spsOk (t.getD i noH).w&&clearS (t.getD i noH).r (t.getD i noH).w&&allTo (fun k=>(k==i) || (clearS (t.getD i noH).w (t.getD k noH).w&&clearS (t.getD i noH).w (t.getD k noH).r)) 3 0
def lockOk (t:List HoldT):Bool:=eqI t.length 3&&allTo (lockAt t) 3 0
def apartS (a b:List Sp):Prop:=∀ j:Nat,¬ (inF a j=true∧inF b j=true)
structure LockP (t:List HoldT):Prop where
 len:t.length=3
 r:∀ i,i<3→spsOk (t.getD i noH).r=true
 w:∀ i,i<3→spsOk (t.getD i noH).w=true
 rw:∀ i,i<3→apartS (t.getD i noH).r (t.getD i noH).w
 ww:∀ i k,i<3→k<3→k≠i→apartS (t.getD i noH).w (t.getD k noH).w
 wr:∀ i k,i<3→k<3→k≠i→apartS (t.getD i noH).w (t.getD k noH).r
theorem clearS_iff {a b:List Sp} (ha:∀ s∈a,0≤s.1∧s.1<s.2∧s.2≤48) (hb:∀ s∈b,0≤s.1∧s.1<s.2∧s.2≤48):clearS a b=true↔apartS a b:=by
 simp only [clearS,List.all_eq_true,Bool.not_eq_true',ltI_not]
 constructor
 ·intro h j ⟨h1,h2⟩
  obtain ⟨x,hx,x1,x2⟩:=inF_iff.1 h1
  obtain ⟨y,hy,y1,y2⟩:=inF_iff.1 h2
  have:=h x hx y hy
  simp only [meetS,maxI,minI,ltI,decide_eq_true_eq] at this
  split at this<;>split at this<;>omega
 ·intro h x hx y hy
  have hx0:=ha x hx
  have hy0:=hb y hy
  apply Classical.byContradiction
  intro hn
  have hlt:(meetS x y).1<(meetS x y).2:=by omega
  refine h (meetS x y).1.toNat ⟨inF_iff.2 ⟨x,hx,?_⟩,inF_iff.2 ⟨y,hy,?_⟩⟩ <;>
   ·simp only [meetS,maxI,minI,ltI,decide_eq_true_eq] at hlt ⊢
    split at hlt<;>split at hlt<;>(constructor<;>simp only [*,if_true,if_false]<;>omega)
theorem lockOk_iff {t:List HoldT}:lockOk t=true↔LockP t:=by
 simp only [lockOk,Bool.and_eq_true,eqI3,allTo_iff]
 constructor
 ·rintro ⟨h0,h⟩
  have g:∀ i,i<3→spsOk (t.getD i noH).r=true∧spsOk (t.getD i noH).w=true:=fun i hi=>by
   have:=h i (Nat.zero_le i) (by omega)
   simp only [lockAt,Bool.and_eq_true] at this
   exact ⟨this.1.1.1,this.1.1.2⟩
  refine ⟨h0,fun i hi=>(g i hi).1,fun i hi=>(g i hi).2,fun i hi=>?_,fun i k hi hk hne=>?_,fun i k hi hk hne=>?_⟩
  ·have:=h i (Nat.zero_le i) (by omega)
   simp only [lockAt,Bool.and_eq_true] at this
   exact (clearS_iff (spsOk_sp (g i hi).1) (spsOk_sp (g i hi).2)).1 this.1.2
  all_goals
   have:=h i (Nat.zero_le i) (by omega)
   simp only [lockAt,Bool.and_eq_true,allTo_iff] at this
   have:=this.2 k (Nat.zero_le k) (by omega)
   simp only [Bool.or_eq_true,beq_iff_eq,Bool.and_eq_true,hne,false_or] at this
  ·exact (clearS_iff (spsOk_sp (g i hi).2) (spsOk_sp (g k hk).2)).1 this.1
  ·exact (clearS_iff (spsOk_sp (g i hi).2) (spsOk_sp (g k hk).1)).1 this.2
 ·intro h
  refine ⟨h.len,fun i _ hi=>?_⟩
  have hi:i<3:=by omega
  simp only [lockAt,Bool.and_eq_true,allTo_iff]
  refine ⟨⟨⟨h.r i hi,h.w i hi⟩,(clearS_iff (spsOk_sp (h.r i hi)) (spsOk_sp (h.w i hi))).2 (h.rw i hi)⟩,fun k _ hk=>?_⟩
  have hk:k<3:=by omega
  by_cases hne:k=i
  ·simp [hne]
  ·simp only [Bool.or_eq_true,beq_iff_eq,Bool.and_eq_true,hne,false_or]
   exact ⟨(clearS_iff (spsOk_sp (h.w i hi)) (spsOk_sp (h.w k hk))).2 (h.ww i k hi hk hne),(clearS_iff (spsOk_sp (h.w i hi)) (spsOk_sp (h.r k hk))).2 (h.wr i k hi hk hne)⟩
end Go.Ev

