/- My texts joined: EvW11, EvT68, EvT70, EvT71, EvT37, EvM3, EvT73. No condition. -/
import Derived.Test.YtngbcdcghbapnaaGreatDoorEx1
import Derived.Test.YtngbcdcghbapnaaGreatDoorEx2
import Derived.Test.YtngbcdcghbapnaaGreatDoorEx5
import Derived.Test.YtngbcdcghbapnaaGreatDoorEx6
import Derived.Test.YtngbcdcghbapnaaGreatDoorEx7
import Derived.Test.YtngbcdcghbapnaaGreatDoorEx8
import Derived.Test.YtngbcdcghbapnaaGreatDoorEx9
import Derived.Test.YtngbcdcghbapnaaGreatDoorEx10
import Derived.Test.YtngbcdcghbapnaaGreatDoorEx11
import Derived.Test.YtngbcdcghbapnaaGreatDoorEx15
import Derived.Test.YtngbcdcghbapnaaGreatDoorEx16
set_option linter.unusedVariables false
set_option linter.unusedSimpArgs false

namespace Go.Ev
def ownAt (w:WorldT) (i:Nat):Bool:=(w.own i).ok&&(!ltI (w.ep i) (w.st.floors.getD i 0)&&(!ltI 100 (w.ep i)&&(w.live i || sameOwn (w.own i) noO)))
def keptF (w:WorldT):List ReqT→List Int→Bool
 | q::qs,c::cs=>(eqI c 0&&eqI q.epoch (w.ep q.who.toNat))&&keptF w qs cs
 | _,_=>true
def lateAt (w:WorldT) (q:ReqT):Bool:=reqOk q&&ltI q.epoch (w.st.floors.getD q.who.toNat 0)
def heldAt (w:WorldT) (i j:Nat):Bool:=!inF (w.own i).h j || ((inF (w.lock i).w j || (!inF (w.own i).d j&&inF (w.lock i).r j))&&(inF (w.own i).d j || eqI ((w.own i).t.getD j 0).toNat (w.file.getD j 0).toNat))
def countsOk (w:WorldT):Bool:=layOk w.size w.many&&(storeOk w.st&&(lockOk w.locks&&(eqI w.owns.length 3&&(eqI w.epochs.length 3&&(eqI w.alive.length 3&&!ltI 8 w.late.length)))))
def worldOk (w:WorldT):Bool:=countsOk w&&(allTo (ownAt w) 3 0&&(keptF w w.kept (storeAll (storeFall w.st) w.kept).2&&(sameStore (storeAll (storeFall w.st) w.kept).1 w.st&&(w.late.all (lateAt w)&&allTo (fun i=>allTo (heldAt w i) 48 0) 3 0))))
theorem sameOwn_iff {a b:OwnT}:sameOwn a b=true↔a=b:=by
 cases a;cases b
 simp only [sameOwn,Bool.and_eq_true,eqS_iff,decide_eq_true_eq,OwnT.mk.injEq,and_assoc]
theorem eqLI_iff {xs ys:List Int}:eqL eqI xs ys=true↔xs=ys:=by
 rw [eqL_dec (fun x y=>eqI_iff)];simp
theorem eqLS_iff {xs ys:List Bs}:eqL eqS xs ys=true↔xs=ys:=by
 rw [eqL_dec (fun x y=>eqS_iff)];simp
theorem sameStore_iff {a b:StoreT}:sameStore a b=true↔a=b:=by
 cases a;cases b
 simp only [sameStore,Bool.and_eq_true,eqLI_iff,eqLS_iff,StoreT.mk.injEq]
theorem keptF_iff (w:WorldT):∀ (qs:List ReqT) (cs:List Int),cs.length=qs.length→(keptF w qs cs=true↔cs=zeros qs∧∀ q∈qs,q.epoch=w.ep q.who.toNat)
 | [],[],_=>by simp [keptF,zeros]
 | [],c::cs,h=>by simp at h
 | q::qs,[],h=>by simp at h
 | q::qs,c::cs,h=>by
  rw [keptF,Bool.and_eq_true,keptF_iff w qs cs (by simpa using h),Bool.and_eq_true,eqI_iff,eqI_iff]
  simp only [zeros,List.map_cons,List.cons.injEq,List.mem_cons,forall_eq_or_imp]
  exact ⟨fun ⟨⟨a,b⟩,c,d⟩=>⟨⟨a,c⟩,b,d⟩,fun ⟨⟨a,c⟩,b,d⟩=>⟨⟨a,b⟩,c,d⟩⟩
theorem u8_nat {a b:UInt8}:eqI a.toNat b.toNat=true↔a=b:=by
 rw [eqI_iff]
 constructor
 ·intro h;exact UInt8.toNat_inj.1 (by omega)
 ·intro h;rw [h]
theorem worldOk_iff {w:WorldT}:worldOk w=true↔WorldP w:=by
 simp only [worldOk,countsOk,Bool.and_eq_true,layOk_iff,storeOk_iff,lockOk_iff,eqI3,allTo_iff,keptF_iff w _ _ (storeAll_len _ _),sameStore_iff,List.all_eq_true,Bool.not_eq_true',ltI_not]
 constructor
 ·rintro ⟨⟨h1,h2,h3,h4,h5,h6,h7⟩,h8,⟨h9,h10⟩,h11,h12,h13⟩
  refine ⟨h1,h2,h3,h4,h5,h6,by omega,fun i hi=>?_,fun i hi=>?_,fun i hi hd=>?_,Prod.ext h11 h9,h10,fun q hq=>?_,fun i hi j hj hh=>?_⟩
  ·have:=h8 i (by omega) (by omega)
   simp only [ownAt,Bool.and_eq_true] at this
   exact this.1
  ·have:=h8 i (by omega) (by omega)
   simp only [ownAt,Bool.and_eq_true,Bool.not_eq_true',ltI_not] at this
   exact ⟨this.2.1,this.2.2.1⟩
  ·have:=h8 i (by omega) (by omega)
   simp only [ownAt,Bool.and_eq_true,Bool.or_eq_true,hd,Bool.false_eq_true,false_or,sameOwn_iff] at this
   exact this.2.2.2
  ·have:=h12 q hq
   simp only [lateAt,Bool.and_eq_true,reqOk_iff,ltI_iff] at this
   exact this
  ·have:=h13 i (by omega) (by omega) j (by omega) (by omega)
   simp only [heldAt,hh,Bool.not_true,Bool.false_or,Bool.and_eq_true,Bool.or_eq_true,Bool.not_eq_true',u8_nat,file_getD w hj] at this
   exact this
 ·intro h
  refine ⟨⟨h.lay,h.st,h.lk,h.owns,h.epochs,h.alive,by have:=h.lateN;omega⟩,fun i _ hi=>?_,⟨congrArg Prod.snd h.kept,h.keptE⟩,congrArg Prod.fst h.kept,fun q hq=>?_,fun i _ hi j _ hj=>?_⟩
  ·have hi:i<3:=by omega
   have he:=h.ep i hi
   simp only [ownAt,Bool.and_eq_true,Bool.not_eq_true',ltI_not,Bool.or_eq_true,sameOwn_iff]
   refine ⟨h.own i hi,he.1,he.2,?_⟩
   cases e:w.live i
   ·exact .inr (h.dead i hi e)
   ·exact .inl rfl
  ·have:=h.late q hq
   simp only [lateAt,Bool.and_eq_true,reqOk_iff,ltI_iff]
   exact this
  ·have hj:j<48:=by omega
   simp only [heldAt,Bool.and_eq_true,Bool.or_eq_true,Bool.not_eq_true',u8_nat,file_getD w hj]
   cases e:inF (w.own i).h j
   ·exact .inl rfl
   ·exact .inr (h.held i (by omega) j hj e)
end Go.Ev


set_option maxRecDepth 100000
set_option maxHeartbeats 4000000
namespace Go.Ev
open Go.Proofs
abbrev layL (size many:Int):List L:=[.int .i64 size,.int .i64 many]
theorem ev_impl_LayOk (m:M) (size many:Int):ev E 82 [.v m true (layL size many)]=some (rB (layOk size many)):=by
 rw [layOk]
 rw [ev_fn Tryz.f82 rfl Tryz.func82 rfl rfl rfl (Nat.le_of_ble_eq_true rfl)]
 cases e1:ltI size 1
 ·cases e2:ltI 8 size
  ·cases e3:ltI many 1
   ·cases e4:ltI 3 many<;>simp [e1,e2,e3,e4]
   ·simp [e1,e2,e3]
  ·simp [e1,e2]
 ·simp [e1]
theorem ev_spec_LayOk (m:M) (size many:Int):ev E 39 [.v m true (layL size many)]=some (rB (layOk size many)):=by
 rw [layOk]
 rw [ev_fn Tryz.f39 rfl Tryz.func39 rfl rfl rfl (Nat.le_of_ble_eq_true rfl)]
 cases e1:ltI size 1
 ·cases e2:ltI 8 size
  ·cases e3:ltI many 1
   ·cases e4:ltI 3 many<;>simp [e1,e2,e3,e4]
   ·simp [e1,e2,e3]
  ·simp [e1,e2]
 ·simp [e1]
structure LayP (sz mn:Nat):Prop where
 s1:1≤sz
 s8:sz≤8
 m1:1≤mn
 m3:mn≤3
theorem LayP.ok {sz mn:Nat} (h:LayP sz mn):layOk sz mn=true:=layOk_iff.2 (by have:=h.s1;have:=h.s8;have:=h.m1;have:=h.m3;omega)
theorem lay_nat {size many:Int} (h:layOk size many=true):∃ sz mn:Nat,size=sz∧many=mn∧LayP sz mn:=by
 have:=layOk_iff.1 h
 exact ⟨size.toNat,many.toNat,by omega,by omega,⟨by omega,by omega,by omega,by omega⟩⟩
theorem obj_lt {sz mn:Nat} (h:LayP sz mn) (j:Nat):objOf sz mn j<mn:=Nat.mod_lt _ h.m1
theorem pos_lt {sz mn:Nat} (h:LayP sz mn) {j:Nat} (hj:j<48):posOf sz mn j<48:=by
 have:=pos_le (j:=j) h.s1 h.m1
 omega
theorem ww {n:Nat} (hn:n≤100000):IntKind.i64.wrap (n:Int)=n:=wrap64 (by omega)
theorem lay_facts {sz mn:Nat} (h:LayP sz mn) (j:Nat) (hj:j≤4000) :
  IntKind.i64.wrap ((j:Int) / (sz:Int))=((j / sz:Nat):Int)∧((j / sz:Nat):Int).tmod (mn:Int)=((j / sz % mn:Nat):Int)∧IntKind.i64.wrap (((j / sz:Nat):Int) / (mn:Int))=((j / sz / mn:Nat):Int) ∧
  IntKind.i64.wrap (((j / sz / mn:Nat):Int)*sz)=((j / sz / mn*sz:Nat):Int)∧(j:Int).tmod (sz:Int)=((j % sz:Nat):Int)∧IntKind.i64.wrap (((j / sz / mn*sz:Nat):Int)+((j % sz:Nat):Int))=((j / sz / mn*sz+j % sz:Nat):Int):=by
 have h8:=h.s8
 have h1:=h.s1
 have q1:j / sz≤j:=Nat.div_le_self _ _
 have q2:j / sz / mn≤j / sz:=Nat.div_le_self _ _
 have q3:j / sz / mn*sz≤j*8:=Nat.mul_le_mul (by omega) h8
 have q4:j % sz<sz:=Nat.mod_lt _ h1
 refine ⟨?_,?_,?_,?_,?_,?_⟩
 ·rw [← Int.natCast_ediv];exact ww (by omega)
 ·rw [← Int.ofNat_tmod]
 ·rw [← Int.natCast_ediv];exact ww (by omega)
 ·rw [show ((j / sz / mn:Nat):Int)*(sz:Int)=((j / sz / mn*sz:Nat):Int) from (Int.natCast_mul _ _).symm];exact ww (by omega)
 ·rw [← Int.ofNat_tmod]
 ·rw [← Int.natCast_add];exact ww (by omega)
theorem ev_LayAt (m m':M) (sz mn j:Nat) (h:LayP sz mn) (hj:j<48):ev E 169 [.v m true (layL sz mn),.v m' false [.int .i64 j]]=some { rs:=[.v .own false [.int .i64 (objOf sz mn j:Nat)],.v .own false [.int .i64 (posOf sz mn j:Nat)]],outs:=[] }:=by
 have c1:=fun m=>ev_impl_LayOk m sz mn
 rw [h.ok] at c1
 obtain ⟨f1,f2,f3,f4,f5,f6⟩:=lay_facts h j (by omega)
 have n1:eqI (sz:Int) 0=false:=eqI_not.2 (by have:=h.s1;omega)
 have n2:eqI (mn:Int) 0=false:=eqI_not.2 (by have:=h.m1;omega)
 have n3:sz≠0:=by have:=h.s1;omega
 have n4:mn≠0:=by have:=h.m1;omega
 have g1:ltI (j:Int) 0=false:=ltI_not.2 (by omega)
 have g2:ltI (j:Int) 48=true:=ltI_iff.2 (by omega)
 have g3:(j:Int)<48:=by omega
 unfold objOf posOf
 generalize hq:j / sz=q at *
 generalize hr:j % sz=r at *
 generalize hq2:q / mn=q2 at *
 generalize hr2:q % mn=r2 at *
 generalize hp:q2*sz=p at *
 rw [ev_fn Tryz.f169 rfl Tryz.func169 rfl rfl rfl (Nat.le_of_ble_eq_true rfl)]
 simp [c1,f1,f2,f3,f4,f5,f6,n1,n2,n3,n4,g1,g2,g3]
theorem ev_l3At (m m':M) (sz mn j:Nat) (h:LayP sz mn) (hj:j<48):ev E 224 [.v m true (layL sz mn),.v m' false [.int .i64 j]]=some { rs:=[.v .own false [.int .i64 (objOf sz mn j:Nat)],.v .own false [.int .i64 (posOf sz mn j:Nat)]],outs:=[] }:=by
 obtain ⟨f1,f2,f3,f4,f5,f6⟩:=lay_facts h j (by omega)
 have n1:eqI (sz:Int) 0=false:=eqI_not.2 (by have:=h.s1;omega)
 have n2:eqI (mn:Int) 0=false:=eqI_not.2 (by have:=h.m1;omega)
 have n3:sz≠0:=by have:=h.s1;omega
 have n4:mn≠0:=by have:=h.m1;omega
 unfold objOf posOf
 generalize hq:j / sz=q at *
 generalize hr:j % sz=r at *
 generalize hq2:q / mn=q2 at *
 generalize hr2:q % mn=r2 at *
 generalize hp:q2*sz=p at *
 rw [ev_fn Tryz.f224 rfl Tryz.func224 rfl rfl rfl (Nat.le_of_ble_eq_true rfl)]
 simp [f1,f2,f3,f4,f5,f6,n1,n2,n3,n4]
theorem byte_eq (w:WorldT) {sz mn:Nat} (h1:w.size=sz) (h2:w.many=mn) {j:Nat} (ho:objOf sz mn j<w.st.now.length):w.byte j=(w.st.now[objOf sz mn j]).getD (posOf sz mn j) 46:=by
 unfold WorldT.byte fileAt
 rw [h1,h2,Int.toNat_natCast,Int.toNat_natCast,getD_lt _ ho]
theorem lp_stored (m:M) (hm:m.isOwn=false) (w:WorldT) (sz mn:Nat) (h1:w.size=sz) (h2:w.many=mn) (P:LayP sz mn) (hn:w.st.now.length=3) (a:Code) (ha:a=lp Tryz.f71 0):∀ (n i:Nat) (out:Bs),i+n=48→out.length=i →
  loopC E (ev E) 71 a { V:=[(1,adc 1),(3,at1 3),(9,vi i)],H:=[bxm (.c 1) m (worldL w),ow (.c 3) [.sl (rowsOfBytes out)]],ps:=[] } =
   some (.exit 0,{ V:=[(1,adc 1),(3,at1 3),(9,vi 48),(10,vb false)],H:=[bxm (.c 1) m (worldL w),ow (.c 3) [.sl (rowsOfBytes (out++(List.range' i n).map w.byte))]],ps:=[] })
 | 0,i,out,h,ho=>by
  rw [loopC_of _ _ _ _ ha]
  obtain rfl:i=48:=by omega
  simp [lp,loopsOf,Tryz.f71]
 | n+1,i,out,h,ho=>by
  have hI:(i:Int)<48:=by omega
  have hw:=wrapN i (by omega)
  have c1:=fun m m'=>ev_LayAt m m' sz mn i P (by omega)
  have o1:=obj_lt P i
  have o2:objOf sz mn i<w.st.now.length:=by have:=P.m3;omega
  have hb:=byte_eq w h1 h2 o2
  have ih:=lp_stored m hm w sz mn h1 h2 P hn a ha n (i+1) (out++[w.byte i]) (by omega) (by simp;omega)
  push_cast at ih
  have z1:out.length+1≤17592186044416:=by omega
  have z2:(rowsOfBytes out).length=out.length:=by simp [rowsOfBytes]
  rw [loopC_of _ _ _ _ ha,List.range'_succ,List.map_cons]
  clear ha
  generalize objOf sz mn i=ob at *
  generalize posOf sz mn i=ps at *
  by_cases e:ps<w.st.now[ob].length
  ·have e1:ltI (ps:Int) w.st.now[ob].length=true:=ltI_iff.2 (by omega)
   have hg:w.byte i=w.st.now[ob][ps]:=by rw [hb,getD_lt _ e]
   rw [hg] at ih ⊢
   simp [lp,loopsOf,Tryz.f71,hI,hw,hm,h1,h2,c1,o2,e1,e,z1,z2]
   simpa [rowsOfBytes,hw] using ih
  ·have e1:ltI (ps:Int) w.st.now[ob].length=false:=ltI_not.2 (by omega)
   have hg:w.byte i=46:=by rw [hb,List.getD_eq_getElem?_getD,List.getElem?_eq_none (by omega)];rfl
   rw [hg] at ih ⊢
   simp [lp,loopsOf,Tryz.f71,hI,hw,hm,h1,h2,c1,o2,e1,e,z1,z2]
   simpa [rowsOfBytes,hw] using ih
theorem ev_stored (m:M) (hm:m.isOwn=false) (w:WorldT) (hl:layOk w.size w.many=true) (hn:w.st.now.length=3):ev E 71 [.v m true (worldL w)]=some { rs:=[.v .own false [.str w.file]],outs:=[] }:=by
 obtain ⟨sz,mn,h1,h2,P⟩:=lay_nat hl
 have l0:=lp_stored m hm w sz mn h1 h2 P hn _ rfl 48 0 [] (by omega) rfl
 push_cast at l0
 have hf:(List.range' 0 48).map w.byte=w.file:=by rw [← List.range_eq_range'];rfl
 rw [hf,List.nil_append] at l0
 have hbr:=bytes_rows w.file
 have hlen:(rowsOfBytes w.file).length=48:=by simp [rowsOfBytes,file_len]
 have hr0:rowsOfBytes []=[]:=rfl
 rw [hr0] at l0
 rw [ev_fn Tryz.f71 rfl Tryz.func71 rfl rfl rfl (Nat.le_of_ble_eq_true rfl)]
 simp [hm]
 rw [loopC_at ?_ l0]
 ·generalize hro:rowsOfBytes w.file=ro at *
  simp [hbr,hlen]
 ·rfl
theorem ev_l7Byte (m m':M) (hm:m.isOwn=false) (w:WorldT) (hl:layOk w.size w.many=true) (hn:w.st.now.length=3) (j:Nat) (hj:j<48):ev E 166 [.v m true (worldL w),.v m' false [.int .i64 j]]=some { rs:=[.v .own false [.str [w.byte j]]],outs:=[] }:=by
 obtain ⟨sz,mn,h1,h2,P⟩:=lay_nat hl
 have c1:=fun m m'=>ev_l3At m m' sz mn j P (by omega)
 have o1:=obj_lt P j
 have o2:objOf sz mn j<w.st.now.length:=by have:=P.m3;omega
 have hb:=byte_eq w h1 h2 o2
 have hp:=pos_lt P hj
 generalize objOf sz mn j=ob at *
 generalize posOf sz mn j=ps at *
 have hw:=wrapN ps (by omega)
 by_cases e:ps<w.st.now[ob].length
 ·have e1:ltI (ps:Int) w.st.now[ob].length=true:=ltI_iff.2 (by omega)
  have hg:w.byte j=w.st.now[ob][ps]:=by rw [hb,getD_lt _ e]
  have ht:((w.st.now[ob]).take (ps+1)).drop ps=[w.st.now[ob][ps]]:=by
   apply List.ext_getElem?
   intro k
   simp only [List.getElem?_drop,List.getElem?_take]
   cases k with
   | zero=>simp [e]
   | succ k=>simp
  have e2:ps+1≤w.st.now[ob].length:=by omega
  have e3:(0:Int)≤(ps:Int)+1∧(ps:Int)+1≤w.st.now[ob].length:=by omega
  have e4:(ps:Int)≤(ps:Int)+1:=by omega
  rw [hg]
  rw [ev_fn Tryz.f166 rfl Tryz.func166 rfl rfl rfl (Nat.le_of_ble_eq_true rfl)]
  simp [hm,h1,h2,c1,o2,e1,e,e2,e3,e4,hw,ht]
 ·have e1:ltI (ps:Int) w.st.now[ob].length=false:=ltI_not.2 (by omega)
  have hg:w.byte j=46:=by rw [hb,List.getD_eq_getElem?_getD,List.getElem?_eq_none (by omega)];rfl
  rw [hg]
  rw [ev_fn Tryz.f166 rfl Tryz.func166 rfl rfl rfl (Nat.le_of_ble_eq_true rfl)]
  simp [hm,h1,h2,c1,o2,e1,e,hw]
theorem lp_l7File (m:M) (hm:m.isOwn=false) (w:WorldT) (hl:layOk w.size w.many=true) (hn:w.st.now.length=3) (a:Code) (ha:a=lp Tryz.f69 0):∀ (n i:Nat) (out:Bs),i+n=48→out.length=i →
  loopC E (ev E) 69 a { V:=[(1,adc 1),(3,.v .ro false [.str out]),(4,vi i)],H:=[bxm (.c 1) m (worldL w)],ps:=[] } =
   some (.exit 0,{ V:=[(1,adc 1),(3,.v .ro false [.str (out++(List.range' i n).map w.byte)]),(4,vi 48),(6,vb false)],H:=[bxm (.c 1) m (worldL w)],ps:=[] })
 | 0,i,out,h,ho=>by
  rw [loopC_of _ _ _ _ ha]
  obtain rfl:i=48:=by omega
  simp [lp,loopsOf,Tryz.f69]
 | n+1,i,out,h,ho=>by
  have hI:(i:Int)<48:=by omega
  have hw:=wrapN i (by omega)
  have c1:=fun m m' hm=>ev_l7Byte m m' hm w hl hn i (by omega)
  have ih:=lp_l7File m hm w hl hn a ha n (i+1) (out++[w.byte i]) (by omega) (by simp;omega)
  push_cast at ih
  have z1:out.length+1≤4611686018427387904:=by omega
  rw [loopC_of _ _ _ _ ha,List.range'_succ,List.map_cons]
  clear ha
  simp [lp,loopsOf,Tryz.f69,hI,hw,hm,c1,z1]
  simpa using ih
theorem ev_l7File (m:M) (hm:m.isOwn=false) (w:WorldT) (hl:layOk w.size w.many=true) (hn:w.st.now.length=3):ev E 69 [.v m true (worldL w)]=some { rs:=[.v .own false [.str w.file]],outs:=[] }:=by
 have l0:=lp_l7File m hm w hl hn _ rfl 48 0 [] (by omega) rfl
 push_cast at l0
 have hf:(List.range' 0 48).map w.byte=w.file:=by rw [← List.range_eq_range'];rfl
 rw [hf,List.nil_append] at l0
 rw [ev_fn Tryz.f69 rfl Tryz.func69 rfl rfl rfl (Nat.le_of_ble_eq_true rfl)]
 simp [hm]
 rw [loopC_at ?_ l0]
 ·simp
 ·rfl
end Go.Ev


set_option maxRecDepth 100000
set_option maxHeartbeats 4000000
namespace Go.Ev
open Go.Proofs
theorem WorldP.owB {w:WorldT} (h:WorldP w) {i:Nat} (hi:i<3):OwB (w.own i).t (w.own i).h (w.own i).d:=by
 have hb:=ownOk_bd (h.own i hi)
 have h1:=spsOk_len hb.2.1
 have h2:=spsOk_len hb.2.2.1
 exact ⟨by omega,by omega,by omega⟩
end Go.Ev


set_option maxRecDepth 100000
set_option maxHeartbeats 4000000
namespace Go.Ev
open Go.Proofs
def lastSum (s:StoreT):Int:=s.last.getD 0 0+s.last.getD 1 0+s.last.getD 2 0
theorem lastSum_do {s:StoreT} {q:ReqT} (P:StoreP s) (h:(storeDo s q).2=0):lastSum (storeDo s q).1=lastSum s+1:=by
 obtain ⟨h1,h2,h3,h4⟩:=storeDo_fine h
 obtain ⟨w1,w2⟩:=h1.who
 have hl:=P.last
 rw [h4]
 simp only [lastSum,getD_set]
 rcases (by omega:q.who.toNat=0∨q.who.toNat=1∨q.who.toNat=2) with e | e | e<;>rw [e] at h3 ⊢
 ·rw [if_pos ⟨rfl,by omega⟩,if_neg (by omega),if_neg (by omega)];omega
 ·rw [if_neg (by omega),if_pos ⟨rfl,by omega⟩,if_neg (by omega)];omega
 ·rw [if_neg (by omega),if_neg (by omega),if_pos ⟨rfl,by omega⟩];omega
theorem lastSum_all:∀ (qs:List ReqT) {s:StoreT},StoreP s→(storeAll s qs).2=zeros qs→lastSum (storeAll s qs).1=lastSum s+qs.length
 | [],s,P,h=>by simp [storeAll]
 | q::qs,s,P,h=>by
  simp only [storeAll,zeros,List.map_cons,List.cons.injEq] at h ⊢
  rw [lastSum_all qs (storeDo_ok q P) h.2,lastSum_do P h.1]
  simp;omega
theorem fall_ok {s:StoreT} (h:StoreP s):StoreP (storeFall s) :=
 ⟨h.sure,h.sureT,h.sure,h.sureT,h.slast,h.slast,h.floors,fun i hi=>by have:=h.nums i hi;simp only [storeFall];omega⟩
theorem WorldP.keptN {w:WorldT} (h:WorldP w):w.kept.length≤3000:=by
 have h1:=lastSum_all w.kept (fall_ok h.st) (congrArg Prod.snd h.kept)
 rw [h.kept] at h1
 have n0:=h.st.nums 0 (by omega)
 have n1:=h.st.nums 1 (by omega)
 have n2:=h.st.nums 2 (by omega)
 simp only [lastSum,storeFall] at h1
 omega
end Go.Ev


set_option maxRecDepth 100000
set_option maxHeartbeats 4000000
namespace Go.Ev
open Go.Proofs
theorem rows_over (s x:List UInt8) (k:Nat):(rowsOfBytes s).take k++(rowsOfBytes x++(rowsOfBytes s).drop (k+x.length))=rowsOfBytes (overS s ((k:Int),(k:Int)+x.length) x):=by
 have h2:((k:Int)+x.length).toNat=k+x.length:=by omega
 simp [overS,rowsOfBytes,h2]
theorem rows_one (s:List UInt8):∀ x∈rowsOfBytes s,x.length=1:=by
 intro x hx
 simp only [rowsOfBytes,List.mem_map] at hx
 obtain ⟨c,_,rfl⟩:=hx
 rfl
end Go.Ev


namespace Go.Ev
open Go.Proofs
theorem patF_self (t:List UInt8):∀ (d:List Sp),(∀ s∈d,0≤s.1∧s.1<s.2∧s.2≤48)→patF t (0,48) d=d.map fun s=>(s.1,subS t s)
 | [],_=>rfl
 | s::d,h=>by
  have hs:=h s (by simp)
  have hm:meetS s (0,48)=s:=by
   have:maxI s.1 0=s.1:=by simp only [maxI,ltI,decide_eq_true_eq];split<;>omega
   have:minI s.2 48=s.2:=by simp only [minI,ltI,decide_eq_true_eq];split<;>omega
   simp only [meetS, *]
  have hl:ltI s.1 s.2=true:=ltI_iff.2 (by omega)
  simp only [patF,hm,hl,if_true,List.map_cons]
  rw [patF_self t d fun q hq=>h q (by simp [hq])]
end Go.Ev


set_option maxRecDepth 100000
set_option maxHeartbeats 4000000
namespace Go.Ev
open Go.Proofs
theorem OwnT.owB {o:OwnT} (h:o.ok=true):OwB o.t o.h o.d:=by
 have hb:=ownOk_bd h
 have h1:=spsOk_len hb.2.1
 have h2:=spsOk_len hb.2.2.1
 exact ⟨by omega,by omega,by omega⟩
end Go.Ev

