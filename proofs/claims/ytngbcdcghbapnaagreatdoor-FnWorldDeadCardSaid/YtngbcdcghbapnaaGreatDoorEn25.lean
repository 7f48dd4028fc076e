/- My texts joined: EvT68, EvT69. No condition. -/
import Derived.Test.YtngbcdcghbapnaaGreatDoorEn1
import Derived.Test.YtngbcdcghbapnaaGreatDoorEn2
import Derived.Test.YtngbcdcghbapnaaGreatDoorEn5
import Derived.Test.YtngbcdcghbapnaaGreatDoorEn6
import Derived.Test.YtngbcdcghbapnaaGreatDoorEn7
import Derived.Test.YtngbcdcghbapnaaGreatDoorEn8
import Derived.Test.YtngbcdcghbapnaaGreatDoorEn9
import Derived.Test.YtngbcdcghbapnaaGreatDoorEn10
import Derived.Test.YtngbcdcghbapnaaGreatDoorEn11
import Derived.Test.YtngbcdcghbapnaaGreatDoorEn12
import Derived.Test.YtngbcdcghbapnaaGreatDoorEn13
import Derived.Test.YtngbcdcghbapnaaGreatDoorEn14
import Derived.Test.YtngbcdcghbapnaaGreatDoorEn16
import Derived.Test.YtngbcdcghbapnaaGreatDoorEn17
import Derived.Test.YtngbcdcghbapnaaGreatDoorEn18
import Derived.Test.YtngbcdcghbapnaaGreatDoorEn19
import Derived.Test.YtngbcdcghbapnaaGreatDoorEn20
set_option linter.unusedVariables false
set_option linter.unusedSimpArgs false

set_option maxRecDepth 100000
set_option maxHeartbeats 4000000
namespace Go.Ev
open Go.Proofs
abbrev layL (size many:Int):List L:=[.int .i64 size,.int .i64 many]
theorem ev_impl_LayOk (m:M) (size many:Int):ev E 82 [.v m true (layL size many)]=some (rB (layOk size many)):=by
 rw [layOk]
 rw [ev_fn Tryz.f82 rfl Tryz.func82 rfl rfl rfl (Nat.le_of_ble_eq_true rfl)]
 cases e1:ltI size 1
 ·cases e2:ltI 8 size
  ·cases e3:ltI many 1
   ·cases e4:ltI 3 many<;>simp [e1,e2,e3,e4]
   ·simp [e1,e2,e3]
  ·simp [e1,e2]
 ·simp [e1]
theorem ev_spec_LayOk (m:M) (size many:Int):ev E 39 [.v m true (layL size many)]=some (rB (layOk size many)):=by
 rw [layOk]
 rw [ev_fn Tryz.f39 rfl Tryz.func39 rfl rfl rfl (Nat.le_of_ble_eq_true rfl)]
 cases e1:ltI size 1
 ·cases e2:ltI 8 size
  ·cases e3:ltI many 1
   ·cases e4:ltI 3 many<;>simp [e1,e2,e3,e4]
   ·simp [e1,e2,e3]
  ·simp [e1,e2]
 ·simp [e1]
structure LayP (sz mn:Nat):Prop where
 s1:1≤sz
 s8:sz≤8
 m1:1≤mn
 m3:mn≤3
theorem LayP.ok {sz mn:Nat} (h:LayP sz mn):layOk sz mn=true:=layOk_iff.2 (by have:=h.s1;have:=h.s8;have:=h.m1;have:=h.m3;omega)
theorem lay_nat {size many:Int} (h:layOk size many=true):∃ sz mn:Nat,size=sz∧many=mn∧LayP sz mn:=by
 have:=layOk_iff.1 h
 exact ⟨size.toNat,many.toNat,by omega,by omega,⟨by omega,by omega,by omega,by omega⟩⟩
theorem obj_lt {sz mn:Nat} (h:LayP sz mn) (j:Nat):objOf sz mn j<mn:=Nat.mod_lt _ h.m1
theorem pos_lt {sz mn:Nat} (h:LayP sz mn) {j:Nat} (hj:j<48):posOf sz mn j<48:=by
 have:=pos_le (j:=j) h.s1 h.m1
 omega
theorem ww {n:Nat} (hn:n≤100000):IntKind.i64.wrap (n:Int)=n:=wrap64 (by omega)
theorem lay_facts {sz mn:Nat} (h:LayP sz mn) (j:Nat) (hj:j≤4000) :
  IntKind.i64.wrap ((j:Int) / (sz:Int))=((j / sz:Nat):Int)∧((j / sz:Nat):Int).tmod (mn:Int)=((j / sz % mn:Nat):Int)∧IntKind.i64.wrap (((j / sz:Nat):Int) / (mn:Int))=((j / sz / mn:Nat):Int) ∧
  IntKind.i64.wrap (((j / sz / mn:Nat):Int)*sz)=((j / sz / mn*sz:Nat):Int)∧(j:Int).tmod (sz:Int)=((j % sz:Nat):Int)∧IntKind.i64.wrap (((j / sz / mn*sz:Nat):Int)+((j % sz:Nat):Int))=((j / sz / mn*sz+j % sz:Nat):Int):=by
 have h8:=h.s8
 have h1:=h.s1
 have q1:j / sz≤j:=Nat.div_le_self _ _
 have q2:j / sz / mn≤j / sz:=Nat.div_le_self _ _
 have q3:j / sz / mn*sz≤j*8:=Nat.mul_le_mul (by omega) h8
 have q4:j % sz<sz:=Nat.mod_lt _ h1
 refine ⟨?_,?_,?_,?_,?_,?_⟩
 ·rw [← Int.natCast_ediv];exact ww (by omega)
 ·rw [← Int.ofNat_tmod]
 ·rw [← Int.natCast_ediv];exact ww (by omega)
 ·rw [show ((j / sz / mn:Nat):Int)*(sz:Int)=((j / sz / mn*sz:Nat):Int) from (Int.natCast_mul _ _).symm];exact ww (by omega)
 ·rw [← Int.ofNat_tmod]
 ·rw [← Int.natCast_add];exact ww (by omega)
theorem ev_LayAt (m m':M) (sz mn j:Nat) (h:LayP sz mn) (hj:j<48):ev E 169 [.v m true (layL sz mn),.v m' false [.int .i64 j]]=some { rs:=[.v .own false [.int .i64 (objOf sz mn j:Nat)],.v .own false [.int .i64 (posOf sz mn j:Nat)]],outs:=[] }:=by
 have c1:=fun m=>ev_impl_LayOk m sz mn
 rw [h.ok] at c1
 obtain ⟨f1,f2,f3,f4,f5,f6⟩:=lay_facts h j (by omega)
 have n1:eqI (sz:Int) 0=false:=eqI_not.2 (by have:=h.s1;omega)
 have n2:eqI (mn:Int) 0=false:=eqI_not.2 (by have:=h.m1;omega)
 have n3:sz≠0:=by have:=h.s1;omega
 have n4:mn≠0:=by have:=h.m1;omega
 have g1:ltI (j:Int) 0=false:=ltI_not.2 (by omega)
 have g2:ltI (j:Int) 48=true:=ltI_iff.2 (by omega)
 have g3:(j:Int)<48:=by omega
 unfold objOf posOf
 generalize hq:j / sz=q at *
 generalize hr:j % sz=r at *
 generalize hq2:q / mn=q2 at *
 generalize hr2:q % mn=r2 at *
 generalize hp:q2*sz=p at *
 rw [ev_fn Tryz.f169 rfl Tryz.func169 rfl rfl rfl (Nat.le_of_ble_eq_true rfl)]
 simp [c1,f1,f2,f3,f4,f5,f6,n1,n2,n3,n4,g1,g2,g3]
theorem ev_l3At (m m':M) (sz mn j:Nat) (h:LayP sz mn) (hj:j<48):ev E 224 [.v m true (layL sz mn),.v m' false [.int .i64 j]]=some { rs:=[.v .own false [.int .i64 (objOf sz mn j:Nat)],.v .own false [.int .i64 (posOf sz mn j:Nat)]],outs:=[] }:=by
 obtain ⟨f1,f2,f3,f4,f5,f6⟩:=lay_facts h j (by omega)
 have n1:eqI (sz:Int) 0=false:=eqI_not.2 (by have:=h.s1;omega)
 have n2:eqI (mn:Int) 0=false:=eqI_not.2 (by have:=h.m1;omega)
 have n3:sz≠0:=by have:=h.s1;omega
 have n4:mn≠0:=by have:=h.m1;omega
 unfold objOf posOf
 generalize hq:j / sz=q at *
 generalize hr:j % sz=r at *
 generalize hq2:q / mn=q2 at *
 generalize hr2:q % mn=r2 at *
 generalize hp:q2*sz=p at *
 rw [ev_fn Tryz.f224 rfl Tryz.func224 rfl rfl rfl (Nat.le_of_ble_eq_true rfl)]
 simp [f1,f2,f3,f4,f5,f6,n1,n2,n3,n4]
theorem byte_eq (w:WorldT) {sz mn:Nat} (h1:w.size=sz) (h2:w.many=mn) {j:Nat} (ho:objOf sz mn j<w.st.now.length):w.byte j=(w.st.now[objOf sz mn j]).getD (posOf sz mn j) 46:=by
 unfold WorldT.byte fileAt
 rw [h1,h2,Int.toNat_natCast,Int.toNat_natCast,getD_lt _ ho]
theorem lp_stored (m:M) (hm:m.isOwn=false) (w:WorldT) (sz mn:Nat) (h1:w.size=sz) (h2:w.many=mn) (P:LayP sz mn) (hn:w.st.now.length=3) (a:Code) (ha:a=lp Tryz.f71 0):∀ (n i:Nat) (out:Bs),i+n=48→out.length=i →
  loopC E (ev E) 71 a { V:=[(1,adc 1),(3,at1 3),(9,vi i)],H:=[bxm (.c 1) m (worldL w),ow (.c 3) [.sl (rowsOfBytes out)]],ps:=[] } =
   some (.exit 0,{ V:=[(1,adc 1),(3,at1 3),(9,vi 48),(10,vb false)],H:=[bxm (.c 1) m (worldL w),ow (.c 3) [.sl (rowsOfBytes (out++(List.range' i n).map w.byte))]],ps:=[] })
 | 0,i,out,h,ho=>by
  rw [loopC_of _ _ _ _ ha]
  obtain rfl:i=48:=by omega
  simp [lp,loopsOf,Tryz.f71]
 | n+1,i,out,h,ho=>by
  have hI:(i:Int)<48:=by omega
  have hw:=wrapN i (by omega)
  have c1:=fun m m'=>ev_LayAt m m' sz mn i P (by omega)
  have o1:=obj_lt P i
  have o2:objOf sz mn i<w.st.now.length:=by have:=P.m3;omega
  have hb:=byte_eq w h1 h2 o2
  have ih:=lp_stored m hm w sz mn h1 h2 P hn a ha n (i+1) (out++[w.byte i]) (by omega) (by simp;omega)
  push_cast at ih
  have z1:out.length+1≤17592186044416:=by omega
  have z2:(rowsOfBytes out).length=out.length:=by simp [rowsOfBytes]
  rw [loopC_of _ _ _ _ ha,List.range'_succ,List.map_cons]
  clear ha
  generalize objOf sz mn i=ob at *
  generalize posOf sz mn i=ps at *
  by_cases e:ps<w.st.now[ob].length
  ·have e1:ltI (ps:Int) w.st.now[ob].length=true:=ltI_iff.2 (by omega)
   have hg:w.byte i=w.st.now[ob][ps]:=by rw [hb,getD_lt _ e]
   rw [hg] at ih ⊢
   simp [lp,loopsOf,Tryz.f71,hI,hw,hm,h1,h2,c1,o2,e1,e,z1,z2]
   simpa [rowsOfBytes,hw] using ih
  ·have e1:ltI (ps:Int) w.st.now[ob].length=false:=ltI_not.2 (by omega)
   have hg:w.byte i=46:=by rw [hb,List.getD_eq_getElem?_getD,List.getElem?_eq_none (by omega)];rfl
   rw [hg] at ih ⊢
   simp [lp,loopsOf,Tryz.f71,hI,hw,hm,h1,h2,c1,o2,e1,e,z1,z2]
   simpa [rowsOfBytes,hw] using ih
theorem ev_stored (m:M) (hm:m.isOwn=false) (w:WorldT) (hl:layOk w.size w.many=true) (hn:w.st.now.length=3):ev E 71 [.v m true (worldL w)]=some { rs:=[.v .own false [.str w.file]],outs:=[] }:=by
 obtain ⟨sz,mn,h1,h2,P⟩:=lay_nat hl
 have l0:=lp_stored m hm w sz mn h1 h2 P hn _ rfl 48 0 [] (by omega) rfl
 push_cast at l0
 have hf:(List.range' 0 48).map w.byte=w.file:=by rw [← List.range_eq_range'];rfl
 rw [hf,List.nil_append] at l0
 have hbr:=bytes_rows w.file
 have hlen:(rowsOfBytes w.file).length=48:=by simp [rowsOfBytes,file_len]
 have hr0:rowsOfBytes []=[]:=rfl
 rw [hr0] at l0
 rw [ev_fn Tryz.f71 rfl Tryz.func71 rfl rfl rfl (Nat.le_of_ble_eq_true rfl)]
 simp [hm]
 rw [loopC_at ?_ l0]
 ·generalize hro:rowsOfBytes w.file=ro at *
  simp [hbr,hlen]
 ·rfl
theorem ev_l7Byte (m m':M) (hm:m.isOwn=false) (w:WorldT) (hl:layOk w.size w.many=true) (hn:w.st.now.length=3) (j:Nat) (hj:j<48):ev E 166 [.v m true (worldL w),.v m' false [.int .i64 j]]=some { rs:=[.v .own false [.str [w.byte j]]],outs:=[] }:=by
 obtain ⟨sz,mn,h1,h2,P⟩:=lay_nat hl
 have c1:=fun m m'=>ev_l3At m m' sz mn j P (by omega)
 have o1:=obj_lt P j
 have o2:objOf sz mn j<w.st.now.length:=by have:=P.m3;omega
 have hb:=byte_eq w h1 h2 o2
 have hp:=pos_lt P hj
 generalize objOf sz mn j=ob at *
 generalize posOf sz mn j=ps at *
 have hw:=wrapN ps (by omega)
 by_cases e:ps<w.st.now[ob].length
 ·have e1:ltI (ps:Int) w.st.now[ob].length=true:=ltI_iff.2 (by omega)
  have hg:w.byte j=w.st.now[ob][ps]:=by rw [hb,getD_lt _ e]
  have ht:((w.st.now[ob]).take (ps+1)).drop ps=[w.st.now[ob][ps]]:=by
   apply List.ext_getElem?
   intro k
   simp only [List.getElem?_drop,List.getElem?_take]
   cases k with
   | zero=>simp [e]
   | succ k=>simp
  have e2:ps+1≤w.st.now[ob].length:=by omega
  have e3:(0:Int)≤(ps:Int)+1∧(ps:Int)+1≤w.st.now[ob].length:=by omega
  have e4:(ps:Int)≤(ps:Int)+1:=by omega
  rw [hg]
  rw [ev_fn Tryz.f166 rfl Tryz.func166 rfl rfl rfl (Nat.le_of_ble_eq_true rfl)]
  simp [hm,h1,h2,c1,o2,e1,e,e2,e3,e4,hw,ht]
 ·have e1:ltI (ps:Int) w.st.now[ob].length=false:=ltI_not.2 (by omega)
  have hg:w.byte j=46:=by rw [hb,List.getD_eq_getElem?_getD,List.getElem?_eq_none (by omega)];rfl
  rw [hg]
  rw [ev_fn Tryz.f166 rfl Tryz.func166 rfl rfl rfl (Nat.le_of_ble_eq_true rfl)]
  simp [hm,h1,h2,c1,o2,e1,e,hw]
theorem lp_l7File (m:M) (hm:m.isOwn=false) (w:WorldT) (hl:layOk w.size w.many=true) (hn:w.st.now.length=3) (a:Code) (ha:a=lp Tryz.f69 0):∀ (n i:Nat) (out:Bs),i+n=48→out.length=i →
  loopC E (ev E) 69 a { V:=[(1,adc 1),(3,.v .ro false [.str out]),(4,vi i)],H:=[bxm (.c 1) m (worldL w)],ps:=[] } =
   some (.exit 0,{ V:=[(1,adc 1),(3,.v .ro false [.str (out++(List.range' i n).map w.byte)]),(4,vi 48),(6,vb false)],H:=[bxm (.c 1) m (worldL w)],ps:=[] })
 | 0,i,out,h,ho=>by
  rw [loopC_of _ _ _ _ ha]
  obtain rfl:i=48:=by omega
  simp [lp,loopsOf,Tryz.f69]
 | n+1,i,out,h,ho=>by
  have hI:(i:Int)<48:=by omega
  have hw:=wrapN i (by omega)
  have c1:=fun m m' hm=>ev_l7Byte m m' hm w hl hn i (by omega)
  have ih:=lp_l7File m hm w hl hn a ha n (i+1) (out++[w.byte i]) (by omega) (by simp;omega)
  push_cast at ih
  have z1:out.length+1≤4611686018427387904:=by omega
  rw [loopC_of _ _ _ _ ha,List.range'_succ,List.map_cons]
  clear ha
  simp [lp,loopsOf,Tryz.f69,hI,hw,hm,c1,z1]
  simpa using ih
theorem ev_l7File (m:M) (hm:m.isOwn=false) (w:WorldT) (hl:layOk w.size w.many=true) (hn:w.st.now.length=3):ev E 69 [.v m true (worldL w)]=some { rs:=[.v .own false [.str w.file]],outs:=[] }:=by
 have l0:=lp_l7File m hm w hl hn _ rfl 48 0 [] (by omega) rfl
 push_cast at l0
 have hf:(List.range' 0 48).map w.byte=w.file:=by rw [← List.range_eq_range'];rfl
 rw [hf,List.nil_append] at l0
 rw [ev_fn Tryz.f69 rfl Tryz.func69 rfl rfl rfl (Nat.le_of_ble_eq_true rfl)]
 simp [hm]
 rw [loopC_at ?_ l0]
 ·simp
 ·rfl
set_option maxRecDepth 100000
set_option maxHeartbeats 4000000
structure PartT where
 obj:Nat
 lo:Nat
 hi:Nat
 frm:Nat
abbrev partL (p:PartT):List L:=[.int .i64 p.obj,.int .i64 p.lo,.int .i64 p.hi,.int .i64 p.frm]
def partAt (sz mn a e:Nat):PartT:=⟨objOf sz mn a,posOf sz mn a,posOf sz mn a+(e - a),a⟩
def partsF (sz mn hi:Nat):Nat→Nat→List PartT
 | 0,_=>[]
 | n+1,a=>if a<hi then partAt sz mn a (endOf sz a hi)::partsF sz mn hi n (endOf sz a hi) else []
theorem parts_fuel {sz mn hi:Nat} (hs:0<sz):∀ (n m a:Nat),hi≤a+n→hi≤a+m→partsF sz mn hi n a=partsF sz mn hi m a
 | 0,0,a,_,_=>rfl
 | 0,m+1,a,h1,h2=>by rw [partsF,partsF,if_neg (by omega)]
 | n+1,0,a,h1,h2=>by rw [partsF,partsF,if_neg (by omega)]
 | n+1,m+1,a,h1,h2=>by
  rw [partsF,partsF]
  by_cases h:a<hi
  ·have:=endOf_gt hs h
   rw [if_pos h,if_pos h,parts_fuel hs n m _ (by omega) (by omega)]
  ·rw [if_neg h,if_neg h]
theorem parts_len {sz mn hi:Nat}:∀ (n a:Nat),(partsF sz mn hi n a).length≤n
 | 0,a=>by simp [partsF]
 | n+1,a=>by
  have:=parts_len (sz:=sz) (mn:=mn) (hi:=hi) n (endOf sz a hi)
  rw [partsF]
  split<;>simp<;>omega
theorem end_facts {sz mn:Nat} (P:LayP sz mn) (a hi:Nat) (ha:a<48) (hh:hi≤48) :
  IntKind.i64.wrap (((a / sz:Nat):Int)+1)=((a / sz+1:Nat):Int)∧IntKind.i64.wrap (((a / sz+1:Nat):Int)*sz)=(((a / sz+1)*sz:Nat):Int)∧(if (a / sz+1)*sz<hi then (((a / sz+1)*sz:Nat):Int) else (hi:Int))=(endOf sz a hi:Nat):=by
 have q1:a / sz≤a:=Nat.div_le_self _ _
 have q3:(a / sz+1)*sz≤49*8:=Nat.mul_le_mul (by omega) P.s8
 refine ⟨wrapN _ (by omega),?_,?_⟩
 ·rw [show ((a / sz+1:Nat):Int)*(sz:Int)=(((a / sz+1)*sz:Nat):Int) by push_cast;rfl];rw [wrap64]<;>omega
 ·unfold endOf
  split<;>omega
theorem lp_LayParts (sz mn lo hi:Nat) (P:LayP sz mn) (hh:hi≤48) (a0:Code) (ha:a0=lp Tryz.f245 0):∀ (n a:Nat) (out:List PartT),hi≤a+n→a≤48→out.length≤a →
  ∃ a',loopC E (ev E) 245 a0 { V:=[(2,adc 2),(3,adc 3),(5,at1 5),(6,vi a)],H:=[bx (.c 2) (layL sz mn),bx (.c 3) [.int .i64 lo,.int .i64 hi],ow (.c 5) [.sl (out.map partL)]],ps:=[] } =
   some (.exit 0,{ V:=[(2,adc 2),(3,adc 3),(5,at1 5),(6,vi a'),(24,vb false)],H:=[bx (.c 2) (layL sz mn),bx (.c 3) [.int .i64 lo,.int .i64 hi],ow (.c 5) [.sl ((out++partsF sz mn hi n a).map partL)]],ps:=[] })
 | 0,a,out,h,h48,ho=>by
  refine ⟨a,?_⟩
  rw [loopC_of _ _ _ _ ha]
  have e1:ltI (a:Int) hi=false:=ltI_not.2 (by omega)
  have e2:¬ ((a:Int)<hi):=by omega
  have e3:¬ (a<hi):=by omega
  simp [lp,loopsOf,Tryz.f245,partsF,e1,e2,e3]
 | n+1,a,out,h,h48,ho=>by
  by_cases hlt:a<hi
  ·have hlt48:a<48:=by omega
   obtain ⟨g1,g2,g3⟩:=endOf_gt P.s1 hlt
   obtain ⟨f1,f2,f3,f4,f5,f6⟩:=lay_facts P a (by omega)
   obtain ⟨k1,k2,k3⟩:=end_facts P a hi hlt48 hh
   have hp:=pos_lt P hlt48
   obtain ⟨a',ih⟩:=lp_LayParts sz mn lo hi P hh a0 ha n (endOf sz a hi) (out++[partAt sz mn a (endOf sz a hi)]) (by omega) (by omega) (by simp;omega)
   refine ⟨a',?_⟩
   have c1:=fun m m'=>ev_LayAt m m' sz mn a P hlt48
   have n1:eqI (sz:Int) 0=false:=eqI_not.2 (by have:=P.s1;omega)
   have n3:sz≠0:=by have:=P.s1;omega
   have w1:IntKind.i64.wrap (((posOf sz mn a:Nat):Int)+(endOf sz a hi:Nat))=((posOf sz mn a:Nat):Int)+(endOf sz a hi:Nat):=by rw [wrap64];omega
   have w2:IntKind.i64.wrap (((posOf sz mn a:Nat):Int)+(endOf sz a hi:Nat) - a)=((posOf sz mn a+(endOf sz a hi - a):Nat):Int):=by rw [wrap64]<;>omega
   have z1:(out.length+1)*32≤17592186044416:=by omega
   have z2:out.length+1≤17592186044416:=by omega
   rw [loopC_of _ _ _ _ ha,partsF,if_pos hlt]
   clear ha
   simp only [partAt] at ih ⊢
   generalize objOf sz mn a=ob at *
   generalize posOf sz mn a=ps at *
   generalize endOf sz a hi=e at *
   generalize hq:a / sz=q at *
   generalize hx:(q+1)*sz=x at *
   push_cast at k1 k2
   push_cast at w2
   simp [lp,loopsOf,Tryz.f245,hlt,f1,k1,k2,k3,c1,n1,n3,w1,w2,z1,z2]
   simpa [partL] using ih
  ·refine ⟨a,?_⟩
   rw [loopC_of _ _ _ _ ha,partsF,if_neg hlt]
   have e1:ltI (a:Int) hi=false:=ltI_not.2 (by omega)
   simp [lp,loopsOf,Tryz.f245,hlt,e1]
theorem ev_impl_LayParts (m m':M) (sz mn lo hi:Nat) (P:LayP sz mn) (h1:lo<hi) (h2:hi≤48):ev E 245 [.v m true (layL sz mn),.v m' true [.int .i64 lo,.int .i64 hi]]=some { rs:=[.v .own false [.sl ((partsF sz mn hi 48 lo).map partL)]],outs:=[] }:=by
 have c1:=fun m=>ev_impl_LayOk m sz mn
 rw [P.ok] at c1
 have c2:=fun m=>ev_impl_SpanOk m ((lo:Int),(hi:Int))
 have hs:spOk ((lo:Int),(hi:Int))=true:=spOk_iff.2 (by dsimp only;omega)
 rw [hs] at c2
 obtain ⟨a',l0⟩:=lp_LayParts sz mn lo hi P h2 _ rfl 48 lo [] (by omega) (by omega) (by simp)
 simp only [List.nil_append,List.map_nil] at l0
 rw [ev_fn Tryz.f245 rfl Tryz.func245 rfl rfl rfl (Nat.le_of_ble_eq_true rfl)]
 simp [c1,c2]
 rw [loopC_at ?_ l0]
 ·simp
 ·rfl
theorem lp_sParts (sz mn lo hi:Nat) (P:LayP sz mn) (hh:hi≤48) (a0:Code) (ha:a0=lp Tryz.f265 0):∀ (n p a:Nat) (D:List PartT),p+n=hi→a<p→p≤endOf sz a hi→a<hi→D.length≤a →
  loopC E (ev E) 265 a0 { V:=[(2,adc 2),(3,adc 3),(5,at1 5),(6,vi p)],H:=[bx (.c 2) (layL sz mn),bx (.c 3) [.int .i64 lo,.int .i64 hi],ow (.c 5) [.sl (D.map partL++[partL (partAt sz mn a p)])]],ps:=[] } =
   some (.exit 0,{ V:=[(2,adc 2),(3,adc 3),(5,at1 5),(6,vi hi),(25,vb false)],H:=[bx (.c 2) (layL sz mn),bx (.c 3) [.int .i64 lo,.int .i64 hi],ow (.c 5) [.sl (D.map partL++(partsF sz mn hi 48 a).map partL)]],ps:=[] })
 | 0,p,a,D,h,hap,hpe,hah,hD=>by
  obtain ⟨g1,g2,g3⟩:=endOf_gt P.s1 hah
  rw [loopC_of _ _ _ _ ha,partsF,if_pos hah]
  obtain rfl:p=hi:=by omega
  have he:endOf sz a p=p:=by omega
  have hnil:partsF sz mn p 47 p=[]:=by rw [partsF,if_neg (by omega)]
  rw [he,hnil]
  simp [lp,loopsOf,Tryz.f265]
 | n+1,p,a,D,h,hap,hpe,hah,hD=>by
  have hlt:p<hi:=by omega
  have hlt48:p<48:=by omega
  have hltI:(p:Int)<hi:=by omega
  obtain ⟨g1,g2,g3⟩:=endOf_gt P.s1 hah
  have c1:=fun m m'=>ev_l3At m m' sz mn p P hlt48
  obtain ⟨f1,f2,f3,f4,f5,f6⟩:=lay_facts P p (by omega)
  have hpp:=pos_lt P hlt48
  have hpa:=pos_lt P (j:=a) (by omega)
  have n1:eqI (sz:Int) 0=false:=eqI_not.2 (by have:=P.s1;omega)
  have n3:sz≠0:=by have:=P.s1;omega
  have hw:=wrapN p (by omega)
  have hwp:=wrapN (posOf sz mn p) (by omega)
  have hwD:IntKind.i64.wrap (D.length:Int)=D.length:=by rw [wrap64];omega
  have hget:∀ x:List L,(D.map partL++[x])[D.length]?=some x:=fun x=>by rw [List.getElem?_append_right (by simp)];simp
  have hset:∀ x y:List L,(D.map partL++[x]).set D.length y=D.map partL++[y]:=fun x y=>by rw [List.set_append_right _ _ (by simp)];simp
  by_cases hin:p<endOf sz a hi
  ·have hm1:a % sz+(p - a)<sz:=by omega
   have hr:=lay_run (many:=mn) P.s1 (a:=a) (d:=p - a) hm1
   rw [show a+(p - a)=p by omega] at hr
   have hmod:0<p % sz:=by
    have:=lay_run (many:=mn) P.s1 (a:=a) (d:=p - a) hm1
    have b1:=Nat.div_add_mod a sz
    have e1:p % sz=a % sz+(p - a):=by
     have:p=sz*(a / sz)+(a % sz+(p - a)):=by omega
     conv=>lhs;rw [this,Nat.mul_add_mod,Nat.mod_eq_of_lt hm1]
    omega
   have ih:=lp_sParts sz mn lo hi P hh a0 ha n (p+1) a D (by omega) (by omega) (by omega) hah hD
   rw [loopC_of _ _ _ _ ha]
   clear ha
   simp only [partAt] at ih ⊢
   have e3:ltI 0 ((p % sz:Nat):Int)=true:=ltI_iff.2 (by omega)
   have e4:p+1 - a=p - a+1:=by omega
   rw [hr.1,hr.2] at c1
   rw [hr.2] at hwp
   rw [e4] at ih
   push_cast at ih hwp
   generalize objOf sz mn a=ob at *
   generalize posOf sz mn a=ps at *
   generalize partsF sz mn hi 48 a=pf at *
   generalize hrr:p % sz=r at *
   generalize hdd:p - a=d at *
   have hmI:(0:Int)<r:=by omega
   simp [lp,loopsOf,Tryz.f265,hlt,hltI,c1,f5,n1,n3,hw,hwp,hwD,hget,hset,e3,hmod]
   simpa [partL,Int.add_assoc,Nat.add_assoc] using ih
  ·have hpe2:p=endOf sz a hi:=by omega
   have hmod:p % sz=0:=by
    have:p=(a / sz+1)*sz:=by unfold endOf at hpe2;omega
    rw [this,Nat.mul_mod_left]
   obtain ⟨j1,j2,j3⟩:=endOf_gt P.s1 hlt
   have ih:=lp_sParts sz mn lo hi P hh a0 ha n (p+1) p (D++[partAt sz mn a p]) (by omega) (by omega) (by omega) hlt (by simp;omega)
   have hpf:(partsF sz mn hi 48 a).map partL=partL (partAt sz mn a p)::(partsF sz mn hi 48 p).map partL:=by
    rw [partsF,if_pos hah,← hpe2,List.map_cons,parts_fuel P.s1 47 48 p (by omega) (by omega)]
   rw [hpf]
   rw [loopC_of _ _ _ _ ha]
   clear ha
   have z1:(D.length+1+1)*32≤17592186044416:=by omega
   have z2:D.length+1+1≤17592186044416:=by omega
   have e4:p+1 - p=1:=by omega
   simp only [partAt] at ih ⊢
   rw [e4] at ih
   push_cast at ih hwp
   rw [hmod] at f5
   generalize objOf sz mn p=ob at *
   generalize posOf sz mn p=ps at *
   generalize objOf sz mn a=ob' at *
   generalize posOf sz mn a+(p - a)=hi' at *
   generalize posOf sz mn a=ps' at *
   generalize partsF sz mn hi 48 p=pf at *
   cases e1:eqI (ob':Int) ob
   ·simp [lp,loopsOf,Tryz.f265,hlt,hltI,c1,f5,n1,n3,hw,hwp,hwD,hget,e1,z1,z2]
    simpa [partL] using ih
   ·cases e2:eqI (hi':Int) ps
    ·simp [lp,loopsOf,Tryz.f265,hlt,hltI,c1,f5,n1,n3,hw,hwp,hwD,hget,e1,e2,z1,z2]
     simpa [partL] using ih
    ·simp [lp,loopsOf,Tryz.f265,hlt,hltI,c1,f5,n1,n3,hw,hwp,hwD,hget,e1,e2,z1,z2]
     simpa [partL] using ih
theorem ev_spec_LayParts (m m':M) (sz mn lo hi:Nat) (P:LayP sz mn) (h1:lo<hi) (h2:hi≤48):ev E 265 [.v m true (layL sz mn),.v m' true [.int .i64 lo,.int .i64 hi]]=some { rs:=[.v .own false [.sl ((partsF sz mn hi 48 lo).map partL)]],outs:=[] }:=by
 have c1:=fun m=>ev_spec_LayOk m sz mn
 rw [P.ok] at c1
 have c2:=fun m=>ev_spec_SpanOk m ((lo:Int),(hi:Int))
 have hs:spOk ((lo:Int),(hi:Int))=true:=spOk_iff.2 (by dsimp only;omega)
 rw [hs] at c2
 have c3:=fun m m'=>ev_l3At m m' sz mn lo P (by omega)
 obtain ⟨g1,g2,g3⟩:=endOf_gt P.s1 h1
 have l0:∀ a0,a0=lp Tryz.f265 0→loopC E (ev E) 265 a0 { V:=[(2,adc 2),(3,adc 3),(5,at1 5),(6,vi lo)],H:=[bx (.c 2) (layL sz mn),bx (.c 3) [.int .i64 lo,.int .i64 hi],ow (.c 5) [.sl []]],ps:=[] } =
   some (.exit 0,{ V:=[(2,adc 2),(3,adc 3),(5,at1 5),(6,vi hi),(25,vb false)],H:=[bx (.c 2) (layL sz mn),bx (.c 3) [.int .i64 lo,.int .i64 hi],ow (.c 5) [.sl ((partsF sz mn hi 48 lo).map partL)]],ps:=[] }):=fun a0 ha=>by
  have l1:=lp_sParts sz mn lo hi P h2 a0 ha (hi - (lo+1)) (lo+1) lo [] (by omega) (by omega) (by omega) h1 (by simp)
  have hI:(lo:Int)<hi:=by omega
  have hw:=wrapN lo (by omega)
  have hp:=pos_lt P (j:=lo) (by omega)
  have hwp:=wrapN (posOf sz mn lo) (by omega)
  rw [loopC_of _ _ _ _ ha]
  clear ha
  simp only [partAt,show lo+1 - lo=1 by omega] at l1
  push_cast at l1 hwp
  generalize objOf sz mn lo=ob at *
  generalize posOf sz mn lo=ps at *
  simp [lp,loopsOf,Tryz.f265,h1,hI,c3,hw,hwp]
  simpa [partL] using l1
 rw [ev_fn Tryz.f265 rfl Tryz.func265 rfl rfl rfl (Nat.le_of_ble_eq_true rfl)]
 simp [c1,c2]
 rw [l0 _ ?_]
 ·simp
 ·rfl
end Go.Ev

