/- My texts joined: EvD1. No condition. -/
import Derived.Test.YtngbcdcghbapnaaGreatDoorEn1
import Derived.Test.YtngbcdcghbapnaaGreatDoorEn2
import Derived.Test.YtngbcdcghbapnaaGreatDoorProg
import Derived.WalkKit
import Derived.Deep.RegionLaw
import Derived.Lib.SliceRun
set_option linter.unusedVariables false
set_option linter.unusedSimpArgs false

namespace Go.Ev
open Go.Proofs Go.RowKit
theorem cell_of {w:World} {b k:Nat} {ds:Array Value} {T:TypeId} {fr:Nat × Nat} (hb:w.heap[b]?=some (.cells ds T fr)) (hk:k<ds.size):w.cell? ⟨b,k,none⟩=some ds[k]:=by
 simp [World.cell?,hb,hk]
theorem frozen_of {w:World} {b k:Nat} {ds:Array Value} {T:TypeId} {fr:Nat × Nat} (hb:w.heap[b]?=some (.cells ds T fr)) (hf:∀ k,k<ds.size→¬ (fr.1≤k∧k<fr.2)) (hk:k<ds.size):w.frozen? ⟨b,k,none⟩=false:=by
 have:=hf k hk
 simp [World.frozen?,hb]
 omega
theorem setCells_row (P:Program) {w:World} {b o:Nat} {ds:Array Value} {T:TypeId} {fr:Nat × Nat} (hb:w.heap[b]?=some (.cells ds T fr)) (hf:∀ k,k<ds.size→¬ (fr.1≤k∧k<fr.2)) (vs:List Value) (h:o+vs.length≤ds.size) (h1:∀ v∈vs,v.oneCell'=true):w.setCells b o vs=w.setRow b (splice ds.toList o vs).toArray:=by
 have e1:=run_storeCells' P b o T fr vs 0 ds w hb hf (by omega) h1
 have e2:=run_storeCells_cells (P:=P) b o vs 0 w (fun j hj=>by rw [Nat.add_zero,cell_of hb (by omega)];rfl) (fun j hj=>by rw [Nat.add_zero];exact frozen_of hb hf (by omega)) h1
 rw [e1] at e2
 injection e2 with _ e
 exact e.symm
theorem zeroCells_one (cs:Array Value) (h:0<cs.size) (h1:∀ v∈cs.toList,v.oneCell'=true) (n:Nat):(Builtin.zeroCells cs n).toList.length=n*cs.size∧∀ v∈(Builtin.zeroCells cs n).toList,v.oneCell'=true:=by
 refine ⟨by simp [Builtin.zeroCells],fun v hv=>?_⟩
 simp only [Builtin.zeroCells,Array.toList_map,List.mem_map] at hv
 obtain ⟨k,_,rfl⟩:=hv
 have hk:k % cs.size<cs.size:=Nat.mod_lt _ h
 rw [getElem!_pos cs (k % cs.size) hk]
 exact h1 _ (by simp)
theorem run_clear_cells {P:Program} {w:World} {t e ty:TypeId} {i:TypeInfo} {z:Value} (ht:P.underlying t=some (.slice e)) (hi:P.info? e=some i) (hz:i.zero=some z) (h0:0<z.cells.size) (h1:∀ v∈z.cells.toList,v.oneCell'=true) {b o n c:Nat} (hn:0<n) {ds:Array Value} {T:TypeId} {fr:Nat × Nat} (hb:w.heap[b]?=some (.cells ds T fr)) (hf:∀ k,k<ds.size→¬ (fr.1≤k∧k<fr.2)) (h:o+n*z.cells.size≤ds.size) :
  (Builtin.clear_ #[t] ty #[.slice (some ⟨b,o,none⟩) n c]).run P w=.ok (.tuple #[]) (w.setRow b (splice ds.toList o (Builtin.zeroCells z.cells n).toList).toArray):=by
 obtain ⟨l1,l2⟩:=zeroCells_one z.cells h0 h1 n
 have hst:=run_storeCells' P b o T fr (Builtin.zeroCells z.cells n).toList 0 ds w hb hf (by omega) l2
 rw [Nat.add_zero] at hst
 obtain ⟨m,rfl⟩:∃ m,n=m+1:=⟨n - 1,by omega⟩
 simp [Builtin.clear_,run_underlying' w ht,run_zeroValue' w hi hz,hst]
set_option maxHeartbeats 4000000 in
set_option maxRecDepth 1000000 in
theorem delete_run {ti:TI} (hti:tiOf Tryz.prog 59=some ti) (h6:ti.size=6) (w:World) (b off n cap i j:Nat) (cs:Array Value) (T:TypeId) (fr:Nat × Nat) (hb:w.heap[b]?=some (.cells cs T fr)) (hf:∀ k,k<cs.size→¬ (fr.1≤k∧k<fr.2)) (hn:n≤cap) (hc:off+cap*6≤cs.size) (hij:i<j) (hj:j≤n)
  (h1c:∀ v∈(cs.toList.drop off).take (n*6),v.oneCell'=true) :
  ∃ zs:List Value,zs.length=(n - (i+(n - j)))*6∧(∀ v∈zs,v.oneCell'=true) ∧
  Calls Tryz.prog 142 #[.slice (some ⟨b,off,none⟩) n cap,.int .i64 i,.int .i64 j] w fun e w'=>e=.returned (.slice (some ⟨b,off,none⟩) (i+(n - j)) cap) ∧
   w'=(w.drew.setRow b (splice cs.toList (off+i*6) ((cs.toList.drop (off+j*6)).take ((n - j)*6))).toArray).setRow b (splice (splice cs.toList (off+i*6) ((cs.toList.drop (off+j*6)).take ((n - j)*6))) (off+(i+(n - j))*6) zs).toArray:=by
 obtain ⟨i0,d0,z0,hi0,hd0,hz0,hzs,hz1,_,_,e1,_⟩:=tiOf_spec hti
 have hz2:i0.size=6:=by omega
 have h0z:0<z0.cells.size:=by omega
 have hts:Tryz.prog.underlying 32=some (.slice 59):=Tryz.underlying32
 have hlc:cs.toList.length=cs.size:=by simp
 obtain ⟨news,hnews⟩:∃ news,news=(cs.toList.drop (off+j*6)).take ((n - j)*6):=⟨_,rfl⟩
 rw [← hnews]
 have hlen:news.length=(n - j)*6:=by rw [hnews];simp;omega
 have hone:∀ v∈news,v.oneCell'=true:=fun v hv=>by
  refine h1c v ?_
  rw [hnews] at hv
  obtain ⟨k,hk,rfl⟩:=List.getElem_of_mem hv
  simp only [List.length_take,List.length_drop,List.getElem_take,List.getElem_drop] at hk ⊢
  rw [List.mem_iff_getElem]
  refine ⟨j*6+k,by simp;omega,?_⟩
  simp [Nat.add_assoc]
 obtain ⟨ds1,hds1⟩:∃ ds1:Array Value,ds1=(splice cs.toList (off+i*6) news).toArray:=⟨_,rfl⟩
 have hds2:splice cs.toList (off+i*6) news=ds1.toList:=by rw [hds1]
 rw [← hds1,hds2]
 obtain ⟨W1,hW1⟩:∃ W1,W1=w.drew.setRow b ds1:=⟨_,rfl⟩
 have hb0:w.drew.heap[b]?=some (.cells cs T fr):=hb
 have hW1':W1=w.drew.setCells b (off+i*6) news:=by
  rw [hW1,hds1,setCells_row Tryz.prog hb0 hf news (by omega) hone]
 have hb1:W1.heap[b]?=some (.cells ds1 T fr):=by
  rw [hW1];exact setRow_heap w.drew b cs _ T fr hb0
 have hsz:ds1.size=cs.size:=by
  rw [hds1,List.size_toArray,splice_length _ _ _ (by omega),hlc]
 obtain ⟨l1,l2⟩:=zeroCells_one z0.cells h0z hz1 (n - (i+(n - j)))
 have hcl:∀ ty,(Builtin.clear_ #[32] ty #[.slice (some ⟨b,off+(i+(n - j))*6,none⟩) (n - (i+(n - j))) (cap - (i+(n - j)))]).run Tryz.prog W1=.ok (.tuple #[]) (W1.setRow b (splice ds1.toList (off+(i+(n - j))*6) (Builtin.zeroCells z0.cells (n - (i+(n - j)))).toList).toArray):=fun ty =>
  run_clear_cells hts hi0 hz0 h0z hz1 (by omega) hb1 (by rw [hsz];exact hf) (by rw [hsz,hzs,hz2];omega)
 rw [hzs,hz2] at l1
 generalize (Builtin.zeroCells z0.cells (n - (i+(n - j)))).toList=zs at *
 refine ⟨zs,l1,l2,?_⟩
 rw [← hW1]
 obtain ⟨A,hA,hsrc⟩:∃ A:Addr,(if cap=j then some (⟨b,off,none⟩:Addr) else some ⟨b,off+j*6,none⟩)=some A∧Hid (∀ t u,news[t]?=some u→w.drew.cell? (A.add t)=some u):=by
  by_cases h:cap=j
  ·refine ⟨⟨b,off,none⟩,by simp [h],fun t u hu=>?_⟩
   have h0:news.length=0:=by rw [hlen];omega
   rw [List.length_eq_zero_iff.1 h0] at hu
   simp at hu
  ·refine ⟨⟨b,off+j*6,none⟩,by simp [h],fun t u hu=>?_⟩
   obtain ⟨ht,rfl⟩:=List.getElem?_eq_some_iff.1 hu
   rw [hlen] at ht
   rw [Addr.add_lit,cell_of hb0 (by omega)]
   simp only [hnews,List.getElem_take,List.getElem_drop,Array.getElem_toList]
 have s1:Hid (news.length=(n - j)*6):=hlen
 have s2:Hid (∀ u∈news,u.oneCell'=true):=hone
 have s3:Hid (∀ t,t<news.length→(w.drew.cell? ⟨b,off+i*6+t,none⟩).isSome=true∧w.drew.frozen? ⟨b,off+i*6+t,none⟩=false):=fun t ht=>by
  rw [hlen] at ht
  exact ⟨by rw [cell_of hb0 (by omega)];rfl,frozen_of hb0 hf (by omega)⟩
 have hW:Hid (W1=w.drew.setCells b (off+i*6) news):=hW1'
 have hic:i≤cap:=by omega
 have hjc:j≤cap:=by omega
 have hne:¬ (i:Int)=(j:Int):=by omega
 have hin:i≤n:=by omega
 clear hnews hlen hone hW1 hW1' hds1 hds2 hb1 hsz l1 l2 hb hb0 hf h1c hlc
 go_enter Tryz.func142,Tryz.ntmps142
 go_wp2_with fail
 go_region_law (refine step_append_room rfl (.tmp 22) (.tmp 25) 32 rfl 59 i0 6 hts hi0 hz2 b off i cap (by simp [Act.eval,Act.put]) A (n - j) (cap - j) news (by simp [Act.eval,Act.put]) s1.out hsrc.out s2.out (by omega) s3.out ?_;rw [← hW.out])
 go_wp2
 all_goals (go_ret;exact ⟨rfl,rfl⟩)
def delM:List (List L)→M
 | []=>.ro
 | _=>.own
def deleteK:List Arg→Option Out
 | [.own false [.sl xs],.v _ false [.int .i64 i],.v _ false [.int .i64 j]] =>
  if 0≤i∧i<j∧j≤(xs.length:Int)∧(xs.all fun r=>r.all L.flat)=true∧(xs.all fun r=>decide (r.length=6))=true then
   some { rs:=[.v (delM (xs.take i.toNat++xs.drop j.toNat)) false [.sl (xs.take i.toNat++xs.drop j.toNat)]],outs:=[] }
  else none
 | _=>none
theorem cell1 {v:Value} (h:isAgg v=false):v.cells.toList=[v]:=by cases v<;>first | rfl | simp [isAgg] at h
theorem int1 {w:World} {R B:Nat→Prop} {v:Value} {fp:List Nat} {m:M} {k:IntKind} {n:Int} (h:ArgRep w R B v fp (.v m false [.int k n])):v=.int k n∧fp=[]:=by
 obtain ⟨h0,S,h1,h2,_⟩:=h
 rw [cell1 h2] at h1
 refine ⟨?_,h0⟩
 cases h1 with
 | cons _ _ _ _ _ _ _ g _=>cases g;rfl
theorem two_splices {α:Type} (D zs:List α) (off i j n:Nat) (hij:i<j) (hj:j≤n) (hl:off+n*6≤D.length) (hz:zs.length=(n - (i+(n - j)))*6) :
  ((splice (splice D (off+i*6) ((D.drop (off+j*6)).take ((n - j)*6))) (off+(i+(n - j))*6) zs).drop off).take ((i+(n - j))*6)=(D.drop off).take (i*6)++(D.drop (off+j*6)).take ((n - j)*6):=by
 have hm:((D.drop (off+j*6)).take ((n - j)*6)).length=(n - j)*6:=by simp;omega
 generalize hnw:(D.drop (off+j*6)).take ((n - j)*6)=nw at *
 rw [splice_apart (by rw [splice_length _ _ _ (by omega)];omega) (.inr (by omega))]
 unfold splice
 rw [List.append_assoc,List.drop_append_of_le_length (by simp;omega),List.drop_take,show off+i*6 - off=i*6 by omega,List.take_append,List.take_of_length_le (by simp;omega)]
 congr 1
 have h1:((D.drop off).take (i*6)).length=i*6:=by simp;omega
 rw [h1,show (i+(n - j))*6 - i*6=nw.length by omega,List.take_left]
theorem delete_con {E:Env} {ti:TI} (hP:E.P=Tryz.prog) (hti:tiOf Tryz.prog 59=some ti) (h6:ti.size=6) (args:List Arg) (out:Out) (h:deleteK args=some out):Con E 142 args out:=by
 unfold deleteK at h
 split at h<;>try (cases h;done)
 rename_i xs m1 i m2 j
 split at h<;>cases h
 rename_i hc
 obtain ⟨h0,h1,h2,h3,h4⟩:=hc
 obtain ⟨i,rfl⟩:∃ k:Nat,i=k:=⟨i.toNat,by omega⟩
 obtain ⟨j,rfl⟩:∃ k:Nat,j=k:=⟨j.toNat,by omega⟩
 simp only [Int.toNat_natCast]
 intro w R B vs fps ha hg hlt hh hn
 cases ha with
 | @cons x1 v1 fp1 xs1 vs1 fps1 a1 ha =>
 cases ha with
 | @cons x2 v2 fp2 xs2 vs2 fps2 a2 ha =>
 cases ha with
 | @cons x3 v3 fp3 xs3 vs3 fps3 a3 ha =>
 cases ha
 obtain ⟨rfl,rfl⟩:=int1 a2
 obtain ⟨rfl,rfl⟩:=int1 a3
 obtain ⟨g1,⟨⟨S,ob,hrep,hfp,_,hbx⟩⟩⟩:=a1
 simp only [hcOf,Loc.cells,M.isOwn,if_true] at hrep hfp
 have hob:ob=[]:=by
  unfold boxRep at hbx
  rcases hbx with ⟨q,_⟩ | ⟨_,_,q⟩
  ·cases q
  ·exact q
 rw [hob,List.nil_append] at hfp
 rw [cell1 g1] at hrep
 obtain ⟨S1,S2,hS,q1,q2⟩:=RepLs.head hrep
 have hS2:=q2.nilS
 have hne:xs≠[]:=fun e=>by rw [e] at h2;simp at h2;omega
 obtain ⟨b,off,cap,cs,T,fr,sz,S0,rfl,rfl,hb,hsz,hx,hcap,hoff,hrr⟩:=q1.slCases hne
 have hall:∀ x∈xs,x.length=6:=fun x hx=>by simpa using List.all_eq_true.1 h4 x hx
 obtain rfl:sz=6:=by
  obtain ⟨x,hx1⟩:=List.exists_mem_of_ne_nil xs hne
  exact (hx x hx1).symm.trans (hall x hx1)
 have hflat:xs.flatten.all L.flat=true:=by
  rw [List.all_eq_true]
  intro x hx
  obtain ⟨l,hl,hxl⟩:=List.mem_flatten.1 hx
  exact List.all_eq_true.1 (List.all_eq_true.1 h3 l hl) x hxl
 obtain rfl:S0=[]:=hrr.flatS hflat
 have hfpb:fp1=[b]:=by rw [hfp,hS,hS2];rfl
 subst hfpb
 have hhb:=hh b (by simp)
 obtain ⟨cs',T',fr',hb',hfree⟩:=hhb.2.2
 rw [hb] at hb'
 obtain ⟨rfl,rfl,rfl⟩:cs=cs'∧T=T'∧fr=fr':=by simpa using hb'
 have hlc:cs.toList.length=cs.size:=by simp
 obtain ⟨zs,hzl,hz1,hcall⟩:=delete_run hti h6 w b off xs.length cap i j cs T fr hb hfree hcap hoff (by omega) (by omega) hrr.one
 obtain ⟨Sa,Sb,_,r1,_⟩:=hrr.split (i*6)
 obtain ⟨Sc,Sd,_,_,r2⟩:=hrr.split (j*6)
 rw [flatten_take 6 xs i hall,List.take_take,Nat.min_eq_left (by omega)] at r1
 rw [flatten_drop 6 xs j hall,List.drop_take,List.drop_drop,show xs.length*6 - j*6=(xs.length - j)*6 by omega] at r2
 have hf1:(xs.take i).flatten.all L.flat=true:=by
  rw [List.all_eq_true] at hflat ⊢
  intro x hx
  obtain ⟨l,hl,hxl⟩:=List.mem_flatten.1 hx
  exact hflat x (List.mem_flatten.2 ⟨l,List.mem_of_mem_take hl,hxl⟩)
 have hf2:(xs.drop j).flatten.all L.flat=true:=by
  rw [List.all_eq_true] at hflat ⊢
  intro x hx
  obtain ⟨l,hl,hxl⟩:=List.mem_flatten.1 hx
  exact hflat x (List.mem_flatten.2 ⟨l,List.mem_of_mem_drop hl,hxl⟩)
 have two:=two_splices cs.toList zs off i j xs.length (by omega) (by omega) (by omega) hzl
 have hnl:((cs.toList.drop (off+j*6)).take ((xs.length - j)*6)).length=(xs.length - j)*6:=by simp;omega
 have hD1:(splice cs.toList (off+i*6) ((cs.toList.drop (off+j*6)).take ((xs.length - j)*6))).length=cs.size:=by rw [splice_length _ _ _ (by omega),hlc]
 have hD2:(splice (splice cs.toList (off+i*6) ((cs.toList.drop (off+j*6)).take ((xs.length - j)*6))) (off+(i+(xs.length - j))*6) zs).length=cs.size:=by rw [splice_length _ _ _ (by omega),hD1]
 generalize hgD2:splice (splice cs.toList (off+i*6) ((cs.toList.drop (off+j*6)).take ((xs.length - j)*6))) (off+(i+(xs.length - j))*6) zs=D2 at *
 generalize splice cs.toList (off+i*6) ((cs.toList.drop (off+j*6)).take ((xs.length - j)*6))=D1 at *
 left
 have hfn:E.P.funcs[142]?=some Tryz.f142:=by rw [hP];exact Tryz.func142
 obtain ⟨c,hbc⟩:∃ c,Tryz.f142.body=some c:=⟨_,rfl⟩
 have hnm : ¬ Tryz.f142.name = "runtime.NumGoroutine" := by
  have : (Tryz.f142.name == "runtime.NumGoroutine") = false := by kernel_rfl
  simpa using this
 refine ⟨by simp [callFunc,hfn,hnm,hbc],?_⟩
 rw [hP]
 refine hcall.mono ?_
 rintro e w' ⟨rfl,rfl⟩
 generalize hw':(w.drew.setRow b D1.toArray).setRow b D2.toArray=w'
 have hb1:(w.drew.setRow b D1.toArray).heap[b]?=some (.cells D1.toArray T fr):=setRow_heap w.drew b cs _ T fr hb
 have hb2:w'.heap[b]?=some (.cells D2.toArray T fr):=by rw [← hw'];exact setRow_heap _ b _ _ T fr hb1
 have hoth:∀ k,k≠b→w'.heap[k]?=w.heap[k]?:=fun k hk=>by
  rw [← hw',setRow_other _ b k _ hk,setRow_other _ b k _ hk]
  rfl
 have hsize:w'.heap.size=w.heap.size:=by rw [← hw'];simp
 have hfree2:Free w' b:=⟨_,_,_,hb2,by rw [List.size_toArray,hD2];exact hfree⟩
 have hlen2:i+(xs.length - j)=(xs.take i++xs.drop j).length:=by simp;omega
 have hrows:RepLs w' true ((D2.drop off).take ((i+(xs.length - j))*6)) (xs.take i++xs.drop j).flatten []:=by
  rw [two,List.flatten_append]
  exact (r1.flatAny hf1 w' true).append (r2.flatAny hf2 w' true)
 have hall2:∀ x∈xs.take i++xs.drop j,x.length=6:=fun x hx=>(List.mem_append.1 hx).elim (fun q=>hall x (List.mem_of_mem_take q)) fun q=>hall x (List.mem_of_mem_drop q)
 show Nonempty _
 generalize hys:xs.take i++xs.drop j=ys at *
 rw [hlen2] at hrows ⊢
 have hkp:Kp w w' fun k=>k∈[[b],[],[]].flatten:=⟨by rw [← hw'];rfl,by rw [← hw'];rfl,by rw [← hw'];rfl,by omega,fun k _ hk=>hoth k fun e=>hk (by simp [e])⟩
 cases hem:ys.isEmpty
 ·have hyn:ys≠[]:=by simpa using hem
  have hdm:delM ys=.own:=by cases ys<;>first | rfl | exact absurd rfl hyn
  rw [hdm]
  refine ⟨{ R':=R,vs:=[_],fps:=[[b]],ofps:=[],hv:=rfl,kp:=hkp,mono:=fun _ h=>h,new:=fun _ h=>.inl h,lt:=fun k hk=>by rw [hsize];exact hlt k (.inl hk),rs:=.cons ⟨rfl,[b],?_,.inl rfl,rfl⟩ .nil,outs:=.nil,held:=?_,nd:=by simp }⟩
  ·exact RepLs.single (RepL.sl true b off cap D2.toArray T fr ys 6 [] hb2 hyn (by omega) hall2 (by omega) (by rw [List.size_toArray,hD2];exact hoff) hrows)
  ·intro k hk
   obtain rfl:k=b:=by simpa using hk
   exact ⟨hhb.1,hhb.2.1,hfree2,.inr (by simp)⟩
 ·have hyn:ys=[]:=by simpa using hem
  subst hyn
  rw [show delM []=M.ro from rfl]
  refine ⟨{ R':=R,vs:=[_],fps:=[[]],ofps:=[],hv:=rfl,kp:=hkp,mono:=fun _ h=>h,new:=fun _ h=>.inl h,lt:=fun k hk=>by rw [hsize];exact hlt k (.inl hk),rs:=.cons ⟨rfl,[],?_,.inr (by simp),rfl⟩ .nil,outs:=.nil,held:=by simp,nd:=by simp }⟩
  exact RepLs.single (RepL.sle false _ cap (by simp))
end Go.Ev

