/- My texts joined: EvT105. No condition. -/
import Derived.Test.YtngbcdcghbapnaaGreatDoorEs9
import Derived.Test.YtngbcdcghbapnaaGreatDoorEs13
import Derived.Test.YtngbcdcghbapnaaGreatDoorEs22
import Derived.Test.YtngbcdcghbapnaaGreatDoorEs44
set_option linter.unusedVariables false
set_option linter.unusedSimpArgs false

set_option maxRecDepth 100000
set_option maxHeartbeats 8000000
namespace Go.Ev
open Go.Proofs
theorem eqL_comm {α:Type} {c:α→α→Bool} (hc:∀ x y,c x y=c y x):∀ xs ys:List α,eqL c xs ys=eqL c ys xs
 | [],[]=>rfl
 | [],_::_=>rfl
 | _::_,[]=>rfl
 | x::xs,y::ys=>by rw [eqL,eqL,hc,eqL_comm hc xs ys]
theorem eqI_comm (a b:Int):eqI a b=eqI b a:=by rw [Bool.eq_iff_iff,eqI_iff,eqI_iff];exact ⟨fun h=>h.symm,fun h=>h.symm⟩
theorem eqS_comm (a b:Bs):eqS a b=eqS b a:=by rw [Bool.eq_iff_iff,eqS_iff,eqS_iff];exact ⟨fun h=>h.symm,fun h=>h.symm⟩
theorem sameWorld_comm (a b:WorldT):sameWorld a b=sameWorld b a:=by
 have h1:=eqL_comm eqI_comm
 have h2:=eqL_comm eqS_comm
 have h3:∀ x y:OwnT,sameOwn x y=sameOwn y x:=fun x y=>by
  unfold sameOwn
  rw [eqS_comm,show decide (x.h=y.h)=decide (y.h=x.h) from by rw [Bool.eq_iff_iff];simp [eq_comm],show decide (x.d=y.d)=decide (y.d=x.d) from by rw [Bool.eq_iff_iff];simp [eq_comm]]
 have h4:∀ x y:HoldT,sameHold x y=sameHold y x:=fun x y=>by
  unfold sameHold
  rw [show decide (x.r=y.r)=decide (y.r=x.r) from by rw [Bool.eq_iff_iff];simp [eq_comm],show decide (x.w=y.w)=decide (y.w=x.w) from by rw [Bool.eq_iff_iff];simp [eq_comm]]
 have h5:∀ x y:ReqT,sameReq x y=sameReq y x:=fun x y=>by
  unfold sameReq
  rw [eqI_comm x.who,eqI_comm x.epoch,eqI_comm x.num,eqI_comm x.obj,eqI_comm x.pos,eqS_comm x.data]
 have h6:∀ x y:Bool,sameB x y=sameB y x:=fun x y=>by cases x<;>cases y<;>rfl
 unfold sameWorld sameStore sameLay
 rw [h1 a.st.last,h1 a.st.slast,h1 a.st.floors,h1 a.epochs,h2 a.st.now,h2 a.st.sure,eqL_comm h3 a.owns,eqL_comm h4 a.locks,eqL_comm h5 a.kept,eqL_comm h5 a.late,eqL_comm h6 a.alive,eqI_comm a.size,eqI_comm a.many]
theorem same_late (a:WorldT) (q:ReqT):sameWorld a { a with late:=a.late++[q] }=false:=by
 have h:eqL sameReq a.late (a.late++[q])=false:=eqL_len _ _ (by simp)
 unfold sameWorld
 dsimp only
 rw [h]
 simp
theorem ev_DrawWorldSame (bs:Bs):∃ (ma mb:M) (a b:WorldT),OwRo ma∧OwRo mb∧WorldP a∧WorldC b∧ev E 33 [.v .ro false [.sl (rowsOfBytes bs)]]=some { rs:=[.v ma true (worldL a),.v mb true (worldL b)],outs:=[] }:=by
 have c0:=ev_l10Open bs
 have hb:(bs.take 2000).length≤2000:=by simp;omega
 generalize bs.take 2000=b2 at c0 hb
 obtain ⟨w0,p0,h0,hp0,c1⟩:=ev_l7Some b2 0 ⟨hb,by omega⟩ (by omega)
 have C:=h0.wc
 obtain ⟨k,hk,c2⟩:=ev_pick .ro b2 p0 2 ⟨hb,by omega⟩ (by omega)
 by_cases f0:(k:Int)=0
 ·obtain ⟨_,c3,e,p',he,hp',_,rfl⟩:=ev_l7Ev .tn rfl w0 C.toWorldB b2 (p0+1) ⟨hb,by omega⟩ (by omega)
  have c4:=fun m hm=>ev_l7Copy m hm w0 C.toWorldB
  obtain ⟨mz,hmz,c5⟩:=ev_l7Do w0 h0 e (by omega)
  have Cb:=(doW_ok h0 e).wc
  simp only [rWS] at c5
  generalize doW w0 e=z at *
  refine ⟨.own,cln mz,w0,z.1,.inl rfl,cln_ok hmz,h0,Cb,?_⟩
  rw [ev_fn Tryz.f33 rfl Tryz.func33 rfl rfl rfl (Nat.le_of_ble_eq_true rfl)]
  rcases hmz with rfl | rfl | rfl<;>simp [c0,c1,c2,c3,c4,c5,f0,cln]
 ·have f0:=eqI_ne f0
  obtain ⟨_,c3,m1,w1,p1,hm1,hK1,hl1,hp1,rfl⟩:=ev_l7Bent .tn rfl w0 10000 3 (by omega) (by omega) (by omega) h0.k h0.st.last b2 (p0+1) ⟨hb,by omega⟩ (by omega)
  have hl:=hl1 (storeOk_iff.2 h0.st)
  rcases hm1 with rfl | rfl
  ·obtain ⟨_,c4,m2,w2,p2,hm2,hK2,_,hp2,rfl⟩:=ev_l7Bent .tn rfl w1 10400 2 (by omega) (by omega) (by omega) hK1 hl b2 p1 ⟨hb,by omega⟩ (by omega)
   refine ⟨.own,m2,w0,w2,.inl rfl,hm2.o,h0,hK2.c (by omega),?_⟩
   rw [ev_fn Tryz.f33 rfl Tryz.func33 rfl rfl rfl (Nat.le_of_ble_eq_true rfl)]
   rcases hm2 with rfl | rfl<;>simp [c0,c1,c2,c3,c4,f0]
  ·obtain ⟨_,c4,m2,w2,p2,hm2,hK2,_,hp2,rfl⟩:=ev_l7Bent .ro rfl w1 10400 2 (by omega) (by omega) (by omega) hK1 hl b2 p1 ⟨hb,by omega⟩ (by omega)
   refine ⟨.own,m2,w0,w2,.inl rfl,hm2.o,h0,hK2.c (by omega),?_⟩
   rw [ev_fn Tryz.f33 rfl Tryz.func33 rfl rfl rfl (Nat.le_of_ble_eq_true rfl)]
   rcases hm2 with rfl | rfl<;>simp [c0,c1,c2,c3,c4,f0]
theorem ev_DrawWorldNew (bs:Bs):∃ (size many:Int),ev E 34 [.v .ro false [.sl (rowsOfBytes bs)]]=some { rs:=[.v .own true (layL size many)],outs:=[] }:=by
 have c0:=ev_l10Open bs
 have hb:(bs.take 2000).length≤2000:=by simp;omega
 generalize bs.take 2000=b2 at c0 hb
 obtain ⟨_,c1,size,many,p',hp',rfl⟩:=ev_l3Lays b2 0 ⟨hb,by omega⟩ (by omega)
 refine ⟨size,many,?_⟩
 rw [ev_fn Tryz.f34 rfl Tryz.func34 rfl rfl rfl (Nat.le_of_ble_eq_true rfl)]
 simp [c0,c1]
theorem law_FnWorldSame (code:List UInt8):ev E 8 [.v .ro false [.sl (rowsOfBytes code)]]=some (rB true):=by
 cases e0:ltI 1048576 code.length
 case true =>
  rw [ev_fn Tryz.f8 rfl Tryz.func8 rfl rfl rfl (Nat.le_of_ble_eq_true rfl)]
  simp [e0]
 obtain ⟨ma,mb,a,b,hma,hmb,Pa,Cb,c1⟩:=ev_DrawWorldSame code
 have Ca:=Pa.wc
 obtain ⟨size,many,c2⟩:=ev_DrawWorldNew code
 have c3:=fun m=>ev_impl_WorldNew m size many
 have c4:=fun m=>ev_spec_WorldNew m size many
 have c5:=fun m m' hm hm'=>ev_impl_WorldSame m m' hm hm' a b Cb.toWorldB
 have c6:=fun m m' hm hm'=>ev_spec_WorldSame m m' hm hm' a b Cb.toWorldB
 have c7:=fun m m' hm hm'=>ev_impl_WorldSame m m' hm hm' b a Ca.toWorldB
 have c8:=fun m m' hm hm'=>ev_impl_WorldSame m m' hm hm' a a Ca.toWorldB
 have c9:=fun m m' hm hm'=>ev_impl_WorldSame m m' hm hm' (newWL size many) (newWL size many) (newWL_wb size many)
 have hl:=Pa.lateN
 have hl1:(a.late.length+1)*56≤17592186044416:=by omega
 have hl2:a.late.length*56≤17592186044416:=by omega
 have hl3:a.late.length≤17592186044416:=by omega
 have hl4:a.late.length≤17592186044415:=by omega
 have Bx:WorldB { a with late:=a.late++[⟨0,0,0,0,0,[]⟩] }:=by
  have B:=Ca.toWorldB
  exact ⟨B.st,B.locks,B.holds,B.owns,B.owned,B.epochs,B.alive,B.kept,by simp;omega⟩
 have c10:=fun m m' hm hm'=>ev_impl_WorldSame m m' hm hm' a { a with late:=a.late++[⟨0,0,0,0,0,[]⟩] } Bx
 rw [same_late] at c10
 rw [sameWorld_comm b a] at c7
 rw [sameWorld_self] at c8 c9
 generalize sameWorld a b=sm at *
 have c11:∀ m,ev E 39 [.v m true (layL size many)]=some (rB (layOk size many)):=fun m=>ev_spec_LayOk m size many
 have c12:∀ m m':M,ev E 38 [.v m false [.str []],.v m' false [.int .i64 48]]=some { rs:=[.v .own false [.str (List.replicate 48 46)],.v .own false [.bool true]],outs:=[] }:=fun m m'=>ev_TextCut0 m m' 48 (by omega)
 simp only [worldL,List.map_append,List.map_cons,List.map_nil,reqL] at c10
 simp only [rW1] at c3 c4
 cases hlay:layOk size many
 ·have hn:newWL size many=noW:=by unfold newWL;rw [hlay];rfl
  rw [hn] at c3 c4 c9
  rw [hlay] at c11
  simp only [noW,noS] at c3 c4 c9
  simp only [worldL,strsL,intsL,boolsL,List.map_nil] at c9
  rw [ev_fn Tryz.f8 rfl Tryz.func8 rfl rfl rfl (Nat.le_of_ble_eq_true rfl)]
  rcases hma with rfl | rfl | rfl<;>rcases hmb with rfl | rfl | rfl<;>simp [e0,c1,c2,c3,c4,c5,c6,c7,c8,c9,c10,c11,c12,hl1,hl2,hl3,hl4]
 ·have hn:newWL size many=newW size many:=by unfold newWL;rw [hlay];rfl
  have Pn:=newW_ok hlay
  have c13:=fun m hm=>ev_impl_WorldOk m hm _ Pn.wc
  have c14:=fun m hm=>ev_iText m hm _ Pn.wc
  rw [worldOk_iff.2 Pn] at c13 c14
  simp only [if_true] at c14
  rw [newW_text hlay] at c14
  rw [hn] at c3 c4 c9
  rw [hlay] at c11
  generalize newW size many=nw at *
  generalize List.replicate 48 (46:UInt8)=bl at *
  rw [ev_fn Tryz.f8 rfl Tryz.func8 rfl rfl rfl (Nat.le_of_ble_eq_true rfl)]
  rcases hma with rfl | rfl | rfl<;>rcases hmb with rfl | rfl | rfl<;>simp [e0,c1,c2,c3,c4,c5,c6,c7,c8,c9,c10,c11,c12,c13,c14,hl1,hl2,hl3,hl4]
end Go.Ev

