/- My texts joined: EvT102. No condition. -/
import Derived.Test.YtngbcdcghbapnaaGreatDoorEn30
set_option linter.unusedVariables false
set_option linter.unusedSimpArgs false

set_option maxRecDepth 100000
set_option maxHeartbeats 8000000
namespace Go.Ev
open Go.Proofs
theorem ev_Delete (m m':M) (qs:List ReqT) (i:Nat) (hi:i<qs.length):ev E 142 [.own false [.sl (qs.map reqL)],.v m false [.int .i64 i],.v m' false [.int .i64 ((i:Int)+1)]] =
  some { rs:=[.v (delM ((qs.take i++qs.drop (i+1)).map reqL)) false [.sl ((qs.take i++qs.drop (i+1)).map reqL)]],outs:=[] }:=by
 have e1:((i:Int)+1).toNat=i+1:=by omega
 have e2:(i:Int)+1≤((qs.map reqL).length:Int):=by rw [List.length_map];omega
 have e3:((qs.map reqL).all fun r=>r.all L.flat)=true:=by
  rw [List.all_eq_true];intro r hr
  obtain ⟨q,_,rfl⟩:=List.mem_map.1 hr
  rfl
 have e4:((qs.map reqL).all fun r=>decide (r.length=6))=true:=by
  rw [List.all_eq_true];intro r hr
  obtain ⟨q,_,rfl⟩:=List.mem_map.1 hr
  rfl
 have e5:(qs.map reqL).take i++(qs.map reqL).drop (i+1)=(qs.take i++qs.drop (i+1)).map reqL:=by simp
 have hk:deleteK [.own false [.sl (qs.map reqL)],.v m false [.int .i64 i],.v m' false [.int .i64 ((i:Int)+1)]]=some { rs:=[.v (delM ((qs.take i++qs.drop (i+1)).map reqL)) false [.sl ((qs.take i++qs.drop (i+1)).map reqL)]],outs:=[] }:=by
  unfold deleteK
  dsimp only
  rw [if_pos ⟨by omega,by omega,e2,e3,e4⟩,Int.toNat_natCast,e1,e5]
 rw [ev_eq]
 simpa using hk
theorem delM_two (qs:List (List L)):delM qs=.own∨delM qs=.ro:=by
 cases qs
 ·exact .inr rfl
 ·exact .inl rfl
theorem ev_give (me:M) (w:WorldT) (h:WorldP w) (e:EvT) (k9:e.kind=9) :
  ∃ mz,(mz=.own∨mz=.ro)∧ev E 53 [.ptr .own (worldL w),.v me true (evL e)]=some { rs:=[.v .own false [.str []],.v .own false [.int .i64 (giveW w e.pos).2]],outs:=[(mz,worldL (giveW w e.pos).1)] }:=by
 have hN:=h.lateN
 unfold giveW
 cases e1:ltI e.pos 0
 case true =>
  refine ⟨.own,.inl rfl,?_⟩
  rw [ev_fn Tryz.f53 rfl Tryz.func53 rfl rfl rfl (Nat.le_of_ble_eq_true rfl)]
  simp [k9,e1]
 cases e2:ltI e.pos w.late.length
 case false =>
  refine ⟨.own,.inl rfl,?_⟩
  rw [ev_fn Tryz.f53 rfl Tryz.func53 rfl rfl rfl (Nat.le_of_ble_eq_true rfl)]
  simp [k9,e1,e2]
 have g1:=ltI_not.1 e1
 have g2:=ltI_iff.1 e2
 obtain ⟨i,hi⟩:∃ i:Nat,e.pos=i:=⟨e.pos.toNat,by omega⟩
 have hil:i<w.late.length:=by omega
 have hq:w.late.getD i ⟨0,0,0,0,0,[]⟩=w.late[i]:=by simp [hil]
 have hqd:(w.late[i]).data.length≤4000000:=by
  have:=(h.late _ (List.getElem_mem hil)).1
  have:=wrOk_len this.wr
  omega
 have c1:=fun m m' hm=>ev_impl_StoreDo m m' hm w.st w.late[i] h.st.bd hqd
 rw [if_pos (storeOk_iff.2 h.st)] at c1
 have c2:=fun m m'=>ev_Delete m m' w.late i hil
 have hw:IntKind.i64.wrap ((i:Int)+1)=(i:Int)+1:=wrap64 (by omega)
 refine ⟨_,delM_two ((w.late.take i++w.late.drop (i+1)).map reqL),?_⟩
 have hmz:=delM_two ((w.late.take i++w.late.drop (i+1)).map reqL)
 rw [if_neg (by simp),hi,Int.toNat_natCast,hq]
 generalize delM ((w.late.take i++w.late.drop (i+1)).map reqL)=mz at *
 generalize w.late.take i++w.late.drop (i+1)=ys at *
 simp only [rSt] at c1
 generalize storeDo w.st w.late[i]=z at *
 have e1':ltI (i:Int) 0=false:=by rw [← hi];exact e1
 have e2':ltI (i:Int) w.late.length=true:=by rw [← hi];exact e2
 rw [ev_fn Tryz.f53 rfl Tryz.func53 rfl rfl rfl (Nat.le_of_ble_eq_true rfl)]
 rcases hmz with rfl | rfl<;>simp [k9,hi,e1',e2',hil,c1,c2,hw]
end Go.Ev

