/- My texts joined: EvT95. No condition. -/
import Derived.Test.YtngbcdcghbapnaaGreatDoorEs10
set_option linter.unusedVariables false
set_option linter.unusedSimpArgs false

set_option maxRecDepth 100000
set_option maxHeartbeats 8000000
namespace Go.Ev
open Go.Proofs
theorem ev_DrawWorldDo (bs:Bs):∃ (m:M) (w:WorldT) (e:EvT),OwRo m∧WorldC w∧e.data.length≤300∧ev E 15 [.v .ro false [.sl (rowsOfBytes bs)]]=some { rs:=[.v m true (worldL w),.v .own true (evL e)],outs:=[] }:=by
 have c0:=ev_l10Open bs
 have hb:(bs.take 2000).length≤2000:=by simp;omega
 generalize bs.take 2000=b2 at c0 hb
 obtain ⟨w0,p0,m,w,p,h0,hm,hK,hl,hp0,hp,c1,c2⟩:=drawn_w b2 hb
 have C:=hK.c (by omega)
 rcases hm with rfl | rfl | rfl
 ·obtain ⟨_,c3,e,p',he,hp',_,rfl⟩:=ev_l7Ev .tn rfl w C.toWorldB b2 p ⟨hb,by omega⟩ (by omega)
  refine ⟨.own,w,e,.inl rfl,C,he,?_⟩
  rw [ev_fn Tryz.f15 rfl Tryz.func15 rfl rfl rfl (Nat.le_of_ble_eq_true rfl)]
  simp [c0,c1,c2,c3]
 ·obtain ⟨_,c3,e,p',he,hp',_,rfl⟩:=ev_l7Ev .ro rfl w C.toWorldB b2 p ⟨hb,by omega⟩ (by omega)
  refine ⟨.ro,w,e,.inr (.inl rfl),C,he,?_⟩
  rw [ev_fn Tryz.f15 rfl Tryz.func15 rfl rfl rfl (Nat.le_of_ble_eq_true rfl)]
  simp [c0,c1,c2,c3]
 ·obtain ⟨_,c3,e,p',he,hp',_,rfl⟩:=ev_l7Ev .tn rfl w C.toWorldB b2 p ⟨hb,by omega⟩ (by omega)
  refine ⟨.tn,w,e,.inr (.inr rfl),C,he,?_⟩
  rw [ev_fn Tryz.f15 rfl Tryz.func15 rfl rfl rfl (Nat.le_of_ble_eq_true rfl)]
  simp [c0,c1,c2,c3]
end Go.Ev

