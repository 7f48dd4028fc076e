/- My texts joined: EvT95. No condition. -/
import Derived.Test.YtngbcdcghbapnaaGreatDoorEs10
set_option linter.unusedVariables false
set_option linter.unusedSimpArgs false

set_option maxRecDepth 100000
set_option maxHeartbeats 8000000
namespace Go.Ev
open Go.Proofs
theorem ev_DrawWorldOk (bs:Bs):∃ (m:M) (w:WorldT),OwRo m∧WorldC w∧ev E 27 [.v .ro false [.sl (rowsOfBytes bs)]]=some { rs:=[.v m true (worldL w)],outs:=[] }:=by
 have c0:=ev_l10Open bs
 have hb:(bs.take 2000).length≤2000:=by simp;omega
 generalize bs.take 2000=b2 at c0 hb
 obtain ⟨w0,p0,m,w,p,h0,hm,hK,hl,hp0,hp,c1,c2⟩:=drawn_w b2 hb
 rcases hm with rfl | rfl | rfl
 ·obtain ⟨_,c3,m',w',p',hm',hK',_,hp',rfl⟩:=ev_l7Bent .tn rfl w 11000 2 (by omega) (by omega) (by omega) hK hl b2 p ⟨hb,by omega⟩ (by omega)
  refine ⟨m',w',hm'.o,hK'.c (by omega),?_⟩
  rw [ev_fn Tryz.f27 rfl Tryz.func27 rfl rfl rfl (Nat.le_of_ble_eq_true rfl)]
  rcases hm' with rfl | rfl<;>simp [c0,c1,c2,c3]
 ·obtain ⟨_,c3,m',w',p',hm',hK',_,hp',rfl⟩:=ev_l7Bent .ro rfl w 11000 2 (by omega) (by omega) (by omega) hK hl b2 p ⟨hb,by omega⟩ (by omega)
  refine ⟨m',w',hm'.o,hK'.c (by omega),?_⟩
  rw [ev_fn Tryz.f27 rfl Tryz.func27 rfl rfl rfl (Nat.le_of_ble_eq_true rfl)]
  rcases hm' with rfl | rfl<;>simp [c0,c1,c2,c3]
 ·obtain ⟨_,c3,m',w',p',hm',hK',_,hp',rfl⟩:=ev_l7Bent .tn rfl w 11000 2 (by omega) (by omega) (by omega) hK hl b2 p ⟨hb,by omega⟩ (by omega)
  refine ⟨m',w',hm'.o,hK'.c (by omega),?_⟩
  rw [ev_fn Tryz.f27 rfl Tryz.func27 rfl rfl rfl (Nat.le_of_ble_eq_true rfl)]
  rcases hm' with rfl | rfl<;>simp [c0,c1,c2,c3]
end Go.Ev

