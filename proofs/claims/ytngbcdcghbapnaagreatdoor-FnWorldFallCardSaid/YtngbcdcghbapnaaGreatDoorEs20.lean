/- My texts joined: EvT95. No condition. -/
import Derived.Test.YtngbcdcghbapnaaGreatDoorEs10
set_option linter.unusedVariables false
set_option linter.unusedSimpArgs false

set_option maxRecDepth 100000
set_option maxHeartbeats 8000000
namespace Go.Ev
open Go.Proofs
theorem ev_DrawWorldText (bs:Bs):∃ (m:M) (w:WorldT),OwRo m∧WorldC w∧ev E 20 [.v .ro false [.sl (rowsOfBytes bs)]]=some { rs:=[.v m true (worldL w)],outs:=[] }:=by
 have c0:=ev_l10Open bs
 have hb:(bs.take 2000).length≤2000:=by simp;omega
 generalize bs.take 2000=b2 at c0 hb
 obtain ⟨w0,p0,m,w,p,h0,hm,hK,hl,hp0,hp,c1,c2⟩:=drawn_w b2 hb
 refine ⟨m,w,hm,hK.c (by omega),?_⟩
 rw [ev_fn Tryz.f20 rfl Tryz.func20 rfl rfl rfl (Nat.le_of_ble_eq_true rfl)]
 rcases hm with rfl | rfl | rfl<;>simp [c0,c1,c2]
end Go.Ev

