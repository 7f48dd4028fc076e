/- My texts joined: EvT103. No condition. -/
import Derived.Test.YtngbcdcghbapnaaGreatDoorEs21
import Derived.Test.YtngbcdcghbapnaaGreatDoorEs28
set_option linter.unusedVariables false
set_option linter.unusedSimpArgs false

set_option maxRecDepth 100000
set_option maxHeartbeats 8000000
namespace Go.Ev
open Go.Proofs
theorem text_len {w:WorldT}:(if worldOk w=true then w.text else []).length≤48:=by
 split
 ·rename_i h
  rw [(worldOk_iff.1 h).textGet.1]
  exact Nat.le_refl _
 ·simp
theorem law_FnExactWorldText (a:WorldT) (ha:worldM a):ev E 13 [.v .ro true (worldL a)]=some (rB true):=by
 have c1:=fun m m' hm=>ev_szWorld m m' hm a 1048576 (by omega) ha
 cases e1:ltI (1048576 - (worldSz a:Nat)) 0
 case true =>
  rw [less_neg e1] at c1
  rw [ev_fn Tryz.f13 rfl Tryz.func13 rfl rfl rfl (Nat.le_of_ble_eq_true rfl)]
  simp [c1]
 rw [less_pos e1] at c1
 have g1:=ltI_not.1 e1
 have A:=worldB_of (w:=a) (n:=1048576) (by omega) (by omega)
 have C:=worldC_of (w:=a) (n:=1048576) (by omega) (by omega)
 have c3:=fun m hm=>ev_toWorld m hm a A
 have c5:=fun m hm=>ev_sText m hm a C
 have c6:=fun m hm=>ev_iText m hm a C
 have c7:=fun m m' hm hm'=>ev_eqWorld m m' hm hm' a A
 have hl:=text_len (w:=a)
 generalize (if worldOk a=true then a.text else [])=r at *
 rw [ev_fn Tryz.f13 rfl Tryz.func13 rfl rfl rfl (Nat.le_of_ble_eq_true rfl)]
 simp [c1,c3,c5,c6,c7,e1]
end Go.Ev

