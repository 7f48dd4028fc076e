/- My texts joined: EvT95. No condition. -/
import Derived.Test.YtngbcdcghbapnaaGreatDoorEs9
set_option linter.unusedVariables false
set_option linter.unusedSimpArgs false

set_option maxRecDepth 100000
set_option maxHeartbeats 8000000
namespace Go.Ev
open Go.Proofs
theorem drawn_w (bs:Bs) (hb:bs.length≤2000):∃ (w0:WorldT) (p0:Nat) (m:M) (w:WorldT) (p:Nat),WorldP w0∧OwRo m∧WorldK 11000 2 w∧(w.st.last.length=3)∧p0≤20000∧p≤30000 ∧
  ev E 50 [rdA bs 0]=some { rs:=[.v .own true (worldL w0)],outs:=[rdO bs p0] } ∧
  ev E 49 [rdA bs p0,.v .tn true (worldL w0)]=some { rs:=[.v m true (worldL w)],outs:=[rdO bs p] }:=by
 obtain ⟨w0,p0,h0,hp0,c1⟩:=ev_l7Some bs 0 ⟨hb,by omega⟩ (by omega)
 obtain ⟨_,c2,m,w,p,hm,hK,hl,hp,rfl⟩:=ev_l7Bent .tn rfl w0 10000 3 (by omega) (by omega) (by omega) h0.k h0.st.last bs p0 ⟨hb,by omega⟩ (by omega)
 exact ⟨w0,p0,m,w,p,h0,hm.o,hK.mono (by omega),hl (storeOk_iff.2 h0.st),by omega,by omega,c1,c2⟩
end Go.Ev

