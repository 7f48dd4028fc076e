/- My texts joined: EvW6, EvW7. No condition. -/
import Derived.Test.YtngbcdcghbapnaaGreatDoorEn18
set_option linter.unusedVariables false
set_option linter.unusedSimpArgs false

namespace Go.Ev
theorem text_eq {w x:WorldT} (hw:WorldP w) (hx:WorldP x) (h:∀ j,j<48→x.see j=w.see j):x.text=w.text:=by
 obtain ⟨a1,a2⟩:=hw.textGet
 obtain ⟨b1,b2⟩:=hx.textGet
 refine List.ext_getElem (b1.trans a1.symm) fun j g1 g2=>?_
 have:=(b2 j (by omega)).trans ((h j (by omega)).trans (a2 j (by omega)).symm)
 rwa [List.getD_eq_getElem?_getD,List.getD_eq_getElem?_getD,List.getElem?_eq_getElem g1,List.getElem?_eq_getElem g2] at this
end Go.Ev


namespace Go.Ev
theorem WriteR.text_eq {w x:WorldT} {i lo:Nat} {data:Bs} (hw:WorldP w) (hi:i<3) (R:WriteR w i lo data x):x.text=wrS w.text lo data:=by
 obtain ⟨a1,a2⟩:=hw.textGet
 obtain ⟨b1,b2⟩:=R.ok.textGet
 have hwl:=(wrOk_len R.wr).2.1
 refine List.ext_getElem? fun j=>?_
 rw [wrS_get]
 by_cases hj:j<48
 ·have e1:x.text[j]?=some (x.text.getD j 0):=by rw [List.getD_eq_getElem?_getD,List.getElem?_eq_getElem (by omega)];rfl
  have e2:w.text[j]?=some (w.text.getD j 0):=by rw [List.getD_eq_getElem?_getD,List.getElem?_eq_getElem (by omega)];rfl
  rw [e1,b2 j hj,R.see hw hi hj]
  by_cases hc:lo≤j∧j<lo+data.length
  ·rw [if_pos hc,if_pos hc,List.getD_eq_getElem?_getD,List.getElem?_eq_getElem (by omega)];rfl
  ·rw [if_neg hc,if_neg hc,if_pos (by omega),e2,a2 j hj]
 ·rw [List.getElem?_eq_none (by omega),if_neg (by omega),if_neg (by omega),if_neg (by omega)]
end Go.Ev

