/- My texts joined: EvT96. No condition. -/
import Derived.Test.YtngbcdcghbapnaaGreatDoorEn31
set_option linter.unusedVariables false
set_option linter.unusedSimpArgs false

set_option maxRecDepth 100000
set_option maxHeartbeats 8000000
namespace Go.Ev
open Go.Proofs
theorem lp_l7Text1 (m:M) (hm:m.isOwn=false) (w:WorldT) (i:Nat) (hi:i<w.owns.length) (hd:∀ d∈w.owns[i].d,0≤d.1∧d.1<d.2∧d.2≤48) (hN:w.owns[i].d.length≤4000000) (ht:w.owns[i].t.length=48) (a:Code) (ha:a=lp Tryz.f73 1):∀ (n k:Nat) (m0:M) (s:Bs),k+n=w.owns[i].d.length→s.length=48 →
  ∃ m0',loopC E (ev E) 73 a { V:=[(1,adc 1),(3,.v m0 false [.str s]),(4,vi i),(5,vi k)],H:=[bxm (.c 1) m (worldL w)],ps:=[] } =
   some (.exit 2,{ V:=[(1,adc 1),(3,.v m0' false [.str (overAll w.owns[i].t (w.owns[i].d.drop k) s)]),(4,vi i),(5,vi w.owns[i].d.length),(24,vb false)],H:=[bxm (.c 1) m (worldL w)],ps:=[] })
 | 0,k,m0,s,h,hs=>by
  refine ⟨m0,?_⟩
  rw [loopC_of _ _ _ _ ha]
  obtain rfl:k=w.owns[i].d.length:=by omega
  simp [lp,loopsOf,Tryz.f73,overAll,hm,hi]
 | n+1,k,m0,s,h,hs=>by
  have hlt:k<w.owns[i].d.length:=by omega
  have hw:=wrapN k (by omega)
  have h0:=hd _ (List.getElem_mem hlt)
  have hov:(overS s w.owns[i].d[k] (subS w.owns[i].t w.owns[i].d[k])).length=48:=by
   have:=overAll_len w.owns[i].t [w.owns[i].d[k]] s (fun d hd=>by rw [List.mem_singleton.1 hd];exact h0) ht hs
   simpa [overAll] using this
  obtain ⟨m0',ih⟩:=lp_l7Text1 m hm w i hi hd hN ht a ha n (k+1) .own _ (by omega) hov
  refine ⟨m0',?_⟩
  push_cast at ih
  have hsl:(subS w.owns[i].t w.owns[i].d[k]).length≤4000000:=by simp [subS];omega
  have c1:=fun m m' m''=>ev_l6Over m m' m'' s (subS w.owns[i].t w.owns[i].d[k]) w.owns[i].d[k] (by omega) (by omega) (by omega) (by omega) (by omega) hsl
  rw [loopC_of _ _ _ _ ha,List.drop_eq_getElem_cons hlt,overAll]
  clear ha hov hsl
  have q1:w.owns[i].d[k].1≤(w.owns[i].d[k].2.toNat:Int):=by omega
  have q3:w.owns[i].d[k].1.toNat≤w.owns[i].d[k].2.toNat:=by omega
  have q4:max w.owns[i].d[k].2 0=w.owns[i].d[k].2:=by omega
  have q5:0≤w.owns[i].d[k].2:=by omega
  have q6:w.owns[i].d[k].1≤w.owns[i].d[k].2:=by omega
  simp only [subS] at c1 ih ⊢
  simp [lp,loopsOf,Tryz.f73,hm,hi,hlt,hw,ht,h0,c1,q1,q3,q4,q5,q6]
  exact ih
theorem lp_l7Text0 (m:M) (hm:m.isOwn=false) (w:WorldT) (hw3:w.owns.length=3) (hok:∀ i,i<3→(w.own i).ok=true) (a:Code) (ha:a=lp Tryz.f73 0):∀ (n i:Nat) (m0:M) (s:Bs),i+n=w.owns.length→s.length=48 →
  ∃ m0',loopC E (ev E) 73 a { V:=[(1,adc 1),(3,.v m0 false [.str s]),(4,vi i)],H:=[bxm (.c 1) m (worldL w)],ps:=[] } =
   some (.exit 0,{ V:=[(1,adc 1),(3,.v m0' false [.str (textF (w.owns.drop i) s)]),(4,vi w.owns.length),(13,vb false)],H:=[bxm (.c 1) m (worldL w)],ps:=[] })
 | 0,i,m0,s,h,hs=>by
  refine ⟨m0,?_⟩
  rw [loopC_of _ _ _ _ ha]
  obtain rfl:i=w.owns.length:=by omega
  simp [lp,loopsOf,Tryz.f73,textF,hm]
 | n+1,i,m0,s,h,hs=>by
  have hi:i<w.owns.length:=by omega
  have hwr:=wrapN i (by omega)
  have ok:=hok i (by omega)
  rw [show w.own i=w.owns[i] from getD_lt _ hi] at ok
  have b:=ownOk_bd ok
  have hd:=spsOk_sp b.2.2.1
  have hN:=spsOk_len b.2.2.1
  have hov:=overAll_len w.owns[i].t w.owns[i].d s (fun d hq=>hd d hq) b.1 hs
  obtain ⟨m1,l1⟩:=lp_l7Text1 m hm w i hi (fun d hq=>hd d hq) (by omega) b.1 _ rfl w.owns[i].d.length 0 m0 s (by omega) hs
  obtain ⟨m0',ih⟩:=lp_l7Text0 m hm w hw3 hok a ha n (i+1) m1 _ (by omega) hov
  refine ⟨m0',?_⟩
  push_cast at ih l1
  simp only [List.drop_zero] at l1
  rw [loopC_of _ _ _ _ ha,List.drop_eq_getElem_cons hi,textF]
  clear ha
  simp [lp,loopsOf,Tryz.f73,hm,hi]
  rw [loopC_at ?_ l1]
  ·simp [hwr,hm]
   exact ih
  ·rfl
theorem ev_l7Text (m:M) (hm:m.isOwn=false) (w:WorldT) (h:WorldP w):ev E 73 [.v m true (worldL w)]=some { rs:=[.v .own false [.str w.text]],outs:=[] }:=by
 have c1:=fun m hm=>ev_l7File m hm w (layOk_iff.2 h.lay) h.st.now
 obtain ⟨m0',l0⟩:=lp_l7Text0 m hm w h.owns h.own _ rfl w.owns.length 0 .own w.file (by omega) (file_len w)
 push_cast at l0
 simp only [List.drop_zero] at l0
 unfold WorldT.text
 generalize textF w.owns w.file=r at *
 rw [ev_fn Tryz.f73 rfl Tryz.func73 rfl rfl rfl (Nat.le_of_ble_eq_true rfl)]
 simp [hm,c1]
 rw [loopC_at ?_ l0]
 ·simp
 ·rfl
theorem ev_sText (m:M) (hm:m.isOwn=false) (w:WorldT) (C:WorldC w):ev E 26 [.v m true (worldL w)]=some { rs:=[.v .own false [.str (if worldOk w=true then w.text else [])]],outs:=[] }:=by
 have c0:=fun m hm=>ev_spec_WorldOk m hm w C
 cases e:worldOk w
 ·rw [ev_fn Tryz.f26 rfl Tryz.func26 rfl rfl rfl (Nat.le_of_ble_eq_true rfl)]
  simp [c0,e,hm]
 ·have h:=worldOk_iff.1 e
  have c1:=fun m hm=>ev_l7Text m hm w h
  rw [ev_fn Tryz.f26 rfl Tryz.func26 rfl rfl rfl (Nat.le_of_ble_eq_true rfl)]
  simp [c0,c1,e,hm]
end Go.Ev

