/- My texts joined: EvT67, EvW11, EvT68, EvT69, EvT70. No condition. -/
import Derived.Test.YtikmfpdfippjhaaGreatDoorEn12
import Derived.Test.YtikmfpdfippjhaaGreatDoorEn13
set_option linter.unusedVariables false
set_option linter.unusedSimpArgs false

set_option maxRecDepth 100000
set_option maxHeartbeats 4000000
namespace Go.Ev
open Go.Proofs
theorem ofL_congr {f g:Nat→Bool} (h:∀ j,j<48→f j=g j):ofL f 48 0 []=ofL g 48 0 []:=(spans_of (f:=f) (g:=f) fun _ _=>rfl).symm.trans (spans_of h)
theorem ofL_len48 (f:Nat→Bool):(ofL f 48 0 []).length≤48:=by
  have:=ofL_len f 48 0 []
  simpa using this
def orV (w:Nat→Bool):Nat→Nat→(Nat→Bool)→(Nat→Bool)
  | 0,_,f=>f
  | n+1,i,f=>orV w n (i+1) (updB f i (f i || w i))
theorem orV_get (w:Nat→Bool):∀ (n i:Nat) (f:Nat→Bool) (j:Nat),orV w n i f j=if i≤j∧j<i+n then f j || w j else f j
  | 0,i,f,j=>by rw [orV,if_neg (by omega)]
  | n+1,i,f,j=>by
    rw [orV,orV_get w n (i+1)]
    by_cases e:j=i
    · subst e
      rw [if_neg (by omega),if_pos (by omega)]
      simp [updB]
    · have:updB f i (f i || w i) j=f j:=by simp [updB,e]
      rw [this]
      by_cases h:i+1≤j∧j<i+1+n
      · rw [if_pos h,if_pos (by omega)]
      · rw [if_neg h,if_neg (by omega)]
def lessF:List Sp→List Sp→List Sp
  | x,[]=>x
  | x,s::b=>lessF (cutS x s) b
theorem lessF_of:∀ (b:List Sp) (f:Nat→Bool),lessF (ofL f 48 0 []) b=ofL (fun j=>f j&&!inF b j) 48 0 []
  | [],f=>by
    rw [lessF]
    exact ofL_congr fun j _=>by simp [inF]
  | s::b,f=>by
    rw [lessF,cutS,lessF_of b]
    exact ofL_congr fun j hj=>by
      have:(ofL f 48 0 []).any (inSp j)=f j:=of_get f hj
      rw [this]
      have e:inF (s::b) j=(inSp j s || inF b j):=rfl
      rw [e]
      cases inSp j s<;>cases f j<;>cases inF b j<;>rfl
theorem lp_l4Without (m:M) (bs:List Sp) (hb:bs.length≤4000000) (hbs:∀ s∈bs,0≤s.1∧s.1<s.2∧s.2≤48) (a:Code) (ha:a=lp Tryz.f207 0):∀ (n i:Nat) (x:List Sp),i+n=bs.length→x.length≤4000000 →
    loopC E (ev E) 207 a { V:=[(1,.v m false [.sl (bs.map spL)]),(5,at1 5),(6,vi i)],H:=[ow (.c 5) [.sl (x.map spL)]],ps:=[] } =
      some (.exit 0,{ V:=[(1,.v m false [.sl (bs.map spL)]),(5,at1 5),(6,vi bs.length),(13,vb false)],H:=[ow (.c 5) [.sl ((lessF x (bs.drop i)).map spL)]],ps:=[] })
  | 0,i,x,h,hx=>by
    rw [loopC_of _ _ _ _ ha]
    obtain rfl:i=bs.length:=by omega
    simp [lp,loopsOf,Tryz.f207,lessF]
  | n+1,i,x,h,hx=>by
    have hlt:i<bs.length:=by omega
    have hw:=wrapN i (by omega)
    have hs:=hbs _ (List.getElem_mem hlt)
    have hc:=cutS_len x bs[i]
    have ih:=lp_l4Without m bs hb hbs a ha n (i+1) (cutS x bs[i]) (by omega) (by omega)
    push_cast at ih
    have c1:∀ m m',ev E 166 [.v m false [.sl (x.map spL)],.v m' true (spL bs[i])]=some { rs:=[.v .own false [.sl ((cutS x bs[i]).map spL)]],outs:=[] }:=fun m m'=>ev_spec_l1Cut m m' x bs[i] (by omega) (by omega) (by omega) (by omega)
    rw [loopC_of _ _ _ _ ha,List.drop_eq_getElem_cons hlt,lessF]
    clear ha
    simp [lp,loopsOf,Tryz.f207,hlt,hw,c1]
    simpa using ih
theorem ev_l4Without (m m':M) (xs bs:List Sp) (hx:xs.length≤4000000) (hb:bs.length≤4000000) (hbs:∀ s∈bs,0≤s.1∧s.1<s.2∧s.2≤48) :
    ev E 207 [.v m false [.sl (xs.map spL)],.v m' false [.sl (bs.map spL)]]=some { rs:=[.v .own false [.sl ((ofL (fun j=>inF xs j&&!inF bs j) 48 0 []).map spL)]],outs:=[] }:=by
  have c1:∀ m,ev E 199 [.v m false [.sl (xs.map spL)]]=some { rs:=[.v .own false [.sl (plR (inF xs) 48)]],outs:=[] }:=fun m=>ev_l1Places m xs (by omega)
  have c2:=fun m=>ev_l1Of m (inF xs) 48 (by omega)
  have l0:=lp_l4Without m' bs hb hbs _ rfl bs.length 0 (ofL (inF xs) 48 0 []) (by omega) (by have:=ofL_len48 (inF xs);omega)
  push_cast at l0
  rw [List.drop_zero,lessF_of] at l0
  rw [ev_fn Tryz.f207 rfl Tryz.func207 rfl rfl rfl (Nat.le_of_ble_eq_true rfl)]
  simp [c1,c2]
  rw [loopC_at ?_ l0]
  · simp
  · rfl
theorem ev_spec_LockDrop (m m1 m2:M) (hm:m.isOwn=false) (t:List HoldT) (hb:t.length≤4000000) (hk:∀ h∈t,holdB h) (who:Int) (s:Sp) :
    ev E 206 [.v m false [.sl (t.map holdL)],.v m1 false [.int .i64 who],.v m2 true (spL s)]=some (dropI t who s):=by
  have c1:=fun m hm=>ev_spec_LockOk m hm t hb hk
  have c2:=fun m=>ev_spec_l4Who m who
  have c3:=fun m=>ev_spec_SpanOk m s
  have c4:=fun m hm=>ev_l4Copy m hm t hb hk
  cases e1:lockOk t
  · rw [ev_fn Tryz.f206 rfl Tryz.func206 rfl rfl rfl (Nat.le_of_ble_eq_true rfl)]
    simp [c1,e1,hm,rLk,dropI]
  · cases e2:whoOk who
    · rw [ev_fn Tryz.f206 rfl Tryz.func206 rfl rfl rfl (Nat.le_of_ble_eq_true rfl)]
      simp [c1,c2,c4,e1,e2,hm,rLk,dropI]
    · cases e3:spOk s
      · rw [ev_fn Tryz.f206 rfl Tryz.func206 rfl rfl rfl (Nat.le_of_ble_eq_true rfl)]
        simp [c1,c2,c3,c4,e1,e2,e3,hm,rLk,dropI]
      · have P:=lockOk_iff.1 e1
        have hs:=spOk_iff.1 e3
        obtain ⟨i,hi,rfl⟩:=who_nat e2
        have hlt:i<t.length:=by have:=P.len;omega
        have hB:=hk _ (List.getElem_mem hlt)
        have b1:=hB.1
        have b2:=hB.2
        have l1:=cutS_len t[i].r s
        have l2:=cutS_len t[i].w s
        have c5:∀ m m',ev E 166 [.v m false [.sl (t[i].r.map spL)],.v m' true (spL s)]=some { rs:=[.v .own false [.sl ((cutS t[i].r s).map spL)]],outs:=[] }:=fun m m'=>ev_spec_l1Cut m m' t[i].r s (by omega) (by omega) (by omega) (by omega)
        have c6:∀ m m',ev E 166 [.v m false [.sl (t[i].w.map spL)],.v m' true (spL s)]=some { rs:=[.v .own false [.sl ((cutS t[i].w s).map spL)]],outs:=[] }:=fun m m'=>ev_spec_l1Cut m m' t[i].w s (by omega) (by omega) (by omega) (by omega)
        have c7:=fun m m1 m2 hm hm2=>ev_l4Put m m1 m2 hm hm2 t hb hk i hlt ⟨cutS t[i].r s,cutS t[i].w s⟩ ⟨by dsimp only;omega,by dsimp only;omega⟩
        have hr:dropI t i s=rLk (putL t i ⟨cutS t[i].r s,cutS t[i].w s⟩).1 (putL t i ⟨cutS t[i].r s,cutS t[i].w s⟩).2:=by
          unfold dropI
          rw [e1,e2,e3]
          simp only [Bool.and_self,if_true,Int.toNat_natCast,lockDrop,getD_lt _ hlt]
        rw [hr]
        simp only [rLk] at c7 ⊢
        generalize putL t i ⟨cutS t[i].r s,cutS t[i].w s⟩=z at c7 ⊢
        rw [ev_fn Tryz.f206 rfl Tryz.func206 rfl rfl rfl (Nat.le_of_ble_eq_true rfl)]
        simp [c1,c2,c3,c4,c5,c6,c7,e1,e2,e3,hm,hlt]
theorem lp_sDown (m mt:M) (hm:m.isOwn=false) (t:List (List L)) (h:HoldT) (hb:holdB h) (who:Int) (m1:M) (s:Sp) (hi:Nat) (hs:s.2=hi) (h48:hi≤48) (a:Code) (ha:a=lp Tryz.f205 0):∀ (n i:Nat) (f:Nat→Bool),i+n=hi →
    loopC E (ev E) 205 a { V:=[(0,.v mt false [.sl t]),(1,.v m1 false [.int .i64 who]),(5,adc 5),(8,adc 8),(9,at1 9),(10,vi i)],H:=[bx (.c 5) (spL s),bxm (.c 8) m (holdL h),ow (.c 9) [.sl (plR f 48)]],ps:=[] } =
      some (.exit 0,{ V:=[(0,.v mt false [.sl t]),(1,.v m1 false [.int .i64 who]),(5,adc 5),(8,adc 8),(9,at1 9),(10,vi hi),(37,vb false)],H:=[bx (.c 5) (spL s),bxm (.c 8) m (holdL h),ow (.c 9) [.sl (plR (orV (inF h.w) n i f) 48)]],ps:=[] })
  | 0,i,f,h0=>by
    rw [loopC_of _ _ _ _ ha]
    obtain rfl:i=hi:=by omega
    simp [lp,loopsOf,Tryz.f205,orV,hs]
  | n+1,i,f,h0=>by
    have hlt:i<hi:=by omega
    have hl2:i<48:=by omega
    have hw:=wrapN i (by omega)
    have ih:=lp_sDown m mt hm t h hb who m1 s hi hs h48 a ha n (i+1) (updB f i (f i || inF h.w i)) (by omega)
    push_cast at ih
    have hset:=plR_set f 48 i (f i || inF h.w i) hl2
    have hget:=plR_get f hl2
    have hlen:(plR f 48).length=48:=by simp [plR]
    have c1:∀ m m',ev E 145 [.v m false [.sl (h.w.map spL)],.v m' false [.int .i64 i]]=some (rB (inF h.w i)):=fun m m'=>ev_spec_l1In m m' h.w i (by have:=hb.2;omega)
    rw [loopC_of _ _ _ _ ha,orV]
    clear ha
    cases e1:f i
    · rw [e1,Bool.false_or] at ih hset
      rw [Bool.false_or]
      simp [lp,loopsOf,Tryz.f205,hs,hlt,hw,hl2,hget,hset,hlen,hm,c1,e1]
      simpa using ih
    · rw [e1,Bool.true_or] at ih hset
      rw [Bool.true_or]
      simp [lp,loopsOf,Tryz.f205,hs,hlt,hw,hl2,hget,hset,hlen,hm,c1,e1]
      simpa using ih
theorem ev_spec_LockDown (m m1 m2:M) (hm:m.isOwn=false) (t:List HoldT) (hb:t.length≤4000000) (hk:∀ h∈t,holdB h) (who:Int) (s:Sp) :
    ev E 205 [.v m false [.sl (t.map holdL)],.v m1 false [.int .i64 who],.v m2 true (spL s)]=some (downI t who s):=by
  have c1:=fun m hm=>ev_spec_LockOk m hm t hb hk
  have c2:=fun m=>ev_spec_l4Who m who
  have c3:=fun m=>ev_spec_SpanOk m s
  have c4:=fun m hm=>ev_l4Copy m hm t hb hk
  cases e1:lockOk t
  · rw [ev_fn Tryz.f205 rfl Tryz.func205 rfl rfl rfl (Nat.le_of_ble_eq_true rfl)]
    simp [c1,e1,hm,rLk,downI]
  · cases e2:whoOk who
    · rw [ev_fn Tryz.f205 rfl Tryz.func205 rfl rfl rfl (Nat.le_of_ble_eq_true rfl)]
      simp [c1,c2,c4,e1,e2,hm,rLk,downI]
    · cases e3:spOk s
      · rw [ev_fn Tryz.f205 rfl Tryz.func205 rfl rfl rfl (Nat.le_of_ble_eq_true rfl)]
        simp [c1,c2,c3,c4,e1,e2,e3,hm,rLk,downI]
      · have P:=lockOk_iff.1 e1
        have hs:=spOk_iff.1 e3
        obtain ⟨i,hi,rfl⟩:=who_nat e2
        obtain ⟨a0,b0⟩:=s
        dsimp only at hs
        obtain ⟨lo,rfl⟩:∃ lo:Nat,a0=lo:=⟨a0.toNat,by omega⟩
        obtain ⟨hi',rfl⟩:∃ hi:Nat,b0=hi:=⟨b0.toNat,by omega⟩
        have hlt:i<t.length:=by have:=P.len;omega
        have hB:=hk _ (List.getElem_mem hlt)
        have b1:=hB.1
        have b2:=hB.2
        have l2:=cutS_len t[i].w ((lo:Int),(hi':Int))
        have c5:∀ m,ev E 199 [.v m false [.sl (t[i].r.map spL)]]=some { rs:=[.v .own false [.sl (plR (inF t[i].r) 48)]],outs:=[] }:=fun m=>ev_l1Places m t[i].r (by omega)
        have c6:∀ m m',ev E 166 [.v m false [.sl (t[i].w.map spL)],.v m' true (spL ((lo:Int),(hi':Int)))]=some { rs:=[.v .own false [.sl ((cutS t[i].w ((lo:Int),(hi':Int))).map spL)]],outs:=[] }:=fun m m'=>ev_spec_l1Cut m m' t[i].w ((lo:Int),(hi':Int)) (by omega) (by omega) (by omega) (by omega)
        have hof:ofL (orV (inF t[i].w) (hi' - lo) lo (inF t[i].r)) 48 0 []=ofL (fun j=>inF t[i].r j || (inSp j ((lo:Int),(hi':Int))&&inF t[i].w j)) 48 0 []:=ofL_congr fun j hj=>by
          rw [orV_get]
          have hin:inSp j ((lo:Int),(hi':Int))=true↔lo≤j∧j<lo+(hi' - lo):=by rw [inSp_iff];dsimp only;omega
          by_cases h:lo≤j∧j<lo+(hi' - lo)
          · rw [if_pos h,hin.2 h,Bool.true_and]
          · rw [if_neg h,show inSp j ((lo:Int),(hi':Int))=false by rw [← Bool.not_eq_true,hin];exact h,Bool.false_and,Bool.or_false]
        have c8:=fun m=>ev_l1Of m (orV (inF t[i].w) (hi' - lo) lo (inF t[i].r)) 48 (by omega)
        rw [hof] at c8
        have l1:=ofL_len48 fun j=>inF t[i].r j || (inSp j ((lo:Int),(hi':Int))&&inF t[i].w j)
        have c7:=fun m m1 m2 hm hm2=>ev_l4Put m m1 m2 hm hm2 t hb hk i hlt ⟨ofL (fun j=>inF t[i].r j || (inSp j ((lo:Int),(hi':Int))&&inF t[i].w j)) 48 0 [],cutS t[i].w ((lo:Int),(hi':Int))⟩ ⟨by dsimp only;omega,by dsimp only;omega⟩
        have hr:downI t i ((lo:Int),(hi':Int))=rLk (putL t i ⟨ofL (fun j=>inF t[i].r j || (inSp j ((lo:Int),(hi':Int))&&inF t[i].w j)) 48 0 [],cutS t[i].w ((lo:Int),(hi':Int))⟩).1 (putL t i ⟨ofL (fun j=>inF t[i].r j || (inSp j ((lo:Int),(hi':Int))&&inF t[i].w j)) 48 0 [],cutS t[i].w ((lo:Int),(hi':Int))⟩).2:=by
          unfold downI
          rw [e1,e2,e3]
          simp only [Bool.and_self,if_true,Int.toNat_natCast,lockDown,getD_lt _ hlt]
        rw [hr]
        simp only [rLk] at c7 ⊢
        generalize ofL (fun j=>inF t[i].r j || (inSp j ((lo:Int),(hi':Int))&&inF t[i].w j)) 48 0 []=x at c7 c8 ⊢
        generalize putL t i ⟨x,cutS t[i].w ((lo:Int),(hi':Int))⟩=z at c7 ⊢
        have l0:=fun a ha=>lp_sDown m m hm (t.map holdL) t[i] hB i m1 ((lo:Int),(hi':Int)) hi' rfl (by omega) a ha (hi' - lo) lo (inF t[i].r) (by omega)
        rw [ev_fn Tryz.f205 rfl Tryz.func205 rfl rfl rfl (Nat.le_of_ble_eq_true rfl)]
        simp [c1,c2,c3,c4,c5,e1,e2,e3,hm,hlt]
        rw [l0 _ ?_]
        · simp [c6,c7,c8,hm]
        · rfl
theorem ev_spec_LockGive (m m1 m2 m3:M) (hm:m.isOwn=false) (t:List HoldT) (hb:t.length≤4000000) (hk:∀ h∈t,holdB h) (who:Int) (write:Bool) (s:Sp) :
    ev E 193 [.v m false [.sl (t.map holdL)],.v m1 false [.int .i64 who],.v m2 false [.bool write],.v m3 true (spL s)]=some (giveI t who write s):=by
  have c1:=fun m hm=>ev_spec_LockOk m hm t hb hk
  have c2:=fun m=>ev_spec_l4Who m who
  have c3:=fun m=>ev_spec_SpanOk m s
  have c4:=fun m hm=>ev_l4Copy m hm t hb hk
  cases e1:lockOk t
  · rw [ev_fn Tryz.f193 rfl Tryz.func193 rfl rfl rfl (Nat.le_of_ble_eq_true rfl)]
    simp [c1,e1,hm,rLk,giveI]
  · cases e2:whoOk who
    · rw [ev_fn Tryz.f193 rfl Tryz.func193 rfl rfl rfl (Nat.le_of_ble_eq_true rfl)]
      simp [c1,c2,c4,e1,e2,hm,rLk,giveI]
    · cases e3:spOk s
      · rw [ev_fn Tryz.f193 rfl Tryz.func193 rfl rfl rfl (Nat.le_of_ble_eq_true rfl)]
        simp [c1,c2,c3,c4,e1,e2,e3,hm,rLk,giveI]
      · have P:=lockOk_iff.1 e1
        have hs:=spOk_iff.1 e3
        have c0:=fun m m1 m2 m3 hm=>ev_l4Bars m m1 m2 m3 hm t P.len hk who e2 write s
        obtain ⟨i,hi,rfl⟩:=who_nat e2
        have hlt:i<t.length:=by have:=P.len;omega
        have hB:=hk _ (List.getElem_mem hlt)
        have b1:=hB.1
        have b2:=hB.2
        unfold giveI
        rw [e1,e2,e3]
        simp only [Bool.true_and,if_true]
        generalize barsL t i write s=bl at c0 ⊢
        cases e4:eqI bl.length 0
        · have e5:ltI 0 bl.length=true:=by rw [ltI_iff];rw [eqI_not] at e4;omega
          have e6:0<bl.length:=by rw [ltI_iff] at e5;omega
          rw [ev_fn Tryz.f193 rfl Tryz.func193 rfl rfl rfl (Nat.le_of_ble_eq_true rfl)]
          simp [c0,c1,c2,c3,c4,e1,e2,e3,e5,e6,hm,rLk]
        · have e5:bl=[]:=by rw [eqI_iff] at e4;exact List.length_eq_zero_iff.1 (by omega)
          subst e5
          have hwr:=P.w i hi
          rw [getD_lt _ hlt] at hwr
          have hdis:=P.rw i hi
          rw [getD_lt _ hlt] at hdis
          simp only [if_true,lockGive,Int.toNat_natCast,getD_lt _ hlt]
          cases write
          · have l1:=addS_len t[i].r s
            have hof:ofL (fun j=>inF (addS t[i].r s) j&&!inF t[i].w j) 48 0 []=ofL (fun j=>(inSp j s || inF t[i].r j)&&!inF t[i].w j) 48 0 []:=ofL_congr fun j hj=>by rw [addS_get _ _ j hj]
            have c5:∀ m m',ev E 170 [.v m false [.sl (t[i].r.map spL)],.v m' true (spL s)]=some { rs:=[.v .own false [.sl ((addS t[i].r s).map spL)]],outs:=[] }:=fun m m'=>ev_spec_l1Add m m' t[i].r s (by omega) (by omega) (by omega) (by omega)
            have c6:=fun m m'=>ev_l4Without m m' (addS t[i].r s) t[i].w (by omega) b2 (spsOk_sp hwr)
            rw [hof] at c6
            have l2:=ofL_len48 fun j=>(inSp j s || inF t[i].r j)&&!inF t[i].w j
            simp only [Bool.false_eq_true,if_false]
            generalize ofL (fun j=>(inSp j s || inF t[i].r j)&&!inF t[i].w j) 48 0 []=x at c6 l2 ⊢
            have c7:=fun m m1 m2 hm hm2=>ev_l4Put m m1 m2 hm hm2 t hb hk i hlt ⟨x,t[i].w⟩ ⟨by dsimp only;omega,b2⟩
            simp only [rLk] at c7 ⊢
            generalize putL t i ⟨x,t[i].w⟩=z at c7 ⊢
            rw [ev_fn Tryz.f193 rfl Tryz.func193 rfl rfl rfl (Nat.le_of_ble_eq_true rfl)]
            simp [c0,c1,c2,c3,c4,c5,c6,c7,e1,e2,e3,hm,hlt]
          · have l1:=cutS_len t[i].r s
            have l2:=addS_len t[i].w s
            have c5:∀ m m',ev E 166 [.v m false [.sl (t[i].r.map spL)],.v m' true (spL s)]=some { rs:=[.v .own false [.sl ((cutS t[i].r s).map spL)]],outs:=[] }:=fun m m'=>ev_spec_l1Cut m m' t[i].r s (by omega) (by omega) (by omega) (by omega)
            have c6:∀ m m',ev E 170 [.v m false [.sl (t[i].w.map spL)],.v m' true (spL s)]=some { rs:=[.v .own false [.sl ((addS t[i].w s).map spL)]],outs:=[] }:=fun m m'=>ev_spec_l1Add m m' t[i].w s (by omega) (by omega) (by omega) (by omega)
            have c7:=fun m m1 m2 hm hm2=>ev_l4Put m m1 m2 hm hm2 t hb hk i hlt ⟨cutS t[i].r s,addS t[i].w s⟩ ⟨by dsimp only;omega,by dsimp only;omega⟩
            simp only [if_true]
            simp only [rLk] at c7 ⊢
            generalize putL t i ⟨cutS t[i].r s,addS t[i].w s⟩=z at c7 ⊢
            rw [ev_fn Tryz.f193 rfl Tryz.func193 rfl rfl rfl (Nat.le_of_ble_eq_true rfl)]
            simp [c0,c1,c2,c3,c4,c5,c6,c7,e1,e2,e3,hm,hlt]
theorem ev_spec_LockOff (m m1:M) (hm:m.isOwn=false) (t:List HoldT) (hb:t.length≤4000000) (hk:∀ h∈t,holdB h) (who:Int) :
    ev E 151 [.v m false [.sl (t.map holdL)],.v m1 false [.int .i64 who]]=some (if lockOk t=true then (if whoOk who=true then rLk (t.set who.toNat noH) true else rLk t false) else rLk [] false):=by
  have c1:=fun m hm=>ev_spec_LockOk m hm t hb hk
  have c2:=fun m=>ev_spec_l4Who m who
  have c4:=fun m hm=>ev_l4Copy m hm t hb hk
  cases e1:lockOk t
  · rw [ev_fn Tryz.f151 rfl Tryz.func151 rfl rfl rfl (Nat.le_of_ble_eq_true rfl)]
    simp [c1,e1,hm,rLk]
  · cases e2:whoOk who
    · rw [ev_fn Tryz.f151 rfl Tryz.func151 rfl rfl rfl (Nat.le_of_ble_eq_true rfl)]
      simp [c1,c2,c4,e1,e2,hm,rLk]
    · have P:=lockOk_iff.1 e1
      obtain ⟨i,hi,rfl⟩:=who_nat e2
      have hlt:i<t.length:=by have:=P.len;omega
      have c7:=fun m m1 m2 hm hm2=>ev_l4Put m m1 m2 hm hm2 t hb hk i hlt noH ⟨by decide,by decide⟩
      have hp:putL t i noH=(t.set i noH,true):=by
        rw [putL_or,if_pos (lockOk_iff.2 (noH_ok P i))]
      rw [hp] at c7
      have c7:∀ (m m1 m2:M),m.isOwn=false→m2.isOwn=false→ev E 190 [.v m false [.sl (t.map holdL)],.v m1 false [.int .i64 i],.v m2 true [.sl [],.sl []]]=some (rLk (t.set i noH) true):=c7
      rw [ev_fn Tryz.f151 rfl Tryz.func151 rfl rfl rfl (Nat.le_of_ble_eq_true rfl)]
      simp [c1,c2,c7,e1,e2,hm,rLk,noH]
end Go.Ev


namespace Go.Ev
def ownAt (w:WorldT) (i:Nat):Bool:=(w.own i).ok&&(!ltI (w.ep i) (w.st.floors.getD i 0)&&(!ltI 100 (w.ep i)&&(w.live i || sameOwn (w.own i) noO)))
def keptF (w:WorldT):List ReqT→List Int→Bool
  | q::qs,c::cs=>(eqI c 0&&eqI q.epoch (w.ep q.who.toNat))&&keptF w qs cs
  | _,_=>true
def lateAt (w:WorldT) (q:ReqT):Bool:=reqOk q&&ltI q.epoch (w.st.floors.getD q.who.toNat 0)
def heldAt (w:WorldT) (i j:Nat):Bool:=!inF (w.own i).h j || ((inF (w.lock i).w j || (!inF (w.own i).d j&&inF (w.lock i).r j))&&(inF (w.own i).d j || eqI ((w.own i).t.getD j 0).toNat (w.file.getD j 0).toNat))
def countsOk (w:WorldT):Bool:=layOk w.size w.many&&(storeOk w.st&&(lockOk w.locks&&(eqI w.owns.length 3&&(eqI w.epochs.length 3&&(eqI w.alive.length 3&&!ltI 8 w.late.length)))))
def worldOk (w:WorldT):Bool:=countsOk w&&(allTo (ownAt w) 3 0&&(keptF w w.kept (storeAll (storeFall w.st) w.kept).2&&(sameStore (storeAll (storeFall w.st) w.kept).1 w.st&&(w.late.all (lateAt w)&&allTo (fun i=>allTo (heldAt w i) 48 0) 3 0))))
theorem sameOwn_iff {a b:OwnT}:sameOwn a b=true↔a=b:=by
  cases a;cases b
  simp only [sameOwn,Bool.and_eq_true,eqS_iff,decide_eq_true_eq,OwnT.mk.injEq,and_assoc]
theorem eqLI_iff {xs ys:List Int}:eqL eqI xs ys=true↔xs=ys:=by
  rw [eqL_dec (fun x y=>eqI_iff)];simp
theorem eqLS_iff {xs ys:List Bs}:eqL eqS xs ys=true↔xs=ys:=by
  rw [eqL_dec (fun x y=>eqS_iff)];simp
theorem sameStore_iff {a b:StoreT}:sameStore a b=true↔a=b:=by
  cases a;cases b
  simp only [sameStore,Bool.and_eq_true,eqLI_iff,eqLS_iff,StoreT.mk.injEq]
theorem keptF_iff (w:WorldT):∀ (qs:List ReqT) (cs:List Int),cs.length=qs.length→(keptF w qs cs=true↔cs=zeros qs∧∀ q∈qs,q.epoch=w.ep q.who.toNat)
  | [],[],_=>by simp [keptF,zeros]
  | [],c::cs,h=>by simp at h
  | q::qs,[],h=>by simp at h
  | q::qs,c::cs,h=>by
    rw [keptF,Bool.and_eq_true,keptF_iff w qs cs (by simpa using h),Bool.and_eq_true,eqI_iff,eqI_iff]
    simp only [zeros,List.map_cons,List.cons.injEq,List.mem_cons,forall_eq_or_imp]
    exact ⟨fun ⟨⟨a,b⟩,c,d⟩=>⟨⟨a,c⟩,b,d⟩,fun ⟨⟨a,c⟩,b,d⟩=>⟨⟨a,b⟩,c,d⟩⟩
theorem u8_nat {a b:UInt8}:eqI a.toNat b.toNat=true↔a=b:=by
  rw [eqI_iff]
  constructor
  · intro h;exact UInt8.toNat_inj.1 (by omega)
  · intro h;rw [h]
theorem worldOk_iff {w:WorldT}:worldOk w=true↔WorldP w:=by
  simp only [worldOk,countsOk,Bool.and_eq_true,layOk_iff,storeOk_iff,lockOk_iff,eqI3,allTo_iff,keptF_iff w _ _ (storeAll_len _ _),sameStore_iff,List.all_eq_true,Bool.not_eq_true',ltI_not]
  constructor
  · rintro ⟨⟨h1,h2,h3,h4,h5,h6,h7⟩,h8,⟨h9,h10⟩,h11,h12,h13⟩
    refine ⟨h1,h2,h3,h4,h5,h6,by omega,fun i hi=>?_,fun i hi=>?_,fun i hi hd=>?_,Prod.ext h11 h9,h10,fun q hq=>?_,fun i hi j hj hh=>?_⟩
    · have:=h8 i (by omega) (by omega)
      simp only [ownAt,Bool.and_eq_true] at this
      exact this.1
    · have:=h8 i (by omega) (by omega)
      simp only [ownAt,Bool.and_eq_true,Bool.not_eq_true',ltI_not] at this
      exact ⟨this.2.1,this.2.2.1⟩
    · have:=h8 i (by omega) (by omega)
      simp only [ownAt,Bool.and_eq_true,Bool.or_eq_true,hd,Bool.false_eq_true,false_or,sameOwn_iff] at this
      exact this.2.2.2
    · have:=h12 q hq
      simp only [lateAt,Bool.and_eq_true,reqOk_iff,ltI_iff] at this
      exact this
    · have:=h13 i (by omega) (by omega) j (by omega) (by omega)
      simp only [heldAt,hh,Bool.not_true,Bool.false_or,Bool.and_eq_true,Bool.or_eq_true,Bool.not_eq_true',u8_nat,file_getD w hj] at this
      exact this
  · intro h
    refine ⟨⟨h.lay,h.st,h.lk,h.owns,h.epochs,h.alive,by have:=h.lateN;omega⟩,fun i _ hi=>?_,⟨congrArg Prod.snd h.kept,h.keptE⟩,congrArg Prod.fst h.kept,fun q hq=>?_,fun i _ hi j _ hj=>?_⟩
    · have hi:i<3:=by omega
      have he:=h.ep i hi
      simp only [ownAt,Bool.and_eq_true,Bool.not_eq_true',ltI_not,Bool.or_eq_true,sameOwn_iff]
      refine ⟨h.own i hi,he.1,he.2,?_⟩
      cases e:w.live i
      · exact .inr (h.dead i hi e)
      · exact .inl rfl
    · have:=h.late q hq
      simp only [lateAt,Bool.and_eq_true,reqOk_iff,ltI_iff]
      exact this
    · have hj:j<48:=by omega
      simp only [heldAt,Bool.and_eq_true,Bool.or_eq_true,Bool.not_eq_true',u8_nat,file_getD w hj]
      cases e:inF (w.own i).h j
      · exact .inl rfl
      · exact .inr (h.held i (by omega) j hj e)
end Go.Ev


set_option maxRecDepth 100000
set_option maxHeartbeats 4000000
namespace Go.Ev
open Go.Proofs
abbrev layL (size many:Int):List L:=[.int .i64 size,.int .i64 many]
theorem ev_impl_LayOk (m:M) (size many:Int):ev E 45 [.v m true (layL size many)]=some (rB (layOk size many)):=by
  rw [layOk]
  rw [ev_fn Tryz.f45 rfl Tryz.func45 rfl rfl rfl (Nat.le_of_ble_eq_true rfl)]
  cases e1:ltI size 1
  · cases e2:ltI 8 size
    · cases e3:ltI many 1
      · cases e4:ltI 3 many<;>simp [e1,e2,e3,e4]
      · simp [e1,e2,e3]
    · simp [e1,e2]
  · simp [e1]
theorem ev_spec_LayOk (m:M) (size many:Int):ev E 119 [.v m true (layL size many)]=some (rB (layOk size many)):=by
  rw [layOk]
  rw [ev_fn Tryz.f119 rfl Tryz.func119 rfl rfl rfl (Nat.le_of_ble_eq_true rfl)]
  cases e1:ltI size 1
  · cases e2:ltI 8 size
    · cases e3:ltI many 1
      · cases e4:ltI 3 many<;>simp [e1,e2,e3,e4]
      · simp [e1,e2,e3]
    · simp [e1,e2]
  · simp [e1]
structure LayP (sz mn:Nat):Prop where
  s1:1≤sz
  s8:sz≤8
  m1:1≤mn
  m3:mn≤3
theorem LayP.ok {sz mn:Nat} (h:LayP sz mn):layOk sz mn=true:=layOk_iff.2 (by have:=h.s1;have:=h.s8;have:=h.m1;have:=h.m3;omega)
theorem lay_nat {size many:Int} (h:layOk size many=true):∃ sz mn:Nat,size=sz∧many=mn∧LayP sz mn:=by
  have:=layOk_iff.1 h
  exact ⟨size.toNat,many.toNat,by omega,by omega,⟨by omega,by omega,by omega,by omega⟩⟩
theorem obj_lt {sz mn:Nat} (h:LayP sz mn) (j:Nat):objOf sz mn j<mn:=Nat.mod_lt _ h.m1
theorem pos_lt {sz mn:Nat} (h:LayP sz mn) {j:Nat} (hj:j<48):posOf sz mn j<48:=by
  have:=pos_le (j:=j) h.s1 h.m1
  omega
theorem ww {n:Nat} (hn:n≤100000):IntKind.i64.wrap (n:Int)=n:=wrap64 (by omega)
theorem lay_facts {sz mn:Nat} (h:LayP sz mn) (j:Nat) (hj:j≤4000) :
    IntKind.i64.wrap ((j:Int) / (sz:Int))=((j / sz:Nat):Int)∧((j / sz:Nat):Int).tmod (mn:Int)=((j / sz % mn:Nat):Int)∧IntKind.i64.wrap (((j / sz:Nat):Int) / (mn:Int))=((j / sz / mn:Nat):Int) ∧
    IntKind.i64.wrap (((j / sz / mn:Nat):Int)*sz)=((j / sz / mn*sz:Nat):Int)∧(j:Int).tmod (sz:Int)=((j % sz:Nat):Int)∧IntKind.i64.wrap (((j / sz / mn*sz:Nat):Int)+((j % sz:Nat):Int))=((j / sz / mn*sz+j % sz:Nat):Int):=by
  have h8:=h.s8
  have h1:=h.s1
  have q1:j / sz≤j:=Nat.div_le_self _ _
  have q2:j / sz / mn≤j / sz:=Nat.div_le_self _ _
  have q3:j / sz / mn*sz≤j*8:=Nat.mul_le_mul (by omega) h8
  have q4:j % sz<sz:=Nat.mod_lt _ h1
  refine ⟨?_,?_,?_,?_,?_,?_⟩
  · rw [← Int.natCast_ediv];exact ww (by omega)
  · rw [← Int.ofNat_tmod]
  · rw [← Int.natCast_ediv];exact ww (by omega)
  · rw [show ((j / sz / mn:Nat):Int)*(sz:Int)=((j / sz / mn*sz:Nat):Int) from (Int.natCast_mul _ _).symm];exact ww (by omega)
  · rw [← Int.ofNat_tmod]
  · rw [← Int.natCast_add];exact ww (by omega)
theorem ev_LayAt (m m':M) (sz mn j:Nat) (h:LayP sz mn) (hj:j<48):ev E 105 [.v m true (layL sz mn),.v m' false [.int .i64 j]]=some { rs:=[.v .own false [.int .i64 (objOf sz mn j:Nat)],.v .own false [.int .i64 (posOf sz mn j:Nat)]],outs:=[] }:=by
  have c1:=fun m=>ev_impl_LayOk m sz mn
  rw [h.ok] at c1
  obtain ⟨f1,f2,f3,f4,f5,f6⟩:=lay_facts h j (by omega)
  have n1:eqI (sz:Int) 0=false:=eqI_not.2 (by have:=h.s1;omega)
  have n2:eqI (mn:Int) 0=false:=eqI_not.2 (by have:=h.m1;omega)
  have n3:sz≠0:=by have:=h.s1;omega
  have n4:mn≠0:=by have:=h.m1;omega
  have g1:ltI (j:Int) 0=false:=ltI_not.2 (by omega)
  have g2:ltI (j:Int) 48=true:=ltI_iff.2 (by omega)
  have g3:(j:Int)<48:=by omega
  unfold objOf posOf
  generalize hq:j / sz=q at *
  generalize hr:j % sz=r at *
  generalize hq2:q / mn=q2 at *
  generalize hr2:q % mn=r2 at *
  generalize hp:q2*sz=p at *
  rw [ev_fn Tryz.f105 rfl Tryz.func105 rfl rfl rfl (Nat.le_of_ble_eq_true rfl)]
  simp [c1,f1,f2,f3,f4,f5,f6,n1,n2,n3,n4,g1,g2,g3]
theorem ev_l3At (m m':M) (sz mn j:Nat) (h:LayP sz mn) (hj:j<48):ev E 188 [.v m true (layL sz mn),.v m' false [.int .i64 j]]=some { rs:=[.v .own false [.int .i64 (objOf sz mn j:Nat)],.v .own false [.int .i64 (posOf sz mn j:Nat)]],outs:=[] }:=by
  obtain ⟨f1,f2,f3,f4,f5,f6⟩:=lay_facts h j (by omega)
  have n1:eqI (sz:Int) 0=false:=eqI_not.2 (by have:=h.s1;omega)
  have n2:eqI (mn:Int) 0=false:=eqI_not.2 (by have:=h.m1;omega)
  have n3:sz≠0:=by have:=h.s1;omega
  have n4:mn≠0:=by have:=h.m1;omega
  unfold objOf posOf
  generalize hq:j / sz=q at *
  generalize hr:j % sz=r at *
  generalize hq2:q / mn=q2 at *
  generalize hr2:q % mn=r2 at *
  generalize hp:q2*sz=p at *
  rw [ev_fn Tryz.f188 rfl Tryz.func188 rfl rfl rfl (Nat.le_of_ble_eq_true rfl)]
  simp [f1,f2,f3,f4,f5,f6,n1,n2,n3,n4]
theorem byte_eq (w:WorldT) {sz mn:Nat} (h1:w.size=sz) (h2:w.many=mn) {j:Nat} (ho:objOf sz mn j<w.st.now.length):w.byte j=(w.st.now[objOf sz mn j]).getD (posOf sz mn j) 46:=by
  unfold WorldT.byte fileAt
  rw [h1,h2,Int.toNat_natCast,Int.toNat_natCast,getD_lt _ ho]
theorem lp_stored (m:M) (hm:m.isOwn=false) (w:WorldT) (sz mn:Nat) (h1:w.size=sz) (h2:w.many=mn) (P:LayP sz mn) (hn:w.st.now.length=3) (a:Code) (ha:a=lp Tryz.f32 0):∀ (n i:Nat) (out:Bs),i+n=48→out.length=i →
    loopC E (ev E) 32 a { V:=[(1,adc 1),(3,at1 3),(9,vi i)],H:=[bxm (.c 1) m (worldL w),ow (.c 3) [.sl (rowsOfBytes out)]],ps:=[] } =
      some (.exit 0,{ V:=[(1,adc 1),(3,at1 3),(9,vi 48),(10,vb false)],H:=[bxm (.c 1) m (worldL w),ow (.c 3) [.sl (rowsOfBytes (out++(List.range' i n).map w.byte))]],ps:=[] })
  | 0,i,out,h,ho=>by
    rw [loopC_of _ _ _ _ ha]
    obtain rfl:i=48:=by omega
    simp [lp,loopsOf,Tryz.f32]
  | n+1,i,out,h,ho=>by
    have hI:(i:Int)<48:=by omega
    have hw:=wrapN i (by omega)
    have c1:=fun m m'=>ev_LayAt m m' sz mn i P (by omega)
    have o1:=obj_lt P i
    have o2:objOf sz mn i<w.st.now.length:=by have:=P.m3;omega
    have hb:=byte_eq w h1 h2 o2
    have ih:=lp_stored m hm w sz mn h1 h2 P hn a ha n (i+1) (out++[w.byte i]) (by omega) (by simp;omega)
    push_cast at ih
    have z1:out.length+1≤17592186044416:=by omega
    have z2:(rowsOfBytes out).length=out.length:=by simp [rowsOfBytes]
    rw [loopC_of _ _ _ _ ha,List.range'_succ,List.map_cons]
    clear ha
    generalize objOf sz mn i=ob at *
    generalize posOf sz mn i=ps at *
    by_cases e:ps<w.st.now[ob].length
    · have e1:ltI (ps:Int) w.st.now[ob].length=true:=ltI_iff.2 (by omega)
      have hg:w.byte i=w.st.now[ob][ps]:=by rw [hb,getD_lt _ e]
      rw [hg] at ih ⊢
      simp [lp,loopsOf,Tryz.f32,hI,hw,hm,h1,h2,c1,o2,e1,e,z1,z2]
      simpa [rowsOfBytes,hw] using ih
    · have e1:ltI (ps:Int) w.st.now[ob].length=false:=ltI_not.2 (by omega)
      have hg:w.byte i=46:=by rw [hb,List.getD_eq_getElem?_getD,List.getElem?_eq_none (by omega)];rfl
      rw [hg] at ih ⊢
      simp [lp,loopsOf,Tryz.f32,hI,hw,hm,h1,h2,c1,o2,e1,e,z1,z2]
      simpa [rowsOfBytes,hw] using ih
theorem ev_stored (m:M) (hm:m.isOwn=false) (w:WorldT) (hl:layOk w.size w.many=true) (hn:w.st.now.length=3):ev E 32 [.v m true (worldL w)]=some { rs:=[.v .own false [.str w.file]],outs:=[] }:=by
  obtain ⟨sz,mn,h1,h2,P⟩:=lay_nat hl
  have l0:=lp_stored m hm w sz mn h1 h2 P hn _ rfl 48 0 [] (by omega) rfl
  push_cast at l0
  have hf:(List.range' 0 48).map w.byte=w.file:=by rw [← List.range_eq_range'];rfl
  rw [hf,List.nil_append] at l0
  have hbr:=bytes_rows w.file
  have hlen:(rowsOfBytes w.file).length=48:=by simp [rowsOfBytes,file_len]
  have hr0:rowsOfBytes []=[]:=rfl
  rw [hr0] at l0
  rw [ev_fn Tryz.f32 rfl Tryz.func32 rfl rfl rfl (Nat.le_of_ble_eq_true rfl)]
  simp [hm]
  rw [loopC_at ?_ l0]
  · generalize hro:rowsOfBytes w.file=ro at *
    simp [hbr,hlen]
  · rfl
theorem ev_l7Byte (m m':M) (hm:m.isOwn=false) (w:WorldT) (hl:layOk w.size w.many=true) (hn:w.st.now.length=3) (j:Nat) (hj:j<48):ev E 144 [.v m true (worldL w),.v m' false [.int .i64 j]]=some { rs:=[.v .own false [.str [w.byte j]]],outs:=[] }:=by
  obtain ⟨sz,mn,h1,h2,P⟩:=lay_nat hl
  have c1:=fun m m'=>ev_l3At m m' sz mn j P (by omega)
  have o1:=obj_lt P j
  have o2:objOf sz mn j<w.st.now.length:=by have:=P.m3;omega
  have hb:=byte_eq w h1 h2 o2
  have hp:=pos_lt P hj
  generalize objOf sz mn j=ob at *
  generalize posOf sz mn j=ps at *
  have hw:=wrapN ps (by omega)
  by_cases e:ps<w.st.now[ob].length
  · have e1:ltI (ps:Int) w.st.now[ob].length=true:=ltI_iff.2 (by omega)
    have hg:w.byte j=w.st.now[ob][ps]:=by rw [hb,getD_lt _ e]
    have ht:((w.st.now[ob]).take (ps+1)).drop ps=[w.st.now[ob][ps]]:=by
      apply List.ext_getElem?
      intro k
      simp only [List.getElem?_drop,List.getElem?_take]
      cases k with
      | zero=>simp [e]
      | succ k=>simp
    have e2:ps+1≤w.st.now[ob].length:=by omega
    have e3:(0:Int)≤(ps:Int)+1∧(ps:Int)+1≤w.st.now[ob].length:=by omega
    have e4:(ps:Int)≤(ps:Int)+1:=by omega
    rw [hg]
    rw [ev_fn Tryz.f144 rfl Tryz.func144 rfl rfl rfl (Nat.le_of_ble_eq_true rfl)]
    simp [hm,h1,h2,c1,o2,e1,e,e2,e3,e4,hw,ht]
  · have e1:ltI (ps:Int) w.st.now[ob].length=false:=ltI_not.2 (by omega)
    have hg:w.byte j=46:=by rw [hb,List.getD_eq_getElem?_getD,List.getElem?_eq_none (by omega)];rfl
    rw [hg]
    rw [ev_fn Tryz.f144 rfl Tryz.func144 rfl rfl rfl (Nat.le_of_ble_eq_true rfl)]
    simp [hm,h1,h2,c1,o2,e1,e,hw]
theorem lp_l7File (m:M) (hm:m.isOwn=false) (w:WorldT) (hl:layOk w.size w.many=true) (hn:w.st.now.length=3) (a:Code) (ha:a=lp Tryz.f94 0):∀ (n i:Nat) (out:Bs),i+n=48→out.length=i →
    loopC E (ev E) 94 a { V:=[(1,adc 1),(3,.v .ro false [.str out]),(4,vi i)],H:=[bxm (.c 1) m (worldL w)],ps:=[] } =
      some (.exit 0,{ V:=[(1,adc 1),(3,.v .ro false [.str (out++(List.range' i n).map w.byte)]),(4,vi 48),(6,vb false)],H:=[bxm (.c 1) m (worldL w)],ps:=[] })
  | 0,i,out,h,ho=>by
    rw [loopC_of _ _ _ _ ha]
    obtain rfl:i=48:=by omega
    simp [lp,loopsOf,Tryz.f94]
  | n+1,i,out,h,ho=>by
    have hI:(i:Int)<48:=by omega
    have hw:=wrapN i (by omega)
    have c1:=fun m m' hm=>ev_l7Byte m m' hm w hl hn i (by omega)
    have ih:=lp_l7File m hm w hl hn a ha n (i+1) (out++[w.byte i]) (by omega) (by simp;omega)
    push_cast at ih
    have z1:out.length+1≤4611686018427387904:=by omega
    rw [loopC_of _ _ _ _ ha,List.range'_succ,List.map_cons]
    clear ha
    simp [lp,loopsOf,Tryz.f94,hI,hw,hm,c1,z1]
    simpa using ih
theorem ev_l7File (m:M) (hm:m.isOwn=false) (w:WorldT) (hl:layOk w.size w.many=true) (hn:w.st.now.length=3):ev E 94 [.v m true (worldL w)]=some { rs:=[.v .own false [.str w.file]],outs:=[] }:=by
  have l0:=lp_l7File m hm w hl hn _ rfl 48 0 [] (by omega) rfl
  push_cast at l0
  have hf:(List.range' 0 48).map w.byte=w.file:=by rw [← List.range_eq_range'];rfl
  rw [hf,List.nil_append] at l0
  rw [ev_fn Tryz.f94 rfl Tryz.func94 rfl rfl rfl (Nat.le_of_ble_eq_true rfl)]
  simp [hm]
  rw [loopC_at ?_ l0]
  · simp
  · rfl
end Go.Ev


set_option maxRecDepth 100000
set_option maxHeartbeats 4000000
namespace Go.Ev
open Go.Proofs
structure PartT where
  obj:Nat
  lo:Nat
  hi:Nat
  frm:Nat
abbrev partL (p:PartT):List L:=[.int .i64 p.obj,.int .i64 p.lo,.int .i64 p.hi,.int .i64 p.frm]
def partAt (sz mn a e:Nat):PartT:=⟨objOf sz mn a,posOf sz mn a,posOf sz mn a+(e - a),a⟩
def partsF (sz mn hi:Nat):Nat→Nat→List PartT
  | 0,_=>[]
  | n+1,a=>if a<hi then partAt sz mn a (endOf sz a hi)::partsF sz mn hi n (endOf sz a hi) else []
theorem parts_fuel {sz mn hi:Nat} (hs:0<sz):∀ (n m a:Nat),hi≤a+n→hi≤a+m→partsF sz mn hi n a=partsF sz mn hi m a
  | 0,0,a,_,_=>rfl
  | 0,m+1,a,h1,h2=>by rw [partsF,partsF,if_neg (by omega)]
  | n+1,0,a,h1,h2=>by rw [partsF,partsF,if_neg (by omega)]
  | n+1,m+1,a,h1,h2=>by
    rw [partsF,partsF]
    by_cases h:a<hi
    · have:=endOf_gt hs h
      rw [if_pos h,if_pos h,parts_fuel hs n m _ (by omega) (by omega)]
    · rw [if_neg h,if_neg h]
theorem parts_len {sz mn hi:Nat}:∀ (n a:Nat),(partsF sz mn hi n a).length≤n
  | 0,a=>by simp [partsF]
  | n+1,a=>by
    have:=parts_len (sz:=sz) (mn:=mn) (hi:=hi) n (endOf sz a hi)
    rw [partsF]
    split<;>simp<;>omega
theorem end_facts {sz mn:Nat} (P:LayP sz mn) (a hi:Nat) (ha:a<48) (hh:hi≤48) :
    IntKind.i64.wrap (((a / sz:Nat):Int)+1)=((a / sz+1:Nat):Int)∧IntKind.i64.wrap (((a / sz+1:Nat):Int)*sz)=(((a / sz+1)*sz:Nat):Int)∧(if (a / sz+1)*sz<hi then (((a / sz+1)*sz:Nat):Int) else (hi:Int))=(endOf sz a hi:Nat):=by
  have q1:a / sz≤a:=Nat.div_le_self _ _
  have q3:(a / sz+1)*sz≤49*8:=Nat.mul_le_mul (by omega) P.s8
  refine ⟨wrapN _ (by omega),?_,?_⟩
  · rw [show ((a / sz+1:Nat):Int)*(sz:Int)=(((a / sz+1)*sz:Nat):Int) by push_cast;rfl];rw [wrap64]<;>omega
  · unfold endOf
    split<;>omega
theorem lp_LayParts (sz mn lo hi:Nat) (P:LayP sz mn) (hh:hi≤48) (a0:Code) (ha:a0=lp Tryz.f179 0):∀ (n a:Nat) (out:List PartT),hi≤a+n→a≤48→out.length≤a →
    ∃ a',loopC E (ev E) 179 a0 { V:=[(2,adc 2),(3,adc 3),(5,at1 5),(6,vi a)],H:=[bx (.c 2) (layL sz mn),bx (.c 3) [.int .i64 lo,.int .i64 hi],ow (.c 5) [.sl (out.map partL)]],ps:=[] } =
      some (.exit 0,{ V:=[(2,adc 2),(3,adc 3),(5,at1 5),(6,vi a'),(24,vb false)],H:=[bx (.c 2) (layL sz mn),bx (.c 3) [.int .i64 lo,.int .i64 hi],ow (.c 5) [.sl ((out++partsF sz mn hi n a).map partL)]],ps:=[] })
  | 0,a,out,h,h48,ho=>by
    refine ⟨a,?_⟩
    rw [loopC_of _ _ _ _ ha]
    have e1:ltI (a:Int) hi=false:=ltI_not.2 (by omega)
    have e2:¬ ((a:Int)<hi):=by omega
    have e3:¬ (a<hi):=by omega
    simp [lp,loopsOf,Tryz.f179,partsF,e1,e2,e3]
  | n+1,a,out,h,h48,ho=>by
    by_cases hlt:a<hi
    · have hlt48:a<48:=by omega
      obtain ⟨g1,g2,g3⟩:=endOf_gt P.s1 hlt
      obtain ⟨f1,f2,f3,f4,f5,f6⟩:=lay_facts P a (by omega)
      obtain ⟨k1,k2,k3⟩:=end_facts P a hi hlt48 hh
      have hp:=pos_lt P hlt48
      obtain ⟨a',ih⟩:=lp_LayParts sz mn lo hi P hh a0 ha n (endOf sz a hi) (out++[partAt sz mn a (endOf sz a hi)]) (by omega) (by omega) (by simp;omega)
      refine ⟨a',?_⟩
      have c1:=fun m m'=>ev_LayAt m m' sz mn a P hlt48
      have n1:eqI (sz:Int) 0=false:=eqI_not.2 (by have:=P.s1;omega)
      have n3:sz≠0:=by have:=P.s1;omega
      have w1:IntKind.i64.wrap (((posOf sz mn a:Nat):Int)+(endOf sz a hi:Nat))=((posOf sz mn a:Nat):Int)+(endOf sz a hi:Nat):=by rw [wrap64];omega
      have w2:IntKind.i64.wrap (((posOf sz mn a:Nat):Int)+(endOf sz a hi:Nat) - a)=((posOf sz mn a+(endOf sz a hi - a):Nat):Int):=by rw [wrap64]<;>omega
      have z1:(out.length+1)*32≤17592186044416:=by omega
      have z2:out.length+1≤17592186044416:=by omega
      rw [loopC_of _ _ _ _ ha,partsF,if_pos hlt]
      clear ha
      simp only [partAt] at ih ⊢
      generalize objOf sz mn a=ob at *
      generalize posOf sz mn a=ps at *
      generalize endOf sz a hi=e at *
      generalize hq:a / sz=q at *
      generalize hx:(q+1)*sz=x at *
      push_cast at k1 k2
      push_cast at w2
      simp [lp,loopsOf,Tryz.f179,hlt,f1,k1,k2,k3,c1,n1,n3,w1,w2,z1,z2]
      simpa [partL] using ih
    · refine ⟨a,?_⟩
      rw [loopC_of _ _ _ _ ha,partsF,if_neg hlt]
      have e1:ltI (a:Int) hi=false:=ltI_not.2 (by omega)
      simp [lp,loopsOf,Tryz.f179,hlt,e1]
theorem ev_impl_LayParts (m m':M) (sz mn lo hi:Nat) (P:LayP sz mn) (h1:lo<hi) (h2:hi≤48):ev E 179 [.v m true (layL sz mn),.v m' true [.int .i64 lo,.int .i64 hi]]=some { rs:=[.v .own false [.sl ((partsF sz mn hi 48 lo).map partL)]],outs:=[] }:=by
  have c1:=fun m=>ev_impl_LayOk m sz mn
  rw [P.ok] at c1
  have c2:=fun m=>ev_impl_SpanOk m ((lo:Int),(hi:Int))
  have hs:spOk ((lo:Int),(hi:Int))=true:=spOk_iff.2 (by dsimp only;omega)
  rw [hs] at c2
  obtain ⟨a',l0⟩:=lp_LayParts sz mn lo hi P h2 _ rfl 48 lo [] (by omega) (by omega) (by simp)
  simp only [List.nil_append,List.map_nil] at l0
  rw [ev_fn Tryz.f179 rfl Tryz.func179 rfl rfl rfl (Nat.le_of_ble_eq_true rfl)]
  simp [c1,c2]
  rw [loopC_at ?_ l0]
  · simp
  · rfl
theorem lp_sParts (sz mn lo hi:Nat) (P:LayP sz mn) (hh:hi≤48) (a0:Code) (ha:a0=lp Tryz.f204 0):∀ (n p a:Nat) (D:List PartT),p+n=hi→a<p→p≤endOf sz a hi→a<hi→D.length≤a →
    loopC E (ev E) 204 a0 { V:=[(2,adc 2),(3,adc 3),(5,at1 5),(6,vi p)],H:=[bx (.c 2) (layL sz mn),bx (.c 3) [.int .i64 lo,.int .i64 hi],ow (.c 5) [.sl (D.map partL++[partL (partAt sz mn a p)])]],ps:=[] } =
      some (.exit 0,{ V:=[(2,adc 2),(3,adc 3),(5,at1 5),(6,vi hi),(25,vb false)],H:=[bx (.c 2) (layL sz mn),bx (.c 3) [.int .i64 lo,.int .i64 hi],ow (.c 5) [.sl (D.map partL++(partsF sz mn hi 48 a).map partL)]],ps:=[] })
  | 0,p,a,D,h,hap,hpe,hah,hD=>by
    obtain ⟨g1,g2,g3⟩:=endOf_gt P.s1 hah
    rw [loopC_of _ _ _ _ ha,partsF,if_pos hah]
    obtain rfl:p=hi:=by omega
    have he:endOf sz a p=p:=by omega
    have hnil:partsF sz mn p 47 p=[]:=by rw [partsF,if_neg (by omega)]
    rw [he,hnil]
    simp [lp,loopsOf,Tryz.f204]
  | n+1,p,a,D,h,hap,hpe,hah,hD=>by
    have hlt:p<hi:=by omega
    have hlt48:p<48:=by omega
    have hltI:(p:Int)<hi:=by omega
    obtain ⟨g1,g2,g3⟩:=endOf_gt P.s1 hah
    have c1:=fun m m'=>ev_l3At m m' sz mn p P hlt48
    obtain ⟨f1,f2,f3,f4,f5,f6⟩:=lay_facts P p (by omega)
    have hpp:=pos_lt P hlt48
    have hpa:=pos_lt P (j:=a) (by omega)
    have n1:eqI (sz:Int) 0=false:=eqI_not.2 (by have:=P.s1;omega)
    have n3:sz≠0:=by have:=P.s1;omega
    have hw:=wrapN p (by omega)
    have hwp:=wrapN (posOf sz mn p) (by omega)
    have hwD:IntKind.i64.wrap (D.length:Int)=D.length:=by rw [wrap64];omega
    have hget:∀ x:List L,(D.map partL++[x])[D.length]?=some x:=fun x=>by rw [List.getElem?_append_right (by simp)];simp
    have hset:∀ x y:List L,(D.map partL++[x]).set D.length y=D.map partL++[y]:=fun x y=>by rw [List.set_append_right _ _ (by simp)];simp
    by_cases hin:p<endOf sz a hi
    · have hm1:a % sz+(p - a)<sz:=by omega
      have hr:=lay_run (many:=mn) P.s1 (a:=a) (d:=p - a) hm1
      rw [show a+(p - a)=p by omega] at hr
      have hmod:0<p % sz:=by
        have:=lay_run (many:=mn) P.s1 (a:=a) (d:=p - a) hm1
        have b1:=Nat.div_add_mod a sz
        have e1:p % sz=a % sz+(p - a):=by
          have:p=sz*(a / sz)+(a % sz+(p - a)):=by omega
          conv=>lhs;rw [this,Nat.mul_add_mod,Nat.mod_eq_of_lt hm1]
        omega
      have ih:=lp_sParts sz mn lo hi P hh a0 ha n (p+1) a D (by omega) (by omega) (by omega) hah hD
      rw [loopC_of _ _ _ _ ha]
      clear ha
      simp only [partAt] at ih ⊢
      have e3:ltI 0 ((p % sz:Nat):Int)=true:=ltI_iff.2 (by omega)
      have e4:p+1 - a=p - a+1:=by omega
      rw [hr.1,hr.2] at c1
      rw [hr.2] at hwp
      rw [e4] at ih
      push_cast at ih hwp
      generalize objOf sz mn a=ob at *
      generalize posOf sz mn a=ps at *
      generalize partsF sz mn hi 48 a=pf at *
      generalize hrr:p % sz=r at *
      generalize hdd:p - a=d at *
      have hmI:(0:Int)<r:=by omega
      simp [lp,loopsOf,Tryz.f204,hlt,hltI,c1,f5,n1,n3,hw,hwp,hwD,hget,hset,e3,hmod]
      simpa [partL,Int.add_assoc,Nat.add_assoc] using ih
    · have hpe2:p=endOf sz a hi:=by omega
      have hmod:p % sz=0:=by
        have:p=(a / sz+1)*sz:=by unfold endOf at hpe2;omega
        rw [this,Nat.mul_mod_left]
      obtain ⟨j1,j2,j3⟩:=endOf_gt P.s1 hlt
      have ih:=lp_sParts sz mn lo hi P hh a0 ha n (p+1) p (D++[partAt sz mn a p]) (by omega) (by omega) (by omega) hlt (by simp;omega)
      have hpf:(partsF sz mn hi 48 a).map partL=partL (partAt sz mn a p)::(partsF sz mn hi 48 p).map partL:=by
        rw [partsF,if_pos hah,← hpe2,List.map_cons,parts_fuel P.s1 47 48 p (by omega) (by omega)]
      rw [hpf]
      rw [loopC_of _ _ _ _ ha]
      clear ha
      have z1:(D.length+1+1)*32≤17592186044416:=by omega
      have z2:D.length+1+1≤17592186044416:=by omega
      have e4:p+1 - p=1:=by omega
      simp only [partAt] at ih ⊢
      rw [e4] at ih
      push_cast at ih hwp
      rw [hmod] at f5
      generalize objOf sz mn p=ob at *
      generalize posOf sz mn p=ps at *
      generalize objOf sz mn a=ob' at *
      generalize posOf sz mn a+(p - a)=hi' at *
      generalize posOf sz mn a=ps' at *
      generalize partsF sz mn hi 48 p=pf at *
      cases e1:eqI (ob':Int) ob
      · simp [lp,loopsOf,Tryz.f204,hlt,hltI,c1,f5,n1,n3,hw,hwp,hwD,hget,e1,z1,z2]
        simpa [partL] using ih
      · cases e2:eqI (hi':Int) ps
        · simp [lp,loopsOf,Tryz.f204,hlt,hltI,c1,f5,n1,n3,hw,hwp,hwD,hget,e1,e2,z1,z2]
          simpa [partL] using ih
        · simp [lp,loopsOf,Tryz.f204,hlt,hltI,c1,f5,n1,n3,hw,hwp,hwD,hget,e1,e2,z1,z2]
          simpa [partL] using ih
theorem ev_spec_LayParts (m m':M) (sz mn lo hi:Nat) (P:LayP sz mn) (h1:lo<hi) (h2:hi≤48):ev E 204 [.v m true (layL sz mn),.v m' true [.int .i64 lo,.int .i64 hi]]=some { rs:=[.v .own false [.sl ((partsF sz mn hi 48 lo).map partL)]],outs:=[] }:=by
  have c1:=fun m=>ev_spec_LayOk m sz mn
  rw [P.ok] at c1
  have c2:=fun m=>ev_spec_SpanOk m ((lo:Int),(hi:Int))
  have hs:spOk ((lo:Int),(hi:Int))=true:=spOk_iff.2 (by dsimp only;omega)
  rw [hs] at c2
  have c3:=fun m m'=>ev_l3At m m' sz mn lo P (by omega)
  obtain ⟨g1,g2,g3⟩:=endOf_gt P.s1 h1
  have l0:∀ a0,a0=lp Tryz.f204 0→loopC E (ev E) 204 a0 { V:=[(2,adc 2),(3,adc 3),(5,at1 5),(6,vi lo)],H:=[bx (.c 2) (layL sz mn),bx (.c 3) [.int .i64 lo,.int .i64 hi],ow (.c 5) [.sl []]],ps:=[] } =
      some (.exit 0,{ V:=[(2,adc 2),(3,adc 3),(5,at1 5),(6,vi hi),(25,vb false)],H:=[bx (.c 2) (layL sz mn),bx (.c 3) [.int .i64 lo,.int .i64 hi],ow (.c 5) [.sl ((partsF sz mn hi 48 lo).map partL)]],ps:=[] }):=fun a0 ha=>by
    have l1:=lp_sParts sz mn lo hi P h2 a0 ha (hi - (lo+1)) (lo+1) lo [] (by omega) (by omega) (by omega) h1 (by simp)
    have hI:(lo:Int)<hi:=by omega
    have hw:=wrapN lo (by omega)
    have hp:=pos_lt P (j:=lo) (by omega)
    have hwp:=wrapN (posOf sz mn lo) (by omega)
    rw [loopC_of _ _ _ _ ha]
    clear ha
    simp only [partAt,show lo+1 - lo=1 by omega] at l1
    push_cast at l1 hwp
    generalize objOf sz mn lo=ob at *
    generalize posOf sz mn lo=ps at *
    simp [lp,loopsOf,Tryz.f204,h1,hI,c3,hw,hwp]
    simpa [partL] using l1
  rw [ev_fn Tryz.f204 rfl Tryz.func204 rfl rfl rfl (Nat.le_of_ble_eq_true rfl)]
  simp [c1,c2]
  rw [l0 _ ?_]
  · simp
  · rfl
end Go.Ev


set_option maxRecDepth 100000
set_option maxHeartbeats 4000000
namespace Go.Ev
open Go.Proofs
structure PartOk (lo hi:Nat) (p:PartT):Prop where
  frm:lo≤p.frm
  le:p.lo≤p.hi
  top:p.frm+(p.hi - p.lo)≤hi
  bd:p.hi≤200
  h48:hi≤48
theorem parts_ok {sz mn lo hi:Nat} (P:LayP sz mn) (h48:hi≤48):∀ (n a:Nat),lo≤a→∀ p∈partsF sz mn hi n a,PartOk lo hi p
  | 0,a,_=>by simp [partsF]
  | n+1,a,h=>by
    intro p hp
    rw [partsF] at hp
    split at hp
    · rename_i hlt
      obtain ⟨g1,g2,g3⟩:=endOf_gt P.s1 hlt
      have hpp:=pos_lt P (j:=a) (by omega)
      rcases List.mem_cons.1 hp with rfl | hp
      · exact ⟨h,by simp only [partAt];omega,by simp only [partAt];omega,by simp only [partAt];omega,h48⟩
      · exact parts_ok P h48 n _ (by omega) p hp
    · simp at hp
def reqsP (who epoch:Int) (lo:Nat) (x:Bs):List PartT→Int→List ReqT
  | [],_=>[]
  | p::ps,num=>⟨who,epoch,num,p.obj,p.lo,(x.take (p.frm - lo+(p.hi - p.lo))).drop (p.frm - lo)⟩::reqsP who epoch lo x ps (num+1)
theorem reqsP_len (who epoch:Int) (lo:Nat) (x:Bs):∀ (ps:List PartT) (num:Int),(reqsP who epoch lo x ps num).length=ps.length
  | [],num=>rfl
  | p::ps,num=>by simp [reqsP,reqsP_len who epoch lo x ps]
theorem reqsF_P {sz mn:Nat} (hs:0<sz) (who epoch:Int) (lo hi:Nat) (x:Bs):∀ (n a:Nat) (num:Int),lo≤a→reqsF sz mn who epoch lo x hi n a num=reqsP who epoch lo x (partsF sz mn hi n a) num
  | 0,a,num,h=>rfl
  | n+1,a,num,h=>by
    rw [reqsF,partsF]
    by_cases hlt:a<hi
    · obtain ⟨g1,g2,g3⟩:=endOf_gt hs hlt
      rw [if_pos hlt,if_pos hlt,reqsP,reqsF_P hs who epoch lo hi x n _ _ (by omega)]
      simp only [partAt]
      rw [show a - lo+(posOf sz mn a+(endOf sz a hi - a) - posOf sz mn a)=endOf sz a hi - lo by omega]
    · rw [if_neg hlt,if_neg hlt];rfl
def PatOk (q:Pt):Prop:=∃ lo hi:Nat,q.1=lo∧q.2.length=hi - lo∧lo<hi∧hi≤48
theorem pat_ok {t:Bs} {p:Sp} (ht:t.length=48) (hp:0≤p.1∧p.1<p.2∧p.2≤48):∀ (d:List Sp),(∀ s∈d,0≤s.1∧s.1<s.2∧s.2≤48)→∀ q∈patF t p d,PatOk q
  | [],_=>by simp [patF]
  | s::d,hd=>by
    intro q hq
    have hs:=hd s (by simp)
    have hb:=meet_bd hs hp
    rw [patF] at hq
    split at hq
    · rename_i e
      rw [ltI_iff] at e
      rcases List.mem_cons.1 hq with rfl | hq
      · refine ⟨(meetS s p).1.toNat,(meetS s p).2.toNat,by dsimp only;omega,?_,by omega,by omega⟩
        simp only [subS,List.length_drop,List.length_take,ht]
        omega
      · exact pat_ok ht hp d (fun s hs=>hd s (by simp [hs])) q hq
    · exact pat_ok ht hp d (fun s hs=>hd s (by simp [hs])) q hq
structure NumP (w:WorldT) (i:Nat) (ep last:Int):Prop where
  e1:i<w.epochs.length
  e2:w.epochs[i]=ep
  l1:i<w.st.last.length
  l2:w.st.last[i]=last
  l3:0≤last∧last≤1000
  i3:i<3
theorem lp_req1 (m m1:M) (hm:m.isOwn=false) (w:WorldT) (i:Nat) (ep last:Int) (N:NumP w i ep last) (lo hi:Nat) (x:Bs) (hx:x.length=hi - lo) (pz:List PartT) (hps:∀ p∈pz,PartOk lo hi p) (hpl:pz.length≤48) (R:List (List L)) (n1 n2:Int) (a:Code) (ha:a=lp Tryz.f131 1):∀ (n k:Nat) (out:List ReqT),k+n=pz.length→out.length+n≤100000 →
    loopC E (ev E) 131 a { V:=[(1,.v m1 false [.int .i64 i]),(3,adc 3),(7,at1 7),(9,adc 9),(20,at1 20),(21,vi n1),(22,vi n2),(37,at1 37),(38,vi pz.length),(39,vi k)],H:=[bxm (.c 3) m (worldL w),ow (.c 7) [.sl (out.map reqL)],bx (.c 9) [.int .i64 lo,.str x],ow (.c 20) [.sl R],ow (.c 37) [.sl (pz.map partL)]],ps:=[] } =
      some (.exit 2,{ V:=[(1,.v m1 false [.int .i64 i]),(3,adc 3),(7,at1 7),(9,adc 9),(20,at1 20),(21,vi n1),(22,vi n2),(37,at1 37),(38,vi pz.length),(39,vi pz.length),(40,vb false)],H:=[bxm (.c 3) m (worldL w),ow (.c 7) [.sl ((out++reqsP i ep lo x (pz.drop k) (last+out.length+1)).map reqL)],bx (.c 9) [.int .i64 lo,.str x],ow (.c 20) [.sl R],ow (.c 37) [.sl (pz.map partL)]],ps:=[] })
  | 0,k,out,h,ho=>by
    rw [loopC_of _ _ _ _ ha]
    obtain rfl:k=pz.length:=by omega
    simp [lp,loopsOf,Tryz.f131,reqsP]
  | n+1,k,out,h,ho=>by
    have hlt:k<pz.length:=by omega
    have hw:=wrapN k (by omega)
    have ok:=hps _ (List.getElem_mem hlt)
    have ok1:=ok.frm
    have ok2:=ok.le
    have ok3:=ok.top
    have ok4:=ok.bd
    have ok5:=ok.h48
    have ih:=lp_req1 m m1 hm w i ep last N lo hi x hx pz hps hpl R n1 n2 a ha n (k+1) (out++[⟨i,ep,last+out.length+1,pz[k].obj,pz[k].lo,(x.take (pz[k].frm - lo+(pz[k].hi - pz[k].lo))).drop (pz[k].frm - lo)⟩]) (by omega) (by simp;omega)
    push_cast at ih
    obtain ⟨N1,N2,N3,N4,N5,N6⟩:=N
    rw [loopC_of _ _ _ _ ha,List.drop_eq_getElem_cons hlt,reqsP]
    clear ha
    have w1:IntKind.i64.wrap ((pz[k].frm:Int) - lo)=((pz[k].frm - lo:Nat):Int):=by rw [wrap64]<;>omega
    have w2:IntKind.i64.wrap (last+(out.length:Int))=last+out.length:=by rw [wrap64];omega
    have w3:IntKind.i64.wrap (last+(out.length:Int)+1)=last+out.length+1:=by rw [wrap64];omega
    have w4:IntKind.i64.wrap (((pz[k].frm - lo:Nat):Int)+pz[k].hi)=((pz[k].frm - lo:Nat):Int)+pz[k].hi:=by rw [wrap64];omega
    have w5:IntKind.i64.wrap (((pz[k].frm - lo:Nat):Int)+pz[k].hi - pz[k].lo)=((pz[k].frm - lo+(pz[k].hi - pz[k].lo):Nat):Int):=by rw [wrap64]<;>omega
    have z1:(out.length+1)*56≤17592186044416:=by omega
    have z2:out.length+1≤17592186044416:=by omega
    have y1:pz[k].frm - lo+(pz[k].hi - pz[k].lo)≤x.length:=by omega
    have y2:pz[k].frm - lo≤pz[k].frm - lo+(pz[k].hi - pz[k].lo):=by omega
    have y3:last+((out.length:Int)+1)+1=last+out.length+1+1:=by omega
    simp only [List.length_append,List.length_cons,List.length_nil,Nat.zero_add] at ih
    push_cast at ih
    rw [y3] at ih
    generalize pz[k].frm - lo=f at *
    generalize pz[k].hi - pz[k].lo=g at *
    have y4:(0:Int)≤(f:Int)+g∧(f:Int)+g≤x.length:=by omega
    have y5:(f:Int)≤(f:Int)+g:=by omega
    have y6:((f:Int)+(g:Int)).toNat=f+g:=by omega
    simp [lp,loopsOf,Tryz.f131,hlt,hw,hm,N1,N2,N3,N4,w1,w2,w3,w4,w5,z1,z2,y1,y2,y4,y5,y6]
    simpa using ih
theorem lp_req0 (m m1:M) (hm:m.isOwn=false) (w:WorldT) (sz mn:Nat) (h1:w.size=sz) (h2:w.many=mn) (P:LayP sz mn) (i:Nat) (ep last:Int) (N:NumP w i ep last) (qs:List Pt) (hqs:∀ q∈qs,PatOk q) (hql:qs.length≤48) (a:Code) (ha:a=lp Tryz.f131 0):∀ (n k:Nat) (out:List ReqT),k+n=qs.length→out.length+n*48≤100000 →
    loopC E (ev E) 131 a { V:=[(1,.v m1 false [.int .i64 i]),(3,adc 3),(7,at1 7),(20,at1 20),(21,vi qs.length),(22,vi k)],H:=[bxm (.c 3) m (worldL w),ow (.c 7) [.sl (out.map reqL)],ow (.c 20) [.sl (qs.map ptL)]],ps:=[] } =
      some (.exit 0,{ V:=[(1,.v m1 false [.int .i64 i]),(3,adc 3),(7,at1 7),(20,at1 20),(21,vi qs.length),(22,vi qs.length),(23,vb false)],H:=[bxm (.c 3) m (worldL w),ow (.c 7) [.sl ((out++reqsAll sz mn i ep (qs.drop k) (last+out.length+1)).map reqL)],ow (.c 20) [.sl (qs.map ptL)]],ps:=[] })
  | 0,k,out,h,ho=>by
    rw [loopC_of _ _ _ _ ha]
    obtain rfl:k=qs.length:=by omega
    simp [lp,loopsOf,Tryz.f131,reqsAll]
  | n+1,k,out,h,ho=>by
    have hlt:k<qs.length:=by omega
    have hw:=wrapN k (by omega)
    obtain ⟨lo,hi,q1,q2,q3,q4⟩:=hqs _ (List.getElem_mem hlt)
    have hl48:=parts_len (sz:=sz) (mn:=mn) (hi:=hi) 48 lo
    have hlen:=reqsP_len (i:Int) ep lo qs[k].2 (partsF sz mn hi 48 lo) (last+out.length+1)
    have hin:=fun a ha=>lp_req1 m m1 hm w i ep last N lo hi qs[k].2 q2 (partsF sz mn hi 48 lo) (parts_ok P q4 48 lo (Nat.le_refl _)) hl48 (qs.map ptL) qs.length k a ha (partsF sz mn hi 48 lo).length 0 out (by omega) (by omega)
    have ih:=lp_req0 m m1 hm w sz mn h1 h2 P i ep last N qs hqs hql a ha n (k+1) (out++reqsP i ep lo qs[k].2 (partsF sz mn hi 48 lo) (last+out.length+1)) (by omega) (by simp only [List.length_append,hlen];omega)
    push_cast at ih hin
    have c1:=fun m m'=>ev_impl_LayParts m m' sz mn lo hi P q3 q4
    have hall:reqsAll sz mn i ep (qs.drop k) (last+out.length+1)=reqsP i ep lo qs[k].2 (partsF sz mn hi 48 lo) (last+out.length+1)++reqsAll sz mn i ep (qs.drop (k+1)) (last+out.length+1+(reqsP i ep lo qs[k].2 (partsF sz mn hi 48 lo) (last+out.length+1)).length):=by
      rw [List.drop_eq_getElem_cons hlt,reqsAll,q1,Int.toNat_natCast,show lo+qs[k].2.length=hi by omega,reqsF_P P.s1 _ _ lo hi _ 48 lo _ (Nat.le_refl _)]
    have y3:last+((out.length:Int)+((reqsP i ep lo qs[k].2 (partsF sz mn hi 48 lo) (last+out.length+1)).length:Int))+1=last+out.length+1+((reqsP i ep lo qs[k].2 (partsF sz mn hi 48 lo) (last+out.length+1)).length:Int):=by omega
    rw [hall]
    simp only [List.length_append] at ih
    push_cast at ih
    rw [y3] at ih
    have w1:IntKind.i64.wrap ((lo:Int)+(qs[k].2.length:Int))=(hi:Int):=by rw [wrap64]<;>omega
    rw [loopC_of _ _ _ _ ha]
    clear ha
    simp only [List.drop_zero] at hin
    generalize reqsP i ep lo qs[k].2 (partsF sz mn hi 48 lo) (last+out.length+1)=A at *
    generalize partsF sz mn hi 48 lo=pz at *
    generalize reqsAll sz mn i ep (qs.drop (k+1)) (last+out.length+1+A.length)=B at *
    simp [lp,loopsOf,Tryz.f131,hlt,hw,hm,h1,h2,c1,q1,w1]
    rw [hin _ ?_]
    · simp [hw]
      simpa using ih
    · rfl
theorem WorldP.numP {w:WorldT} (h:WorldP w) {i:Nat} (hi:i<3):NumP w i (w.ep i) (w.st.last.getD i 0):=by
  have h1:i<w.epochs.length:=by have:=h.epochs;omega
  have h2:i<w.st.last.length:=by have:=h.st.last;omega
  have h3:=h.st.nums i hi
  exact ⟨h1,(getD_lt _ h1).symm,h2,(getD_lt _ h2).symm,by omega,hi⟩
theorem WorldP.owB {w:WorldT} (h:WorldP w) {i:Nat} (hi:i<3):OwB (w.own i).t (w.own i).h (w.own i).d:=by
  have hb:=ownOk_bd (h.own i hi)
  have h1:=spsOk_len hb.2.1
  have h2:=spsOk_len hb.2.2.1
  exact ⟨by omega,by omega,by omega⟩
theorem WorldP.own_get {w:WorldT} (h:WorldP w) {i:Nat} (hi:i<3):∃ hl:i<w.owns.length,w.owns[i]=w.own i:=by
  have hl:i<w.owns.length:=by have:=h.owns;omega
  exact ⟨hl,(getD_lt _ hl).symm⟩
theorem WorldP.pats {w:WorldT} (h:WorldP w) {i:Nat} (hi:i<3) {s:Sp} (hs:spOk s=true):(∀ q∈patF (w.own i).t s (w.own i).d,PatOk q)∧(patF (w.own i).t s (w.own i).d).length≤12:=by
  obtain ⟨b1,b2,b3,b4⟩:=ownOk_bd (h.own i hi)
  have:=patF_len (w.own i).t s (w.own i).d
  have:=spsOk_len b3
  exact ⟨pat_ok b1 (spOk_iff.1 hs) _ (spsOk_sp b3),by omega⟩
theorem ev_requests (m m1 m2:M) (hm:m.isOwn=false) (w:WorldT) (h:WorldP w) (i:Nat) (hi:i<3) (s:Sp) (hs:spOk s=true) :
    ev E 131 [.v m true (worldL w),.v m1 false [.int .i64 i],.v m2 true (spL s)]=some { rs:=[.v .own false [.sl ((w.reqs i s).map reqL)]],outs:=[] }:=by
  obtain ⟨sz,mn,h1,h2,P⟩:=lay_nat (layOk_iff.2 h.lay)
  obtain ⟨hl,ho⟩:=h.own_get hi
  obtain ⟨hp1,hp2⟩:=h.pats hi hs
  have c1:=fun m m' hm=>ev_OwnPatches m m' hm (w.own i).t (w.own i).h (w.own i).d s (h.owB hi)
  have hpat:patI (w.own i).t (w.own i).h (w.own i).d s=patF (w.own i).t s (w.own i).d:=by
    unfold patI
    rw [if_pos (show ownOk (w.own i).t (w.own i).h (w.own i).d=true from h.own i hi),if_pos hs]
  rw [hpat] at c1
  have l0:=lp_req0 m m1 hm w sz mn h1 h2 P i _ _ (h.numP hi) _ hp1 (by omega) _ rfl (patF (w.own i).t s (w.own i).d).length 0 [] (by omega) (by simp;omega)
  have hr:w.reqs i s=reqsAll sz mn i (w.ep i) (patF (w.own i).t s (w.own i).d) (w.st.last.getD i 0+1):=by
    unfold WorldT.reqs
    rw [h1,h2,Int.toNat_natCast,Int.toNat_natCast]
  rw [hr]
  push_cast at l0
  simp only [List.drop_zero,List.nil_append,List.map_nil,List.length_nil] at l0
  push_cast at l0
  rw [Int.add_zero] at l0
  generalize patF (w.own i).t s (w.own i).d=pf at *
  generalize reqsAll sz mn i (w.ep i) pf (w.st.last.getD i 0+1)=A at *
  rw [← ho] at c1
  rw [ev_fn Tryz.f131 rfl Tryz.func131 rfl rfl rfl (Nat.le_of_ble_eq_true rfl)]
  simp [c1,hm,hl]
  rw [loopC_at ?_ l0]
  · simp
  · rfl
end Go.Ev

