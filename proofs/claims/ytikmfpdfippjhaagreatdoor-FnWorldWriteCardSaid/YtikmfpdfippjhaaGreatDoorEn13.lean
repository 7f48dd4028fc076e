/- My texts joined: EvT63, EvT64, EvT65, EvT66. No condition. -/
import Derived.Test.YtikmfpdfippjhaaGreatDoorEn12
set_option linter.unusedVariables false
set_option linter.unusedSimpArgs false

set_option maxRecDepth 100000
set_option maxHeartbeats 4000000
namespace Go.Ev
open Go.Proofs
theorem one_in (s:Sp) (j:Nat):inF [s] j=inSp j s:=by simp [inF]
theorem of_sps (m:M) {xs:List Sp} (h:spsOk xs=true):ev E 42 [.v m false [.sl (xs.map spL)]]=some { rs:=[.v .own true (pl (inF xs))],outs:=[] } :=
  ev_impl_of m xs (by have:=spsOk_len h;omega) fun s hs=>by have:=spsOk_sp h s hs;omega
theorem of_one (m:M) {s:Sp} (h:spOk s=true):ev E 42 [.v m false [.sl [spL s]]]=some { rs:=[.v .own true (pl (inF [s]))],outs:=[] } :=
  ev_impl_of m [s] (by simp) fun p hp=>by simp only [List.mem_singleton] at hp;subst hp;have:=spOk_iff.1 h;omega
theorem put_or (m m' m'':M) (f g:Nat→Bool):ev E 43 [.v m true (pl f),.v m' true (pl g),.v m'' false [.bool true]]=some { rs:=[.v .own true (pl (orP f g))],outs:=[] }:=ev_put m m' m'' f g true
abbrev andP (f g:Nat→Bool):Nat→Bool:=fun j=>f j&&g j
theorem lp_iLockOk (m:M) (hm:m.isOwn=false) (t:List HoldT) (hb:t.length≤4000000) (hk:∀ h∈t,holdB h) (a:Code) (ha:a=lp Tryz.f39 0):∀ (n i:Nat) (f g:Nat→Bool),i+n=t.length →
    ∃ f' g',loopC E (ev E) 39 a { V:=[(3,adc 3),(4,adc 4),(13,.v m false [.sl (t.map holdL)]),(14,vi t.length),(15,vi i)],H:=[bx (.c 3) (pl f),bx (.c 4) (pl g)],ps:=[] } =
      if lockI f g (t.drop i)=true then some (.exit 0,{ V:=[(3,adc 3),(4,adc 4),(13,.v m false [.sl (t.map holdL)]),(14,vi t.length),(15,vi t.length),(16,vb false)],H:=[bx (.c 3) (pl f'),bx (.c 4) (pl g')],ps:=[] })
      else some (.ret,{ V:=[(2,vb false)],H:=[],ps:=[] })
  | 0,i,f,g,h=>by
    refine ⟨f,g,?_⟩
    rw [loopC_of _ _ _ _ ha]
    obtain rfl:i=t.length:=by omega
    simp [-shapeT,lp,loopsOf,Tryz.f39,lockI]
  | n+1,i,f,g,h=>by
    have hlt:i<t.length:=by omega
    have hw:=wrapN i (by omega)
    obtain ⟨f',g',ih⟩:=lp_iLockOk m hm t hb hk a ha n (i+1) (orP (orP f (inF t[i].w)) (inF t[i].r)) (orP g (inF t[i].w)) (by omega)
    refine ⟨f',g',?_⟩
    push_cast at ih
    have hB:=hk _ (List.getElem_mem hlt)
    have c1:=fun m=>ev_impl_SpansOk m t[i].r (by have:=hB.1;omega)
    have c2:=fun m=>ev_impl_SpansOk m t[i].w (by have:=hB.2;omega)
    rw [loopC_of _ _ _ _ ha,List.drop_eq_getElem_cons hlt,lockI]
    clear ha
    generalize lockI (orP (orP f (inF t[i].w)) (inF t[i].r)) (orP g (inF t[i].w)) (t.drop (i+1))=r at ih ⊢
    cases e1:spsOk t[i].r
    · simp [-shapeT,lp,loopsOf,Tryz.f39,hlt,hw,hm,c1,c2,e1]
    · cases e2:spsOk t[i].w
      · simp [-shapeT,lp,loopsOf,Tryz.f39,hlt,hw,hm,c1,c2,e1,e2]
      · have c3:=fun m=>of_sps m e1
        have c4:=fun m=>of_sps m e2
        have c5:=fun m m'=>ev_meet m m' (inF t[i].r) (inF t[i].w)
        have c6:=fun m m'=>ev_meet m m' (inF t[i].w) f
        have c7:=fun m m'=>ev_meet m m' (inF t[i].r) g
        have c8:=fun m m' m''=>put_or m m' m'' g (inF t[i].w)
        have c9:=fun m m' m''=>put_or m m' m'' f (inF t[i].w)
        have c10:=fun m m' m''=>put_or m m' m'' (orP f (inF t[i].w)) (inF t[i].r)
        have k1:cellsEq (pl fun j=>inF t[i].r j&&inF t[i].w j) (pl fun _=>false)=some (noneP fun j=>inF t[i].r j&&inF t[i].w j):=cellsEq_pl _ _
        have k2:cellsEq (pl fun j=>inF t[i].w j&&f j) (pl fun _=>false)=some (noneP fun j=>inF t[i].w j&&f j):=cellsEq_pl _ _
        have k3:cellsEq (pl fun j=>inF t[i].r j&&g j) (pl fun _=>false)=some (noneP fun j=>inF t[i].r j&&g j):=cellsEq_pl _ _
        cases e3:noneP fun j=>inF t[i].r j&&inF t[i].w j
        · rw [e3] at k1
          simp [-shapeT,lp,loopsOf,Tryz.f39,hlt,hw,hm,c1,c2,c3,c4,c5,e1,e2,k1,pl_ff]
        · rw [e3] at k1
          cases e4:noneP fun j=>inF t[i].w j&&f j
          · rw [e4] at k2
            simp [-shapeT,lp,loopsOf,Tryz.f39,hlt,hw,hm,c1,c2,c3,c4,c5,c6,e1,e2,k1,k2,pl_ff]
          · rw [e4] at k2
            cases e5:noneP fun j=>inF t[i].r j&&g j
            · rw [e5] at k3
              simp [-shapeT,lp,loopsOf,Tryz.f39,hlt,hw,hm,c1,c2,c3,c4,c5,c6,c7,e1,e2,k1,k2,k3,pl_ff]
            · rw [e5] at k3
              simp [-shapeT,lp,loopsOf,Tryz.f39,hlt,hw,hm,c1,c2,c3,c4,c5,c6,c7,c8,c9,c10,e1,e2,k1,k2,k3,pl_ff]
              simpa using ih
theorem ev_impl_LockOk (m:M) (hm:m.isOwn=false) (t:List HoldT) (hb:t.length≤4000000) (hk:∀ h∈t,holdB h):ev E 39 [.v m false [.sl (t.map holdL)]]=some (rB (lockOk t)):=by
  rw [← lockI_eq,lockOkI]
  obtain ⟨f',g',l0⟩:=lp_iLockOk m hm t hb hk _ rfl t.length 0 (fun _=>false) (fun _=>false) (by omega)
  push_cast at l0
  simp only [List.drop_zero] at l0
  rw [ev_fn Tryz.f39 rfl Tryz.func39 rfl rfl rfl (Nat.le_of_ble_eq_true rfl)]
  cases e1:eqI t.length 3
  · simp [e1]
  · simp [e1,pl_ff]
    rw [loopC_at ?_ l0]
    · cases e2:lockI (fun _=>false) (fun _=>false) t<;>simp
    · rfl
theorem lp_copied (m:M) (hm:m.isOwn=false) (t:List HoldT) (hb:t.length≤4000000) (hk:∀ h∈t,holdB h) (a:Code) (ha:a=lp Tryz.f79 0):∀ (n i:Nat) (out:List HoldT),i+n=t.length→out.length=i →
    loopC E (ev E) 79 a { V:=[(3,at1 3),(7,.v m false [.sl (t.map holdL)]),(8,vi t.length),(9,vi i)],H:=[ow (.c 3) [.sl (out.map holdL)]],ps:=[] } =
      some (.exit 0,{ V:=[(3,at1 3),(7,.v m false [.sl (t.map holdL)]),(8,vi t.length),(9,vi t.length),(10,vb false)],H:=[ow (.c 3) [.sl ((out++t.drop i).map holdL)]],ps:=[] })
  | 0,i,out,h,ho=>by
    rw [loopC_of _ _ _ _ ha]
    obtain rfl:i=t.length:=by omega
    simp [lp,loopsOf,Tryz.f79]
  | n+1,i,out,h,ho=>by
    have hlt:i<t.length:=by omega
    have hw:=wrapN i (by omega)
    have ih:=lp_copied m hm t hb hk a ha n (i+1) (out++[t[i]]) (by omega) (by simp;omega)
    push_cast at ih
    have hB:=hk _ (List.getElem_mem hlt)
    have c1:=fun m=>ev_Clone m t[i].r hB.1
    have c2:=fun m=>ev_Clone m t[i].w hB.2
    have h1:(out.length+1)*48≤17592186044416:=by omega
    have h2:out.length+1≤17592186044416:=by omega
    rw [loopC_of _ _ _ _ ha,List.drop_eq_getElem_cons hlt]
    clear ha
    simp [lp,loopsOf,Tryz.f79,hlt,hw,hm,c1,c2,h1,h2]
    simpa using ih
theorem ev_copied (m:M) (hm:m.isOwn=false) (t:List HoldT) (hb:t.length≤4000000) (hk:∀ h∈t,holdB h):ev E 79 [.v m false [.sl (t.map holdL)]]=some { rs:=[.v .own false [.sl (t.map holdL)]],outs:=[] }:=by
  have l0:=lp_copied m hm t hb hk _ rfl t.length 0 [] (by omega) rfl
  push_cast at l0
  simp only [List.drop_zero,List.nil_append,List.map_nil] at l0
  rw [ev_fn Tryz.f79 rfl Tryz.func79 rfl rfl rfl (Nat.le_of_ble_eq_true rfl)]
  simp
  rw [loopC_at ?_ l0]
  · simp
  · rfl
theorem LockP.bd {t:List HoldT} (h:LockP t):∀ x∈t,holdB x:=by
  have h3:=h.len
  intro x hx
  obtain ⟨i,hi,rfl⟩:=List.mem_iff_getElem.1 hx
  have h1:=spsOk_len (h.r i (by omega))
  have h2:=spsOk_len (h.w i (by omega))
  rw [getD_lt _ hi] at h1 h2
  exact ⟨by omega,by omega⟩
def mayP (h:HoldT) (write:Bool):Nat→Bool:=if write=true then inF h.w else orP (inF h.w) (inF h.r)
theorem mayP_eq {h:HoldT} {write:Bool} {s:Sp} (hs:spOk s=true):eqP (fun j=>mayP h write j&&inF [s] j) (inF [s])=lockMay h write s:=by
  rw [Bool.eq_iff_iff,eqP_iff,lockMay_iff (spOk_iff.1 hs)]
  have hsp:=spOk_iff.1 hs
  simp only [one_in]
  have hp:∀ j,mayP h write j=mayAt h write j:=fun j=>by
    unfold mayP mayAt
    cases write
    · simp [orP_eq]
    · simp
  constructor
  · intro g j hj
    have:=g j (by rw [inSp_iff] at hj;omega)
    rw [hj,Bool.and_true,hp] at this
    exact this
  · intro g j hj
    cases e:inSp j s
    · simp
    · rw [hp,g j e];rfl
theorem ev_impl_LockMay (m m1 m2 m3:M) (hm:m.isOwn=false) (t:List HoldT) (hb:t.length≤4000000) (hk:∀ h∈t,holdB h) (who:Int) (write:Bool) (s:Sp) :
    ev E 18 [.v m false [.sl (t.map holdL)],.v m1 false [.int .i64 who],.v m2 false [.bool write],.v m3 true (spL s)]=some (rB (lockOk t&&(whoOk who&&(spOk s&&lockMay (t.getD who.toNat noH) write s)))):=by
  have c1:=fun m hm=>ev_impl_LockOk m hm t hb hk
  have c2:=fun m=>ev_impl_client m who
  have c3:=fun m=>ev_impl_SpanOk m s
  cases e1:lockOk t
  · rw [ev_fn Tryz.f18 rfl Tryz.func18 rfl rfl rfl (Nat.le_of_ble_eq_true rfl)]
    simp [c1,e1,hm]
  · cases e2:whoOk who
    · rw [ev_fn Tryz.f18 rfl Tryz.func18 rfl rfl rfl (Nat.le_of_ble_eq_true rfl)]
      simp [c1,c2,e1,e2,hm]
    · cases e3:spOk s
      · rw [ev_fn Tryz.f18 rfl Tryz.func18 rfl rfl rfl (Nat.le_of_ble_eq_true rfl)]
        simp [c1,c2,c3,e1,e2,e3,hm]
      · have P:=lockOk_iff.1 e1
        have hwho:=e2
        simp only [whoOk,Bool.and_eq_true,Bool.not_eq_true',ltI_not,ltI_iff] at hwho
        obtain ⟨i,rfl⟩:∃ i:Nat,who=i:=⟨who.toNat,by omega⟩
        have hi:i<3:=by omega
        have hlt:i<t.length:=by have:=P.len;omega
        rw [Int.toNat_natCast]
        have hr:=P.r i hi
        have hwr:=P.w i hi
        rw [getD_lt _ hlt] at hr hwr ⊢
        rw [← mayP_eq e3]
        have c4:=fun m=>of_sps m hr
        have c5:=fun m=>of_sps m hwr
        have c6:=fun m=>of_one m e3
        have c7:=fun m m' m''=>put_or m m' m'' (inF t[i].w) (inF t[i].r)
        have c8:=fun m m'=>ev_meet m m' (mayP t[i] write) (inF [s])
        have k1:=cellsEq_pl (fun j=>mayP t[i] write j&&inF [s] j) (inF [s])
        rw [ev_fn Tryz.f18 rfl Tryz.func18 rfl rfl rfl (Nat.le_of_ble_eq_true rfl)]
        cases write
        · simp only [mayP,Bool.false_eq_true,if_false] at c8 k1 ⊢
          simp [-shapeT,c1,c2,c3,c4,c5,c6,c7,c8,e1,e2,e3,hm,hlt,k1,pl_ff]
        · simp only [mayP,if_true] at c8 k1 ⊢
          simp [-shapeT,c1,c2,c3,c4,c5,c6,c7,c8,e1,e2,e3,hm,hlt,k1,pl_ff]
set_option maxRecDepth 100000
set_option maxHeartbeats 4000000
def barsP (h:HoldT) (write:Bool):Nat→Bool:=if write=true then orP (inF h.w) (inF h.r) else inF h.w
theorem clear_one {a:List Sp} {s:Sp} (ha:spsOk a=true) (hs:spOk s=true):clearS a [s]=noneP (andP (inF a) (inF [s])):=by
  rw [Bool.eq_iff_iff,clearS_iff (spsOk_sp ha) (fun p hp=>by simp only [List.mem_singleton] at hp;subst hp;exact spOk_iff.1 hs),apart48 ha,noneP_iff]
  simp only [Bool.and_eq_true,andP,← Bool.not_eq_true]
theorem barsP_eq {h:HoldT} {write:Bool} {s:Sp} (hr:spsOk h.r=true) (hw:spsOk h.w=true) (hs:spOk s=true):(!noneP (andP (barsP h write) (inF [s])))=(!clearS h.w [s] || (write&&!clearS h.r [s])):=by
  rw [clear_one hr hs,clear_one hw hs]
  have hn:∀ f:Nat→Bool,(!noneP f)=true↔∃ j,j<48∧f j=true:=fun f=>by
    rw [Bool.not_eq_true',← Bool.not_eq_true,noneP_iff]
    simp only [Classical.not_forall,Bool.not_eq_false,exists_prop]
  rw [Bool.eq_iff_iff,Bool.or_eq_true,Bool.and_eq_true,hn,hn,hn]
  simp only [andP,Bool.and_eq_true]
  cases write
  · simp [barsP]
  · simp only [barsP,if_true,orP_eq,Bool.or_eq_true,true_and]
    constructor
    · rintro ⟨j,hj,h1 | h1,h2⟩
      · exact .inl ⟨j,hj,h1,h2⟩
      · exact .inr ⟨j,hj,h1,h2⟩
    · rintro (⟨j,hj,h1,h2⟩ | ⟨j,hj,h1,h2⟩)
      · exact ⟨j,hj,.inl h1,h2⟩
      · exact ⟨j,hj,.inr h1,h2⟩
def barsF (p:Nat→Bool):Nat→Nat→List Int
  | 0,_=>[]
  | n+1,i=>if p i=true then (i:Int)::barsF p n (i+1) else barsF p n (i+1)
theorem barsF_eq (p:Nat→Bool):barsF p 3 0=((List.range 3).filter p).map (fun k:Nat=>(k:Int)):=by
  have:List.range 3=[0,1,2]:=rfl
  rw [this]
  simp only [barsF,List.filter_cons,List.filter_nil]
  cases p 0<;>cases p 1<;>cases p 2<;>rfl
theorem lp_iLockBars (m m1 m2:M) (hm:m.isOwn=false) (t:List HoldT) (P:LockP t) (who:Nat) (write:Bool) (s:Sp) (hs:spOk s=true) (a:Code) (ha:a=lp Tryz.f22 0):∀ (n i:Nat) (out:List Int),i+n=3→out.length≤i →
    loopC E (ev E) 22 a { V:=[(1,.v m1 false [.int .i64 who]),(2,.v m2 false [.bool write]),(7,adc 7),(9,at1 9),(27,.v m false [.sl (t.map holdL)]),(28,vi 3),(29,vi i)],H:=[bx (.c 7) (spL s),ow (.c 9) [.sl (intsL out)]],ps:=[] } =
      some (.exit 0,{ V:=[(1,.v m1 false [.int .i64 who]),(2,.v m2 false [.bool write]),(7,adc 7),(9,at1 9),(27,.v m false [.sl (t.map holdL)]),(28,vi 3),(29,vi 3),(30,vb false)],H:=[bx (.c 7) (spL s),ow (.c 9) [.sl (intsL (out++barsF (barsAt t who write s) n i))]],ps:=[] })
  | 0,i,out,h,ho=>by
    rw [loopC_of _ _ _ _ ha]
    obtain rfl:i=3:=by omega
    simp [lp,loopsOf,Tryz.f22,barsF]
  | n+1,i,out,h,ho=>by
    have hi:i<3:=by omega
    have hI:(i:Int)<3:=by omega
    have hlt:i<t.length:=by have:=P.len;omega
    have hw:=wrapN i (by omega)
    have hr:=P.r i hi
    have hwr:=P.w i hi
    have hbe:=barsP_eq (write:=write) hr hwr hs
    have hba:barsAt t who write s i=(!(i==who)&&(!clearS (t.getD i noH).w [s] || (write&&!clearS (t.getD i noH).r [s]))):=rfl
    rw [← hbe] at hba
    rw [getD_lt _ hlt] at hr hwr hba
    have c4:=fun m=>of_sps m hr
    have c5:=fun m=>of_sps m hwr
    have c6:=fun m=>of_one m hs
    have c7:=fun m m' m''=>put_or m m' m'' (inF t[i].w) (inF t[i].r)
    have c8:∀ m m',ev E 44 [.v m true (pl (barsP t[i] write)),.v m' true (pl (inF [s]))]=some { rs:=[.v .own true (pl (andP (barsP t[i] write) (inF [s])))],outs:=[] }:=fun m m'=>ev_meet m m' (barsP t[i] write) (inF [s])
    have k1:cellsEq (pl (andP (barsP t[i] write) (inF [s]))) (pl fun _=>false)=some (noneP (andP (barsP t[i] write) (inF [s]))):=cellsEq_pl _ _
    generalize andP (barsP t[i] write) (inF [s])=z at *
    have hin:eqI (i:Int) who=(i==who):=by rw [Bool.eq_iff_iff,eqI_iff,beq_iff_eq];omega
    have h1:(out.length+1)*8≤17592186044416:=by omega
    have h2:out.length+1≤17592186044416:=by omega
    rw [barsF]
    have ih0:=lp_iLockBars m m1 m2 hm t P who write s hs a ha n (i+1) out (by omega) (by omega)
    have ih1:=lp_iLockBars m m1 m2 hm t P who write s hs a ha n (i+1) (out++[(i:Int)]) (by omega) (by simp;omega)
    push_cast at ih0 ih1
    rw [loopC_of _ _ _ _ ha]
    clear ha
    rw [← hin] at hba
    generalize barsAt t who write s i=ba at *
    generalize barsF (barsAt t who write s) n (i+1)=tl at *
    cases write
    · simp only [barsP,Bool.false_eq_true,if_false] at c8
      cases e1:eqI (i:Int) who
      · rw [e1] at hba
        cases e2:noneP z
        · rw [e2] at hba k1
          subst hba
          simp [-shapeT,lp,loopsOf,Tryz.f22,hI,hlt,hw,hm,c4,c5,c6,c8,k1,e1,h1,h2,pl_ff]
          simpa using ih1
        · rw [e2] at hba k1
          subst hba
          simp [-shapeT,lp,loopsOf,Tryz.f22,hI,hlt,hw,hm,c4,c5,c6,c8,k1,e1,h1,h2,pl_ff]
          simpa using ih0
      · rw [e1] at hba
        subst hba
        simp [-shapeT,lp,loopsOf,Tryz.f22,hI,hlt,hw,hm,c4,c5,c6,c8,e1,h1,h2,pl_ff]
        simpa using ih0
    · simp only [barsP,if_true] at c8
      cases e1:eqI (i:Int) who
      · rw [e1] at hba
        cases e2:noneP z
        · rw [e2] at hba k1
          subst hba
          simp [-shapeT,lp,loopsOf,Tryz.f22,hI,hlt,hw,hm,c4,c5,c6,c7,c8,k1,e1,h1,h2,pl_ff]
          simpa using ih1
        · rw [e2] at hba k1
          subst hba
          simp [-shapeT,lp,loopsOf,Tryz.f22,hI,hlt,hw,hm,c4,c5,c6,c7,c8,k1,e1,h1,h2,pl_ff]
          simpa using ih0
      · rw [e1] at hba
        subst hba
        simp [-shapeT,lp,loopsOf,Tryz.f22,hI,hlt,hw,hm,c4,c5,c6,c7,c8,e1,h1,h2,pl_ff]
        simpa using ih0
def barsL (t:List HoldT) (who:Int) (write:Bool) (s:Sp):List Int:=(lockBars t who.toNat write s).map (fun k:Nat=>(k:Int))
def barsI (t:List HoldT) (who:Int) (write:Bool) (s:Sp):List Int:=if (lockOk t&&(whoOk who&&spOk s))=true then barsL t who write s else []
theorem who_nat {k:Int} (h:whoOk k=true):∃ i:Nat,i<3∧k=i:=by
  simp only [whoOk,Bool.and_eq_true,Bool.not_eq_true',ltI_not,ltI_iff] at h
  exact ⟨k.toNat,by omega,by omega⟩
theorem ev_impl_LockBars (m m1 m2 m3:M) (hm:m.isOwn=false) (t:List HoldT) (hb:t.length≤4000000) (hk:∀ h∈t,holdB h) (who:Int) (write:Bool) (s:Sp) :
    ev E 22 [.v m false [.sl (t.map holdL)],.v m1 false [.int .i64 who],.v m2 false [.bool write],.v m3 true (spL s)]=some { rs:=[.v .own false [.sl (intsL (barsI t who write s))]],outs:=[] }:=by
  have c1:=fun m hm=>ev_impl_LockOk m hm t hb hk
  have c2:=fun m=>ev_impl_client m who
  have c3:=fun m=>ev_impl_SpanOk m s
  unfold barsI
  cases e1:lockOk t
  · rw [ev_fn Tryz.f22 rfl Tryz.func22 rfl rfl rfl (Nat.le_of_ble_eq_true rfl)]
    simp [c1,e1,hm]
  · cases e2:whoOk who
    · rw [ev_fn Tryz.f22 rfl Tryz.func22 rfl rfl rfl (Nat.le_of_ble_eq_true rfl)]
      simp [c1,c2,e1,e2,hm]
    · cases e3:spOk s
      · rw [ev_fn Tryz.f22 rfl Tryz.func22 rfl rfl rfl (Nat.le_of_ble_eq_true rfl)]
        simp [c1,c2,c3,e1,e2,e3,hm]
      · have P:=lockOk_iff.1 e1
        have hlen:(t.length:Int)=3:=by have:=P.len;omega
        obtain ⟨i,hi,rfl⟩:=who_nat e2
        have l0:=lp_iLockBars m m1 m2 hm t P i write s e3 _ rfl 3 0 [] (by omega) (by simp)
        push_cast at l0
        rw [barsF_eq] at l0
        simp only [List.nil_append,List.map_nil] at l0
        rw [ev_fn Tryz.f22 rfl Tryz.func22 rfl rfl rfl (Nat.le_of_ble_eq_true rfl)]
        simp [c1,c2,c3,e1,e2,e3,hm,hlen]
        rw [loopC_at ?_ l0]
        · simp [barsL,lockBars]
        · rfl
def rLk (t:List HoldT) (b:Bool):Out:={ rs:=[.v .own false [.sl (t.map holdL)],.v .own false [.bool b]],outs:=[] }
def turnT (t:List HoldT) (who:Int) (s:Sp) (may:Bool) (f g:Nat→Bool):List HoldT × Bool :=
  if (whoOk who&&(spOk s&&may))=true then putL t who.toNat ⟨spansF f 48 0,spansF g 48 0⟩ else (t,false)
theorem putL_or (t:List HoldT) (i:Nat) (h:HoldT):putL t i h=if lockOk (t.set i h)=true then (t.set i h,true) else (t,false):=rfl
theorem ev_turned (m m1 m2 m3 mf:M) (hm:m.isOwn=false) (t:List HoldT) (hb:t.length≤4000000) (hk:∀ h∈t,holdB h) (who:Int) (s:Sp) (may:Bool) (cl:FuncId) (caps:List L) (f g:Nat→Bool) (hsig:E.sig cl=[]∧E.alt2 cl=none)
    (hcl:LockP t→whoOk who=true→spOk s=true→may=true→∀ q1 q2 q3,ev E cl (.v q1 true (pl (inF (t.getD who.toNat noH).r))::.v q2 true (pl (inF (t.getD who.toNat noH).w))::.v q3 true (pl (inF [s]))::caps.map fun l=>.v mf false [l])=some { rs:=[.v .own true (pl f),.v .own true (pl g)],outs:=[] }) (hcf:caps=[]∨∃ l,caps=[l]) :
    ev E 173 [.v m false [.sl (t.map holdL)],.v m1 false [.int .i64 who],.v m2 true (spL s),.v m3 false [.bool may],.v mf false [.fn cl caps]]=some (if lockOk t=true then rLk (turnT t who s may f g).1 (turnT t who s may f g).2 else rLk [] false):=by
  have c1:=fun m hm=>ev_impl_LockOk m hm t hb hk
  have c2:=fun m=>ev_impl_client m who
  have c3:=fun m=>ev_impl_SpanOk m s
  have c4:=fun m hm=>ev_copied m hm t hb hk
  cases e1:lockOk t
  · rw [ev_fn Tryz.f173 rfl Tryz.func173 rfl rfl rfl (Nat.le_of_ble_eq_true rfl)]
    simp [c1,e1,hm,rLk]
  · cases e2:whoOk who
    · rw [ev_fn Tryz.f173 rfl Tryz.func173 rfl rfl rfl (Nat.le_of_ble_eq_true rfl)]
      simp [c1,c2,c4,e1,e2,hm,rLk,turnT]
    · cases e3:spOk s
      · rw [ev_fn Tryz.f173 rfl Tryz.func173 rfl rfl rfl (Nat.le_of_ble_eq_true rfl)]
        simp [c1,c2,c3,c4,e1,e2,e3,hm,rLk,turnT]
      · cases may with
        | false =>
          rw [ev_fn Tryz.f173 rfl Tryz.func173 rfl rfl rfl (Nat.le_of_ble_eq_true rfl)]
          simp [c1,c2,c3,c4,e1,e2,e3,hm,rLk,turnT]
        | true =>
          have P:=lockOk_iff.1 e1
          have hcl:=hcl P e2 e3 rfl
          obtain ⟨i,hi,rfl⟩:=who_nat e2
          have hlt:i<t.length:=by have:=P.len;omega
          have hr:=P.r i hi
          have hwr:=P.w i hi
          simp only [Int.toNat_natCast] at hcl
          rw [getD_lt _ hlt] at hr hwr hcl
          have c5:=fun m=>of_sps m hr
          have c6:=fun m=>of_sps m hwr
          have c7:=fun m=>of_one m e3
          have c8:=fun m=>ev_spans m f
          have c9:=fun m=>ev_spans m g
          have hf1:=spansF_len f 48 0
          have hg1:=spansF_len g 48 0
          simp only [turnT,e2,e3,Bool.and_self,if_true,Int.toNat_natCast,putL_or]
          generalize spansF f 48 0=h' at *
          generalize spansF g 48 0=d' at *
          have c10:=fun m hm=>ev_impl_LockOk m hm (t.set i ⟨h',d'⟩) (by simpa using hb) (fun x hx=>by
            rcases List.mem_or_eq_of_mem_set hx with hx | rfl
            · exact hk x hx
            · exact ⟨by dsimp only;omega,by dsimp only;omega⟩)
          simp only [List.map_set] at c10
          rcases hcf with rfl | ⟨l,rfl⟩
          · simp only [List.map_nil] at hcl
            rw [ev_fn Tryz.f173 rfl Tryz.func173 rfl rfl rfl (Nat.le_of_ble_eq_true rfl)]
            cases e4:lockOk (t.set i ⟨h',d'⟩)<;>simp [-shapeT,c1,c2,c3,c4,c5,c6,c7,c8,c9,c10,hcl,hsig.1,hsig.2,e1,e2,e3,e4,hm,hlt,rLk,pl_ff,List.map_set]
          · simp only [List.map_cons,List.map_nil] at hcl
            rw [ev_fn Tryz.f173 rfl Tryz.func173 rfl rfl rfl (Nat.le_of_ble_eq_true rfl)]
            cases e4:lockOk (t.set i ⟨h',d'⟩)<;>simp [-shapeT,c1,c2,c3,c4,c5,c6,c7,c8,c9,c10,hcl,hsig.1,hsig.2,e1,e2,e3,e4,hm,hlt,rLk,pl_ff,List.map_set]
set_option maxRecDepth 100000
set_option maxHeartbeats 4000000
def cutP (f s:Nat→Bool):Nat→Bool:=fun j=>if s j=true then false else f j
theorem put_cut (m m' m'':M) (f g:Nat→Bool):ev E 43 [.v m true (pl f),.v m' true (pl g),.v m'' false [.bool false]]=some { rs:=[.v .own true (pl (cutP f g))],outs:=[] }:=ev_put m m' m'' f g false
theorem meet_and (m m':M) (f g:Nat→Bool):ev E 44 [.v m true (pl f),.v m' true (pl g)]=some { rs:=[.v .own true (pl (andP f g))],outs:=[] }:=ev_meet m m' f g
theorem ev_lkDropFn (m m1 m2:M) (r w s:Nat→Bool):ev E 175 [.v m true (pl r),.v m1 true (pl w),.v m2 true (pl s)]=some { rs:=[.v .own true (pl (cutP r s)),.v .own true (pl (cutP w s))],outs:=[] }:=by
  have c1:=fun m m' m''=>put_cut m m' m'' r s
  have c2:=fun m m' m''=>put_cut m m' m'' w s
  rw [ev_fn Tryz.f175 rfl Tryz.func175 rfl rfl rfl (Nat.le_of_ble_eq_true rfl)]
  simp [c1,c2,pl_ff]
theorem ev_lkDownFn (m m1 m2:M) (r w s:Nat→Bool):ev E 174 [.v m true (pl r),.v m1 true (pl w),.v m2 true (pl s)]=some { rs:=[.v .own true (pl (orP r (andP s w))),.v .own true (pl (cutP w s))],outs:=[] }:=by
  have c1:=fun m m'=>meet_and m m' s w
  have c2:=fun m m' m''=>put_or m m' m'' r (andP s w)
  have c3:=fun m m' m''=>put_cut m m' m'' w s
  rw [ev_fn Tryz.f174 rfl Tryz.func174 rfl rfl rfl (Nat.le_of_ble_eq_true rfl)]
  simp [c1,c2,c3,pl_ff]
theorem ev_lkGiveFn (m m1 m2 m3:M) (r w s:Nat→Bool) (write:Bool):ev E 177 [.v m true (pl r),.v m1 true (pl w),.v m2 true (pl s),.v m3 false [.ref [.bool write]]] =
    some { rs:=[.v .own true (pl (if write=true then cutP r s else orP r (cutP s w))),.v .own true (pl (if write=true then orP w s else w))],outs:=[] }:=by
  have c1:=fun m m' m''=>put_cut m m' m'' r s
  have c2:=fun m m' m''=>put_or m m' m'' w s
  have c3:=fun m m' m''=>put_cut m m' m'' s w
  have c4:=fun m m' m''=>put_or m m' m'' r (cutP s w)
  rw [ev_fn Tryz.f177 rfl Tryz.func177 rfl rfl rfl (Nat.le_of_ble_eq_true rfl)]
  cases write<;>simp [c1,c2,c3,c4,pl_ff]
theorem spans_cut (xs:List Sp) (s:Sp):spansF (cutP (inF xs) (inF [s])) 48 0=cutS xs s:=by
  unfold cutS
  exact spans_of fun j _=>by simp [cutP,inF]
theorem spans_add (xs:List Sp) (s:Sp):spansF (orP (inF xs) (inF [s])) 48 0=addS xs s:=by
  unfold addS
  exact spans_of fun j _=>by simp [orP,inF]
theorem spans_self {xs:List Sp} (h:spsOk xs=true):spansF (inF xs) 48 0=xs:=by
  rw [spans_of (g:=inF xs) (fun j _=>rfl)]
  exact of_self h fun j _=>rfl
theorem turn_drop (t:List HoldT) (who:Int) (s:Sp):turnT t who s true (cutP (inF (t.getD who.toNat noH).r) (inF [s])) (cutP (inF (t.getD who.toNat noH).w) (inF [s]))=if (whoOk who&&spOk s)=true then lockDrop t who.toNat s else (t,false):=by
  simp only [turnT,spans_cut,Bool.and_true,lockDrop]
theorem turn_down (t:List HoldT) (who:Int) (s:Sp):turnT t who s true (orP (inF (t.getD who.toNat noH).r) (andP (inF [s]) (inF (t.getD who.toNat noH).w))) (cutP (inF (t.getD who.toNat noH).w) (inF [s]))=if (whoOk who&&spOk s)=true then lockDown t who.toNat s else (t,false):=by
  have:spansF (orP (inF (t.getD who.toNat noH).r) (andP (inF [s]) (inF (t.getD who.toNat noH).w))) 48 0=ofL (fun j=>inF (t.getD who.toNat noH).r j || (inSp j s&&inF (t.getD who.toNat noH).w j)) 48 0 [] :=
    spans_of fun j _=>by simp only [orP_eq,andP,one_in]
  simp only [turnT,spans_cut,Bool.and_true,lockDown,this]
theorem turn_give (t:List HoldT) (P:LockP t) (who:Int) (write:Bool) (s:Sp) (may:Bool) :
    turnT t who s may (if write=true then cutP (inF (t.getD who.toNat noH).r) (inF [s]) else orP (inF (t.getD who.toNat noH).r) (cutP (inF [s]) (inF (t.getD who.toNat noH).w))) (if write=true then orP (inF (t.getD who.toNat noH).w) (inF [s]) else inF (t.getD who.toNat noH).w) =
      if (whoOk who&&(spOk s&&may))=true then lockGive t who.toNat write s else (t,false):=by
  unfold turnT
  cases e:whoOk who&&(spOk s&&may)
  · rfl
  · simp only [if_true]
    simp only [Bool.and_eq_true] at e
    obtain ⟨i,hi,rfl⟩:=who_nat e.1
    rw [Int.toNat_natCast]
    cases write
    · simp only [Bool.false_eq_true,if_false,lockGive]
      have h1:spansF (orP (inF (t.getD i noH).r) (cutP (inF [s]) (inF (t.getD i noH).w))) 48 0=ofL (fun j=>(inSp j s || inF (t.getD i noH).r j)&&!inF (t.getD i noH).w j) 48 0 [] :=
        spans_of fun j _=>by
          have:=P.rw i hi j
          simp only [orP_eq,cutP,one_in]
          cases e1:inF (t.getD i noH).r j<;>cases e2:inF (t.getD i noH).w j<;>cases inSp j s<;>simp_all
      rw [h1,spans_self (P.w i hi)]
    · simp only [if_true,lockGive,spans_cut,spans_add]
def dropI (t:List HoldT) (who:Int) (s:Sp):Out:=if lockOk t=true then (if (whoOk who&&spOk s)=true then rLk (lockDrop t who.toNat s).1 (lockDrop t who.toNat s).2 else rLk t false) else rLk [] false
def downI (t:List HoldT) (who:Int) (s:Sp):Out:=if lockOk t=true then (if (whoOk who&&spOk s)=true then rLk (lockDown t who.toNat s).1 (lockDown t who.toNat s).2 else rLk t false) else rLk [] false
def giveI (t:List HoldT) (who:Int) (write:Bool) (s:Sp):Out:=if lockOk t=true then (if (whoOk who&&(spOk s&&eqI (barsL t who write s).length 0))=true then rLk (lockGive t who.toNat write s).1 (lockGive t who.toNat write s).2 else rLk t false) else rLk [] false
theorem ev_impl_LockDrop (m m1 m2:M) (hm:m.isOwn=false) (t:List HoldT) (hb:t.length≤4000000) (hk:∀ h∈t,holdB h) (who:Int) (s:Sp) :
    ev E 124 [.v m false [.sl (t.map holdL)],.v m1 false [.int .i64 who],.v m2 true (spL s)]=some (dropI t who s):=by
  have c1:=fun m m1 m2 m3 mf hm=>ev_turned m m1 m2 m3 mf hm t hb hk who s true 175 [] _ _ ⟨rfl,rfl⟩ (fun _ _ _ _ q1 q2 q3=>ev_lkDropFn q1 q2 q3 _ _ _) (.inl rfl)
  rw [turn_drop] at c1
  have hr:(if lockOk t=true then rLk (if (whoOk who&&spOk s)=true then lockDrop t who.toNat s else (t,false)).1 (if (whoOk who&&spOk s)=true then lockDrop t who.toNat s else (t,false)).2 else rLk [] false)=dropI t who s:=by
    unfold dropI
    cases lockOk t<;>cases (whoOk who&&spOk s)<;>rfl
  rw [hr] at c1
  have hex:∃ t' b',dropI t who s=rLk t' b':=by
    unfold dropI
    split
    · split<;>exact ⟨_,_,rfl⟩
    · exact ⟨_,_,rfl⟩
  obtain ⟨t',b',he⟩:=hex
  rw [he] at c1 ⊢
  rw [ev_fn Tryz.f124 rfl Tryz.func124 rfl rfl rfl (Nat.le_of_ble_eq_true rfl)]
  simp [c1,hm,rLk]
theorem ev_impl_LockDown (m m1 m2:M) (hm:m.isOwn=false) (t:List HoldT) (hb:t.length≤4000000) (hk:∀ h∈t,holdB h) (who:Int) (s:Sp) :
    ev E 123 [.v m false [.sl (t.map holdL)],.v m1 false [.int .i64 who],.v m2 true (spL s)]=some (downI t who s):=by
  have c1:=fun m m1 m2 m3 mf hm=>ev_turned m m1 m2 m3 mf hm t hb hk who s true 174 [] _ _ ⟨rfl,rfl⟩ (fun _ _ _ _ q1 q2 q3=>ev_lkDownFn q1 q2 q3 _ _ _) (.inl rfl)
  rw [turn_down] at c1
  have hr:(if lockOk t=true then rLk (if (whoOk who&&spOk s)=true then lockDown t who.toNat s else (t,false)).1 (if (whoOk who&&spOk s)=true then lockDown t who.toNat s else (t,false)).2 else rLk [] false)=downI t who s:=by
    unfold downI
    cases lockOk t<;>cases (whoOk who&&spOk s)<;>rfl
  rw [hr] at c1
  have hex:∃ t' b',downI t who s=rLk t' b':=by
    unfold downI
    split
    · split<;>exact ⟨_,_,rfl⟩
    · exact ⟨_,_,rfl⟩
  obtain ⟨t',b',he⟩:=hex
  rw [he] at c1 ⊢
  rw [ev_fn Tryz.f123 rfl Tryz.func123 rfl rfl rfl (Nat.le_of_ble_eq_true rfl)]
  simp [c1,hm,rLk]
theorem ev_impl_LockGive (m m1 m2 m3:M) (hm:m.isOwn=false) (t:List HoldT) (hb:t.length≤4000000) (hk:∀ h∈t,holdB h) (who:Int) (write:Bool) (s:Sp) :
    ev E 126 [.v m false [.sl (t.map holdL)],.v m1 false [.int .i64 who],.v m2 false [.bool write],.v m3 true (spL s)]=some (giveI t who write s):=by
  have c0:=fun m m1 m2 m3 hm=>ev_impl_LockBars m m1 m2 m3 hm t hb hk who write s
  have c1:=fun may m m1 m2 m3 mf hm=>ev_turned m m1 m2 m3 mf hm t hb hk who s may 177 [.ref [.bool write]] _ _ ⟨rfl,rfl⟩ (fun _ _ _ _ q1 q2 q3=>ev_lkGiveFn q1 q2 q3 mf _ _ _ write) (.inr ⟨_,rfl⟩)
  have hr:∀ may,(lockOk t=true→whoOk who=true→spOk s=true→may=eqI (barsL t who write s).length 0)→(if lockOk t=true then rLk (turnT t who s may (if write=true then cutP (inF (t.getD who.toNat noH).r) (inF [s]) else orP (inF (t.getD who.toNat noH).r) (cutP (inF [s]) (inF (t.getD who.toNat noH).w))) (if write=true then orP (inF (t.getD who.toNat noH).w) (inF [s]) else inF (t.getD who.toNat noH).w)).1 (turnT t who s may (if write=true then cutP (inF (t.getD who.toNat noH).r) (inF [s]) else orP (inF (t.getD who.toNat noH).r) (cutP (inF [s]) (inF (t.getD who.toNat noH).w))) (if write=true then orP (inF (t.getD who.toNat noH).w) (inF [s]) else inF (t.getD who.toNat noH).w)).2 else rLk [] false)=giveI t who write s:=by
    intro may hmay
    unfold giveI
    cases e1:lockOk t
    · rfl
    · rw [turn_give t (lockOk_iff.1 e1)]
      cases e2:whoOk who
      · rfl
      · cases e3:spOk s
        · rfl
        · rw [hmay e1 e2 e3]
          cases eqI (barsL t who write s).length 0<;>rfl
  have hb2:lockOk t=true→whoOk who=true→spOk s=true→eqI (barsI t who write s).length 0=eqI (barsL t who write s).length 0:=fun e1 e2 e3=>by
    unfold barsI
    rw [e1,e2,e3];rfl
  have c2:=fun m m1 m2 m3 mf hm=>(c1 (eqI (barsI t who write s).length 0) m m1 m2 m3 mf hm).trans (congrArg some (hr _ hb2))
  have hex:∃ t' b',giveI t who write s=rLk t' b':=by
    unfold giveI
    split
    · split<;>exact ⟨_,_,rfl⟩
    · exact ⟨_,_,rfl⟩
  obtain ⟨t',b',he⟩:=hex
  rw [he] at c2 ⊢
  clear c1 hr hb2 he
  rw [ev_fn Tryz.f126 rfl Tryz.func126 rfl rfl rfl (Nat.le_of_ble_eq_true rfl)]
  simp [c0,c2,hm,rLk]
theorem ev_impl_LockOff (m m1:M) (hm:m.isOwn=false) (t:List HoldT) (hb:t.length≤4000000) (hk:∀ h∈t,holdB h) (who:Int) :
    ev E 136 [.v m false [.sl (t.map holdL)],.v m1 false [.int .i64 who]]=some (if lockOk t=true then (if whoOk who=true then rLk (t.set who.toNat noH) true else rLk t false) else rLk [] false):=by
  have c1:=fun m m1 m2 hm=>ev_impl_LockDrop m m1 m2 hm t hb hk who whole
  have hr:dropI t who whole=(if lockOk t=true then (if whoOk who=true then rLk (t.set who.toNat noH) true else rLk t false) else rLk [] false):=by
    unfold dropI
    rw [whole_ok,Bool.and_true]
    cases e1:lockOk t
    · rfl
    · cases e2:whoOk who
      · rfl
      · have P:=lockOk_iff.1 e1
        obtain ⟨i,hi,rfl⟩:=who_nat e2
        simp only [if_true,Int.toNat_natCast]
        have:lockDrop t i whole=(t.set i noH,true):=by
          unfold lockDrop
          rw [cut_whole (P.r i hi),cut_whole (P.w i hi)]
          show (if lockOk (t.set i noH)=true then (t.set i noH,true) else (t,false))=_
          rw [if_pos (lockOk_iff.2 (noH_ok P i))]
        rw [this]
  rw [hr] at c1
  have hex:∃ t' b',(if lockOk t=true then (if whoOk who=true then rLk (t.set who.toNat noH) true else rLk t false) else rLk [] false)=rLk t' b':=by
    split
    · split<;>exact ⟨_,_,rfl⟩
    · exact ⟨_,_,rfl⟩
  obtain ⟨t',b',he⟩:=hex
  rw [he] at c1 ⊢
  simp only [whole,spL] at c1
  rw [ev_fn Tryz.f136 rfl Tryz.func136 rfl rfl rfl (Nat.le_of_ble_eq_true rfl)]
  simp [c1,hm,rLk]
set_option maxRecDepth 100000
set_option maxHeartbeats 4000000
def clr1 (x:Sp) (ys:List Sp):Bool:=ys.all fun y=>!ltI (meetS x y).1 (meetS x y).2
theorem lp_clear1 (m m':M) (xs ys:List Sp) (hx:xs.length≤4000000) (hy:ys.length≤4000000) (i:Nat) (hi:i<xs.length) (a:Code) (ha:a=lp Tryz.f183 1):∀ (n k:Nat),k+n=ys.length →
    loopC E (ev E) 183 a { V:=[(0,.v m false [.sl (xs.map spL)]),(1,.v m' false [.sl (ys.map spL)]),(5,vi i),(6,vi k)],H:=[],ps:=[] } =
      if clr1 xs[i] (ys.drop k)=true then some (.exit 2,{ V:=[(0,.v m false [.sl (xs.map spL)]),(1,.v m' false [.sl (ys.map spL)]),(5,vi i),(6,vi ys.length),(18,vb false)],H:=[],ps:=[] })
      else some (.ret,{ V:=[(4,vb false)],H:=[],ps:=[] })
  | 0,k,h=>by
    rw [loopC_of _ _ _ _ ha]
    obtain rfl:k=ys.length:=by omega
    simp [lp,loopsOf,Tryz.f183,clr1]
  | n+1,k,h=>by
    have hk:k<ys.length:=by omega
    have ih:=lp_clear1 m m' xs ys hx hy i hi a ha n (k+1) (by omega)
    push_cast at ih
    have hw:=wrapN k (by omega)
    have c1:=fun m m'=>ev_l1Meet m m' xs[i] ys[k]
    have hc:clr1 xs[i] (ys.drop k)=(!ltI (meetS xs[i] ys[k]).1 (meetS xs[i] ys[k]).2&&clr1 xs[i] (ys.drop (k+1))):=by
      rw [List.drop_eq_getElem_cons hk];rfl
    rw [loopC_of _ _ _ _ ha,hc]
    clear ha
    generalize clr1 xs[i] (ys.drop (k+1))=r at ih ⊢
    cases e1:ltI (meetS xs[i] ys[k]).1 (meetS xs[i] ys[k]).2
    · simp only [e1,Bool.false_eq_true,if_false] at c1
      simp [lp,loopsOf,Tryz.f183,hi,hk,hw,c1,ih]
    · simp only [e1,if_true] at c1
      simp [lp,loopsOf,Tryz.f183,hi,hk,hw,c1]
theorem lp_clear0 (m m':M) (xs ys:List Sp) (hx:xs.length≤4000000) (hy:ys.length≤4000000) (a:Code) (ha:a=lp Tryz.f183 0):∀ (n i:Nat),i+n=xs.length →
    loopC E (ev E) 183 a { V:=[(0,.v m false [.sl (xs.map spL)]),(1,.v m' false [.sl (ys.map spL)]),(5,vi i)],H:=[],ps:=[] } =
      if clearS (xs.drop i) ys=true then some (.exit 0,{ V:=[(0,.v m false [.sl (xs.map spL)]),(1,.v m' false [.sl (ys.map spL)]),(5,vi xs.length),(12,vb false)],H:=[],ps:=[] })
      else some (.ret,{ V:=[(4,vb false)],H:=[],ps:=[] })
  | 0,i,h=>by
    rw [loopC_of _ _ _ _ ha]
    obtain rfl:i=xs.length:=by omega
    simp [lp,loopsOf,Tryz.f183,clearS]
  | n+1,i,h=>by
    have hi:i<xs.length:=by omega
    have ih:=lp_clear0 m m' xs ys hx hy a ha n (i+1) (by omega)
    push_cast at ih
    have hw:=wrapN i (by omega)
    have hin:=fun a ha=>lp_clear1 m m' xs ys hx hy i hi a ha ys.length 0 (by omega)
    push_cast at hin
    have hc:clearS (xs.drop i) ys=(clr1 xs[i] ys&&clearS (xs.drop (i+1)) ys):=by
      rw [List.drop_eq_getElem_cons hi];rfl
    rw [loopC_of _ _ _ _ ha,hc]
    clear ha
    simp only [List.drop_zero] at hin
    generalize clearS (xs.drop (i+1)) ys=r at ih ⊢
    simp [lp,loopsOf,Tryz.f183,hi,hw]
    rw [hin _ ?_]
    · cases clr1 xs[i] ys<;>simp [hw,ih]
    · rfl
theorem ev_l4Clear (m m':M) (xs ys:List Sp) (hx:xs.length≤4000000) (hy:ys.length≤4000000):ev E 183 [.v m false [.sl (xs.map spL)],.v m' false [.sl (ys.map spL)]]=some (rB (clearS xs ys)):=by
  have l0:=fun a ha=>lp_clear0 m m' xs ys hx hy a ha xs.length 0 (by omega)
  push_cast at l0
  simp only [List.drop_zero] at l0
  rw [ev_fn Tryz.f183 rfl Tryz.func183 rfl rfl rfl (Nat.le_of_ble_eq_true rfl)]
  simp
  rw [l0 _ ?_]
  · cases clearS xs ys<;>simp
  · rfl
theorem lp_sLock1 (m:M) (hm:m.isOwn=false) (t:List HoldT) (hl:t.length=3) (hk:∀ h∈t,holdB h) (i:Nat) (hi:i<3) (a:Code) (ha:a=lp Tryz.f137 1):∀ (n k:Nat),k+n=3 →
    loopC E (ev E) 137 a { V:=[(0,.v m false [.sl (t.map holdL)]),(3,vi i),(4,vi k)],H:=[],ps:=[] } =
      if allTo (fun k=>(k==i) || (clearS (t.getD i noH).w (t.getD k noH).w&&clearS (t.getD i noH).w (t.getD k noH).r)) n k=true then some (.exit 2,{ V:=[(0,.v m false [.sl (t.map holdL)]),(3,vi i),(4,vi 3),(47,vb false)],H:=[],ps:=[] })
      else some (.ret,{ V:=[(2,vb false)],H:=[],ps:=[] })
  | 0,k,h=>by
    rw [loopC_of _ _ _ _ ha]
    obtain rfl:k=3:=by omega
    simp [lp,loopsOf,Tryz.f137,allTo,hl]
  | n+1,k,h=>by
    have hkt:k<t.length:=by omega
    have hit:i<t.length:=by omega
    have hK:(k:Int)<3:=by omega
    have hk3:k<3:=by omega
    have ih:=lp_sLock1 m hm t hl hk i hi a ha n (k+1) (by omega)
    push_cast at ih
    have hw:=wrapN k (by omega)
    have hB:=hk _ (List.getElem_mem hkt)
    have hB2:=hk _ (List.getElem_mem hit)
    have c1:=fun m m'=>ev_l4Clear m m' t[i].w t[k].w hB2.2 hB.2
    have c2:=fun m m'=>ev_l4Clear m m' t[i].w t[k].r hB2.2 hB.1
    have hin:eqI (k:Int) i=(k==i):=by rw [Bool.eq_iff_iff,eqI_iff,beq_iff_eq];omega
    rw [loopC_of _ _ _ _ ha,allTo]
    clear ha
    have hg:((k==i) || (clearS (t.getD i noH).w (t.getD k noH).w&&clearS (t.getD i noH).w (t.getD k noH).r))=(eqI (k:Int) i || (clearS t[i].w t[k].w&&clearS t[i].w t[k].r)):=by rw [hin,getD_lt _ hit,getD_lt _ hkt]
    rw [hg]
    generalize allTo (fun k=>(k==i) || (clearS (t.getD i noH).w (t.getD k noH).w&&clearS (t.getD i noH).w (t.getD k noH).r)) n (k+1)=r at ih ⊢
    clear hg hin
    have hl3:(t.length:Int)=3:=by omega
    cases e1:eqI (k:Int) i
    · cases e2:clearS t[i].w t[k].w
      · simp [lp,loopsOf,Tryz.f137,hl,hl3,hK,hk3,hkt,hit,hi,hw,hm,c1,e1,e2]
      · cases e3:clearS t[i].w t[k].r<;>simp [lp,loopsOf,Tryz.f137,hl,hl3,hK,hk3,hkt,hit,hi,hw,hm,c1,c2,e1,e2,e3,ih]
    · simp [lp,loopsOf,Tryz.f137,hl,hl3,hK,hk3,hkt,hit,hi,hw,hm,e1,ih]
theorem lp_sLock0 (m:M) (hm:m.isOwn=false) (t:List HoldT) (hl:t.length=3) (hk:∀ h∈t,holdB h) (a:Code) (ha:a=lp Tryz.f137 0):∀ (n i:Nat),i+n=3 →
    loopC E (ev E) 137 a { V:=[(0,.v m false [.sl (t.map holdL)]),(3,vi i)],H:=[],ps:=[] } =
      if allTo (lockAt t) n i=true then some (.exit 0,{ V:=[(0,.v m false [.sl (t.map holdL)]),(3,vi 3),(11,vb false)],H:=[],ps:=[] })
      else some (.ret,{ V:=[(2,vb false)],H:=[],ps:=[] })
  | 0,i,h=>by
    rw [loopC_of _ _ _ _ ha]
    obtain rfl:i=3:=by omega
    simp [lp,loopsOf,Tryz.f137,allTo,hl]
  | n+1,i,h=>by
    have hi:i<3:=by omega
    have hI:(i:Int)<3:=by omega
    have hit:i<t.length:=by omega
    have ih:=lp_sLock0 m hm t hl hk a ha n (i+1) (by omega)
    push_cast at ih
    have hw:=wrapN i (by omega)
    have hB:=hk _ (List.getElem_mem hit)
    have c1:=fun m=>ev_spec_SpansOk m t[i].r (by have:=hB.1;omega)
    have c2:=fun m=>ev_spec_SpansOk m t[i].w (by have:=hB.2;omega)
    have c3:=fun m m'=>ev_l4Clear m m' t[i].r t[i].w hB.1 hB.2
    have hin:=fun a ha=>lp_sLock1 m hm t hl hk i hi a ha 3 0 (by omega)
    push_cast at hin
    rw [loopC_of _ _ _ _ ha,allTo]
    clear ha
    have hg:lockAt t i=(spsOk t[i].r&&spsOk t[i].w&&clearS t[i].r t[i].w&&allTo (fun k=>(k==i) || (clearS (t.getD i noH).w (t.getD k noH).w&&clearS (t.getD i noH).w (t.getD k noH).r)) 3 0):=by rw [lockAt,getD_lt _ hit]
    rw [hg]
    clear hg
    generalize allTo (lockAt t) n (i+1)=r at ih ⊢
    generalize allTo (fun k=>(k==i) || (clearS (t.getD i noH).w (t.getD k noH).w&&clearS (t.getD i noH).w (t.getD k noH).r)) 3 0=z at hin ⊢
    cases e1:spsOk t[i].r
    · simp [lp,loopsOf,Tryz.f137,hl,hI,hi,hit,hw,hm,c1,e1]
    · cases e2:spsOk t[i].w
      · simp [lp,loopsOf,Tryz.f137,hl,hI,hi,hit,hw,hm,c1,c2,e1,e2]
      · cases e3:clearS t[i].r t[i].w
        · simp [lp,loopsOf,Tryz.f137,hl,hI,hi,hit,hw,hm,c1,c2,c3,e1,e2,e3]
        · simp [lp,loopsOf,Tryz.f137,hl,hI,hi,hit,hw,hm,c1,c2,c3,e1,e2,e3]
          rw [hin _ ?_]
          · cases z<;>simp [hw,ih]
          · rfl
theorem ev_spec_LockOk (m:M) (hm:m.isOwn=false) (t:List HoldT) (hb:t.length≤4000000) (hk:∀ h∈t,holdB h):ev E 137 [.v m false [.sl (t.map holdL)]]=some (rB (lockOk t)):=by
  rw [ev_fn Tryz.f137 rfl Tryz.func137 rfl rfl rfl (Nat.le_of_ble_eq_true rfl)]
  rw [lockOk]
  cases e1:eqI t.length 3
  · simp [e1]
  · have l0:=fun a ha=>lp_sLock0 m hm t (eqI3.1 e1) hk a ha 3 0 (by omega)
    push_cast at l0
    simp [e1]
    rw [l0 _ ?_]
    · cases allTo (lockAt t) 3 0<;>simp
    · rfl
theorem lp_l4Copy (m:M) (hm:m.isOwn=false) (t:List HoldT) (hb:t.length≤4000000) (hk:∀ h∈t,holdB h) (a:Code) (ha:a=lp Tryz.f103 0):∀ (n i:Nat) (out:List HoldT),i+n=t.length→out.length=i →
    loopC E (ev E) 103 a { V:=[(0,.v m false [.sl (t.map holdL)]),(3,at1 3),(4,vi i)],H:=[ow (.c 3) [.sl (out.map holdL)]],ps:=[] } =
      some (.exit 0,{ V:=[(0,.v m false [.sl (t.map holdL)]),(3,at1 3),(4,vi t.length),(9,vb false)],H:=[ow (.c 3) [.sl ((out++t.drop i).map holdL)]],ps:=[] })
  | 0,i,out,h,ho=>by
    rw [loopC_of _ _ _ _ ha]
    obtain rfl:i=t.length:=by omega
    simp [lp,loopsOf,Tryz.f103]
  | n+1,i,out,h,ho=>by
    have hlt:i<t.length:=by omega
    have hw:=wrapN i (by omega)
    have ih:=lp_l4Copy m hm t hb hk a ha n (i+1) (out++[t[i]]) (by omega) (by simp;omega)
    push_cast at ih
    have hB:=hk _ (List.getElem_mem hlt)
    have b1:=hB.1
    have b2:=hB.2
    have h1:(out.length+1)*48≤17592186044416:=by omega
    have h2:out.length+1≤17592186044416:=by omega
    have h3:t[i].r.length*16≤17592186044416:=by omega
    have h4:t[i].r.length≤17592186044416:=by omega
    have h5:t[i].w.length*16≤17592186044416:=by omega
    have h6:t[i].w.length≤17592186044416:=by omega
    rw [loopC_of _ _ _ _ ha,List.drop_eq_getElem_cons hlt]
    clear ha
    simp [lp,loopsOf,Tryz.f103,hlt,hw,hm,h1,h2,h3,h4,h5,h6]
    simpa using ih
theorem ev_l4Copy (m:M) (hm:m.isOwn=false) (t:List HoldT) (hb:t.length≤4000000) (hk:∀ h∈t,holdB h):ev E 103 [.v m false [.sl (t.map holdL)]]=some { rs:=[.v .own false [.sl (t.map holdL)]],outs:=[] }:=by
  have l0:=lp_l4Copy m hm t hb hk _ rfl t.length 0 [] (by omega) rfl
  push_cast at l0
  simp only [List.drop_zero,List.nil_append,List.map_nil] at l0
  rw [ev_fn Tryz.f103 rfl Tryz.func103 rfl rfl rfl (Nat.le_of_ble_eq_true rfl)]
  simp
  rw [loopC_at ?_ l0]
  · simp
  · rfl
theorem set_bd {t:List HoldT} (hk:∀ h∈t,holdB h) (i:Nat) {h:HoldT} (hh:holdB h):∀ x∈t.set i h,holdB x:=fun x hx=>by
  rcases List.mem_or_eq_of_mem_set hx with hx | rfl
  · exact hk x hx
  · exact hh
theorem ev_l4Put (m m1 m2:M) (hm:m.isOwn=false) (hm2:m2.isOwn=false) (t:List HoldT) (hb:t.length≤4000000) (hk:∀ h∈t,holdB h) (i:Nat) (hi:i<t.length) (h:HoldT) (hh:holdB h) :
    ev E 190 [.v m false [.sl (t.map holdL)],.v m1 false [.int .i64 i],.v m2 true (holdL h)]=some (rLk (putL t i h).1 (putL t i h).2):=by
  have c1:=fun m hm=>ev_l4Copy m hm t hb hk
  have c2:=fun m hm=>ev_l4Copy m hm (t.set i h) (by simpa using hb) (set_bd hk i hh)
  have c3:=fun m hm=>ev_spec_LockOk m hm (t.set i h) (by simpa using hb) (set_bd hk i hh)
  simp only [List.map_set] at c2 c3
  rw [putL_or]
  rw [ev_fn Tryz.f190 rfl Tryz.func190 rfl rfl rfl (Nat.le_of_ble_eq_true rfl)]
  cases e1:lockOk (t.set i h)<;>simp [c1,c2,c3,e1,hm,hm2,hi,rLk,List.map_set]
theorem lp_l4May (m m1:M) (hm:m.isOwn=false) (h:HoldT) (hb:holdB h) (write:Bool) (s:Sp) (hi:Nat) (hs:s.2=hi) (h48:hi≤48) (a:Code) (ha:a=lp Tryz.f146 0):∀ (n i:Nat),i+n=hi →
    loopC E (ev E) 146 a { V:=[(1,.v m1 false [.bool write]),(3,adc 3),(5,adc 5),(7,vi i)],H:=[bxm (.c 3) m (holdL h),bx (.c 5) (spL s)],ps:=[] } =
      if allTo (mayAt h write) n i=true then some (.exit 0,{ V:=[(1,.v m1 false [.bool write]),(3,adc 3),(5,adc 5),(7,vi hi),(13,vb false)],H:=[bxm (.c 3) m (holdL h),bx (.c 5) (spL s)],ps:=[] })
      else some (.ret,{ V:=[(6,vb false)],H:=[],ps:=[] })
  | 0,i,h0=>by
    rw [loopC_of _ _ _ _ ha]
    obtain rfl:i=hi:=by omega
    simp [lp,loopsOf,Tryz.f146,allTo,hs]
  | n+1,i,h0=>by
    have hlt:i<hi:=by omega
    have ih:=lp_l4May m m1 hm h hb write s hi hs h48 a ha n (i+1) (by omega)
    push_cast at ih
    have hw:=wrapN i (by omega)
    have c1:∀ m m',ev E 145 [.v m false [.sl (h.w.map spL)],.v m' false [.int .i64 i]]=some (rB (inF h.w i)):=fun m m'=>ev_spec_l1In m m' h.w i (by have:=hb.2;omega)
    have c2:∀ m m',ev E 145 [.v m false [.sl (h.r.map spL)],.v m' false [.int .i64 i]]=some (rB (inF h.r i)):=fun m m'=>ev_spec_l1In m m' h.r i (by have:=hb.1;omega)
    rw [loopC_of _ _ _ _ ha,allTo,mayAt]
    clear ha
    generalize allTo (mayAt h write) n (i+1)=r at ih ⊢
    cases e1:inF h.w i
    · cases write
      · cases e2:inF h.r i<;>simp [lp,loopsOf,Tryz.f146,hs,hlt,hw,hm,c1,c2,e1,e2,ih]
      · simp [lp,loopsOf,Tryz.f146,hs,hlt,hw,hm,c1,c2,e1,ih]
    · simp [lp,loopsOf,Tryz.f146,hs,hlt,hw,hm,c1,c2,e1,ih]
theorem ev_l4May (m m1 m2:M) (hm:m.isOwn=false) (h:HoldT) (hb:holdB h) (write:Bool) (s:Sp) (h1:0≤s.1) (h2:s.1≤s.2) (h3:s.2≤48) :
    ev E 146 [.v m true (holdL h),.v m1 false [.bool write],.v m2 true (spL s)]=some (rB (lockMay h write s)):=by
  obtain ⟨lo,hlo⟩:∃ lo:Nat,s.1=lo:=⟨s.1.toNat,by omega⟩
  obtain ⟨hi,hhi⟩:∃ hi:Nat,s.2=hi:=⟨s.2.toNat,by omega⟩
  have l0:=lp_l4May m m1 hm h hb write s hi hhi (by omega) _ rfl (hi - lo) lo (by omega)
  have e:lockMay h write s=allTo (mayAt h write) (hi - lo) lo:=by
    unfold lockMay
    rw [hlo,hhi]
    congr 1
    omega
  rw [e]
  rw [ev_fn Tryz.f146 rfl Tryz.func146 rfl rfl rfl (Nat.le_of_ble_eq_true rfl)]
  simp [hm,hlo]
  rw [loopC_at ?_ l0]
  · cases allTo (mayAt h write) (hi - lo) lo<;>simp
  · rfl
theorem lp_l4Bars (m m1 m2:M) (hm:m.isOwn=false) (t:List HoldT) (hl:t.length=3) (hk:∀ h∈t,holdB h) (who:Nat) (write:Bool) (s:Sp) (a:Code) (ha:a=lp Tryz.f191 0):∀ (n i:Nat) (out:List Int),i+n=3→out.length≤i →
    loopC E (ev E) 191 a { V:=[(0,.v m false [.sl (t.map holdL)]),(1,.v m1 false [.int .i64 who]),(2,.v m2 false [.bool write]),(9,at1 9),(10,at1 10),(11,vi i)],H:=[ow (.c 9) [.sl (intsL out)],ow (.c 10) [.sl [spL s]]],ps:=[] } =
      some (.exit 0,{ V:=[(0,.v m false [.sl (t.map holdL)]),(1,.v m1 false [.int .i64 who]),(2,.v m2 false [.bool write]),(9,at1 9),(10,at1 10),(11,vi 3),(18,vb false)],H:=[ow (.c 9) [.sl (intsL (out++barsF (barsAt t who write s) n i))],ow (.c 10) [.sl [spL s]]],ps:=[] })
  | 0,i,out,h,ho=>by
    rw [loopC_of _ _ _ _ ha]
    obtain rfl:i=3:=by omega
    simp [lp,loopsOf,Tryz.f191,barsF,hl]
  | n+1,i,out,h,ho=>by
    have hi:i<3:=by omega
    have hI:(i:Int)<3:=by omega
    have hit:i<t.length:=by omega
    have hw:=wrapN i (by omega)
    have hB:=hk _ (List.getElem_mem hit)
    have c1:=fun m m'=>ev_l4Clear m m' t[i].w [s] hB.2 (by simp)
    have c2:=fun m m'=>ev_l4Clear m m' t[i].r [s] hB.1 (by simp)
    simp only [List.map_cons,List.map_nil] at c1 c2
    have hin:eqI (i:Int) who=(i==who):=by rw [Bool.eq_iff_iff,eqI_iff,beq_iff_eq];omega
    have hba:barsAt t who write s i=(!eqI (i:Int) who&&(!clearS t[i].w [s] || (write&&!clearS t[i].r [s]))):=by rw [barsAt,hin,getD_lt _ hit]
    have h1:(out.length+1)*8≤17592186044416:=by omega
    have h2:out.length+1≤17592186044416:=by omega
    rw [barsF]
    have ih0:=lp_l4Bars m m1 m2 hm t hl hk who write s a ha n (i+1) out (by omega) (by omega)
    have ih1:=lp_l4Bars m m1 m2 hm t hl hk who write s a ha n (i+1) (out++[(i:Int)]) (by omega) (by simp;omega)
    push_cast at ih0 ih1
    rw [loopC_of _ _ _ _ ha]
    clear ha
    generalize barsF (barsAt t who write s) n (i+1)=tl at *
    generalize barsAt t who write s i=ba at *
    clear hin
    subst hba
    cases e1:eqI (i:Int) who
    · cases e2:clearS t[i].w [s]
      · simp [lp,loopsOf,Tryz.f191,hl,hI,hi,hit,hw,hm,c1,e1,e2,h1,h2]
        simpa using ih1
      · cases write
        · simp [lp,loopsOf,Tryz.f191,hl,hI,hi,hit,hw,hm,c1,c2,e1,e2,h1,h2]
          simpa using ih0
        · cases e3:clearS t[i].r [s]
          · simp [lp,loopsOf,Tryz.f191,hl,hI,hi,hit,hw,hm,c1,c2,e1,e2,e3,h1,h2]
            simpa using ih1
          · simp [lp,loopsOf,Tryz.f191,hl,hI,hi,hit,hw,hm,c1,c2,e1,e2,e3,h1,h2]
            simpa using ih0
    · simp [lp,loopsOf,Tryz.f191,hl,hI,hi,hit,hw,hm,e1,h1,h2]
      simpa using ih0
theorem ev_l4Bars (m m1 m2 m3:M) (hm:m.isOwn=false) (t:List HoldT) (hl:t.length=3) (hk:∀ h∈t,holdB h) (who:Int) (hw:whoOk who=true) (write:Bool) (s:Sp) :
    ev E 191 [.v m false [.sl (t.map holdL)],.v m1 false [.int .i64 who],.v m2 false [.bool write],.v m3 true (spL s)]=some { rs:=[.v .own false [.sl (intsL (barsL t who write s))]],outs:=[] }:=by
  obtain ⟨i,hi,rfl⟩:=who_nat hw
  have l0:=lp_l4Bars m m1 m2 hm t hl hk i write s _ rfl 3 0 [] (by omega) (by simp)
  push_cast at l0
  rw [barsF_eq] at l0
  simp only [List.nil_append,List.map_nil] at l0
  rw [ev_fn Tryz.f191 rfl Tryz.func191 rfl rfl rfl (Nat.le_of_ble_eq_true rfl)]
  simp
  rw [loopC_at ?_ l0]
  · simp [barsL,lockBars]
  · rfl
end Go.Ev

