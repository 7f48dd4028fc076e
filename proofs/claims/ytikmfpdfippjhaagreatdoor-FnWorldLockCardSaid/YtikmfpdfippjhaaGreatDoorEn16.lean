/- My texts joined: EvT77, EvT58, EvT83, EvG2, EvT96, EvT80, EvT81, EvT82, EvT84. No condition. -/
import Derived.Test.YtikmfpdfippjhaaGreatDoorEn7
import Derived.Test.YtikmfpdfippjhaaGreatDoorEn12
import Derived.Test.YtikmfpdfippjhaaGreatDoorEn15
set_option linter.unusedVariables false
set_option linter.unusedSimpArgs false

set_option maxRecDepth 100000
set_option maxHeartbeats 8000000
namespace Go.Ev
open Go.Proofs
theorem lp_counts (m:M) (hm:m.isOwn=false) (w:WorldT) (C:WorldC w) (SP:StoreP w.st) (h1:w.owns.length=3) (h2:w.epochs.length=3) (h3:w.alive.length=3) (a:Code) (ha:a=lp Tryz.f92 0):∀ (n i:Nat),i+n=3 →
    loopC E (ev E) 92 a { V:=[(1,adc 1),(3,vi i)],H:=[bxm (.c 1) m (worldL w)],ps:=[] } =
      if allTo (ownAt w) n i=true then some (.exit 0,{ V:=[(1,adc 1),(3,vi 3),(45,vb false)],H:=[bxm (.c 1) m (worldL w)],ps:=[] })
      else some (.ret,{ V:=[(2,vb false)],H:=[],ps:=[] })
  | 0,i,h=>by
    rw [loopC_of _ _ _ _ ha]
    obtain rfl:i=3:=by omega
    simp [lp,loopsOf,Tryz.f92,allTo,hm]
  | n+1,i,h=>by
    have hI:(i:Int)<3:=by omega
    have a1:i<w.owns.length:=by omega
    have a2:i<w.epochs.length:=by omega
    have a3:i<w.alive.length:=by omega
    have a4:i<w.st.floors.length:=by have:=SP.floors;omega
    have ih:=lp_counts m hm w C SP h1 h2 h3 a ha n (i+1) (by omega)
    push_cast at ih
    have hw:=wrapN i (by omega)
    have B:=C.owned _ (List.getElem_mem a1)
    have hfl:=(SP.nums i (by omega)).2.2.2
    rw [getD_lt _ a4] at hfl
    have c1:∀ m,m.isOwn=false→ev E 138 [.v m true (ownL w.owns[i])]=some (rB w.owns[i].ok):=fun m hm=>ev_spec_OwnOk m hm _ _ _ (by have:=C.ownT _ (List.getElem_mem a1);omega) (by have:=B.1;omega) (by have:=B.2;omega)
    have c2:ev E 113 []=some { rs:=[.v .own true (ownL noO)],outs:=[] }:=ev_l6None
    have c3:=fun m m' hm hm'=>ev_spec_OwnSame m m' hm hm' w.owns[i] noO ⟨by decide,by decide⟩
    have hg:ownAt w i=(w.owns[i].ok&&(!ltI w.epochs[i] w.st.floors[i]&&(!ltI 100 w.epochs[i]&&(w.alive[i] || sameOwn w.owns[i] noO)))):=by
      unfold ownAt WorldT.own WorldT.ep WorldT.live
      rw [getD_lt _ a1,getD_lt _ a2,getD_lt _ a3,getD_lt _ a4]
    rw [loopC_of _ _ _ _ ha,allTo,hg]
    clear ha hg
    generalize allTo (ownAt w) n (i+1)=r at ih ⊢
    cases e1:w.owns[i].ok
    · simp [lp,loopsOf,Tryz.f92,hI,a1,hw,hm,c1,e1]
    · cases e0:ltI w.epochs[i] 0
      · cases e3:ltI 100 w.epochs[i]
        · cases e2:ltI w.epochs[i] w.st.floors[i]
          · cases e4:w.alive[i]
            · cases e5:sameOwn w.owns[i] noO<;>simp [lp,loopsOf,Tryz.f92,hI,a1,a2,a3,a4,hw,hm,c1,c2,c3,e0,e1,e2,e3,e4,e5,ih]
            · simp [lp,loopsOf,Tryz.f92,hI,a1,a2,a3,a4,hw,hm,c1,e0,e1,e2,e3,e4,ih]
          · simp [lp,loopsOf,Tryz.f92,hI,a1,a2,a3,a4,hw,hm,c1,e0,e1,e2,e3]
        · simp [lp,loopsOf,Tryz.f92,hI,a1,a2,a3,a4,hw,hm,c1,e0,e1,e3]
      · have e2:ltI w.epochs[i] w.st.floors[i]=true:=by rw [ltI_iff] at e0 ⊢;omega
        simp [lp,loopsOf,Tryz.f92,hI,a1,a2,a3,a4,hw,hm,c1,e0,e1,e2]
theorem ev_l7Counts (m:M) (hm:m.isOwn=false) (w:WorldT) (C:WorldC w):ev E 92 [.v m true (worldL w)]=some (rB (countsOk w&&allTo (ownAt w) 3 0)):=by
  have c1:=fun m=>ev_spec_LayOk m w.size w.many
  have c2:=fun m hm=>ev_spec_StoreOk m hm w.st C.stC
  have c3:=fun m hm=>ev_spec_LockOk m hm w.locks C.locks C.holds
  unfold countsOk
  cases e1:layOk w.size w.many
  · rw [ev_fn Tryz.f92 rfl Tryz.func92 rfl rfl rfl (Nat.le_of_ble_eq_true rfl)]
    simp [c1,e1,hm]
  · cases e2:storeOk w.st
    · rw [ev_fn Tryz.f92 rfl Tryz.func92 rfl rfl rfl (Nat.le_of_ble_eq_true rfl)]
      simp [c1,c2,e1,e2,hm]
    · cases e3:lockOk w.locks
      · rw [ev_fn Tryz.f92 rfl Tryz.func92 rfl rfl rfl (Nat.le_of_ble_eq_true rfl)]
        simp [c1,c2,c3,e1,e2,e3,hm]
      · cases e4:eqI w.owns.length 3
        · rw [ev_fn Tryz.f92 rfl Tryz.func92 rfl rfl rfl (Nat.le_of_ble_eq_true rfl)]
          simp [c1,c2,c3,e1,e2,e3,e4,hm]
        · cases e5:eqI w.epochs.length 3
          · rw [ev_fn Tryz.f92 rfl Tryz.func92 rfl rfl rfl (Nat.le_of_ble_eq_true rfl)]
            simp [c1,c2,c3,e1,e2,e3,e4,e5,hm]
          · cases e6:eqI w.alive.length 3
            · rw [ev_fn Tryz.f92 rfl Tryz.func92 rfl rfl rfl (Nat.le_of_ble_eq_true rfl)]
              simp [c1,c2,c3,e1,e2,e3,e4,e5,e6,hm]
            · cases e7:ltI 8 w.late.length
              · have l0:=lp_counts m hm w C (storeOk_iff.1 e2) (eqI3.1 e4) (eqI3.1 e5) (eqI3.1 e6) _ rfl 3 0 (by omega)
                push_cast at l0
                rw [ev_fn Tryz.f92 rfl Tryz.func92 rfl rfl rfl (Nat.le_of_ble_eq_true rfl)]
                simp [c1,c2,c3,e1,e2,e3,e4,e5,e6,e7,hm]
                rw [loopC_at ?_ l0]
                · cases allTo (ownAt w) 3 0<;>simp
                · rfl
              · rw [ev_fn Tryz.f92 rfl Tryz.func92 rfl rfl rfl (Nat.le_of_ble_eq_true rfl)]
                simp [c1,c2,c3,e1,e2,e3,e4,e5,e6,e7,hm]
theorem lp_sent0 (m:M) (hm:m.isOwn=false) (w:WorldT) (x:StoreT) (cs:List Int) (hc:cs.length=w.kept.length) (hb:w.kept.length≤4000000) (h2:w.epochs.length=3) (hr:∀ (i:Nat) (h:i<cs.length) (h2:i<w.kept.length),cs[i]=0→ReqP w.kept[i]) (a:Code) (ha:a=lp Tryz.f93 0):∀ (n i:Nat),i+n=cs.length →
    loopC E (ev E) 93 a { V:=[(1,adc 1),(3,adc 3),(4,at1 4),(5,vi i)],H:=[bxm (.c 1) m (worldL w),bx (.c 3) (storeL x),ow (.c 4) [.sl (intsL cs)]],ps:=[] } =
      if keptF w (w.kept.drop i) (cs.drop i)=true then some (.exit 0,{ V:=[(1,adc 1),(3,adc 3),(4,at1 4),(5,vi cs.length),(19,vb false)],H:=[bxm (.c 1) m (worldL w),bx (.c 3) (storeL x),ow (.c 4) [.sl (intsL cs)]],ps:=[] })
      else some (.ret,{ V:=[(2,vb false)],H:=[],ps:=[] })
  | 0,i,h=>by
    rw [loopC_of _ _ _ _ ha]
    obtain rfl:i=cs.length:=by omega
    rw [hc]
    simp [lp,loopsOf,Tryz.f93,keptF,hm,hc]
  | n+1,i,h=>by
    have hlc:i<cs.length:=by omega
    have hlt:i<w.kept.length:=by omega
    have ih:=lp_sent0 m hm w x cs hc hb h2 hr a ha n (i+1) (by omega)
    push_cast at ih
    have hw:=wrapN i (by omega)
    rw [loopC_of _ _ _ _ ha,List.drop_eq_getElem_cons hlt,List.drop_eq_getElem_cons hlc,keptF]
    clear ha
    have hrp:=hr i hlc hlt
    generalize keptF w (w.kept.drop (i+1)) (cs.drop (i+1))=r at ih ⊢
    cases e1:eqI cs[i] 0
    · simp [lp,loopsOf,Tryz.f93,hlt,hlc,hw,hm,e1]
    · have hq:=(hrp (eqI_iff.1 e1)).who
      obtain ⟨k,hk⟩:∃ k:Nat,w.kept[i].who=k:=⟨w.kept[i].who.toNat,by omega⟩
      have hk3:k<w.epochs.length:=by omega
      have hep:w.ep k=w.epochs[k]:=getD_lt _ hk3
      rw [hk,Int.toNat_natCast,hep]
      cases e2:eqI w.kept[i].epoch w.epochs[k]<;>simp [lp,loopsOf,Tryz.f93,hlt,hlc,hw,hm,hk,hk3,e1,e2,ih]
theorem lp_sent1 (m:M) (hm:m.isOwn=false) (w:WorldT) (x:StoreT) (hb:w.late.length≤8) (hd:∀ q∈w.late,q.data.length≤4000000) (h4:w.st.floors.length=3) (a:Code) (ha:a=lp Tryz.f93 1):∀ (n i:Nat),i+n=w.late.length →
    loopC E (ev E) 93 a { V:=[(1,adc 1),(3,adc 3),(6,vi i)],H:=[bxm (.c 1) m (worldL w),bx (.c 3) (storeL x)],ps:=[] } =
      if (w.late.drop i).all (lateAt w)=true then some (.exit 2,{ V:=[(1,adc 1),(3,adc 3),(6,vi w.late.length),(50,vb false)],H:=[bxm (.c 1) m (worldL w),bx (.c 3) (storeL x)],ps:=[] })
      else some (.ret,{ V:=[(2,vb false)],H:=[],ps:=[] })
  | 0,i,h=>by
    rw [loopC_of _ _ _ _ ha]
    obtain rfl:i=w.late.length:=by omega
    simp [lp,loopsOf,Tryz.f93,hm]
  | n+1,i,h=>by
    have hlt:i<w.late.length:=by omega
    have ih:=lp_sent1 m hm w x hb hd h4 a ha n (i+1) (by omega)
    push_cast at ih
    have hw:=wrapN i (by omega)
    have c1:=fun m=>ev_l5Req m w.late[i] (hd _ (List.getElem_mem hlt))
    rw [loopC_of _ _ _ _ ha,List.drop_eq_getElem_cons hlt,List.all_cons,lateAt]
    clear ha
    generalize (w.late.drop (i+1)).all (lateAt w)=r at ih ⊢
    cases e1:reqOk w.late[i]
    · simp [lp,loopsOf,Tryz.f93,hlt,hw,hm,c1,e1]
    · have hq:=(reqOk_iff.1 e1).who
      obtain ⟨k,hk⟩:∃ k:Nat,w.late[i].who=k:=⟨w.late[i].who.toNat,by omega⟩
      have hk3:k<w.st.floors.length:=by omega
      rw [hk,Int.toNat_natCast,getD_lt _ hk3]
      simp only [reqL,hk] at c1
      cases e2:ltI w.late[i].epoch w.st.floors[k]<;>simp [lp,loopsOf,Tryz.f93,hlt,hw,hm,hk,hk3,c1,e1,e2,ih]
theorem ev_l7Sent (m:M) (hm:m.isOwn=false) (w:WorldT) (C:WorldC w) (SP:StoreP w.st) (h2:w.epochs.length=3) (h8:w.late.length≤8):ev E 93 [.v m true (worldL w)]=some (rB (keptF w w.kept (storeAll (storeFall w.st) w.kept).2&&(w.late.all (lateAt w)&&sameStore (storeAll (storeFall w.st) w.kept).1 w.st))):=by
  have FP:=fall_ok SP
  have c4:=fun m hm=>ev_spec_StoreFall m hm w.st C.stC
  have c5:=fun m m' hm hm'=>ev_spec_StoreAll m m' hm hm' (storeFall w.st) w.kept FP.bd C.kept C.keptT
  rw [if_pos (storeOk_iff.2 SP)] at c4
  rw [if_pos (storeOk_iff.2 FP)] at c5
  simp only [rS1] at c4
  simp only [rStA] at c5
  have c6:=fun m m' hm hm'=>ev_spec_StoreSame m m' hm hm' (storeAll (storeFall w.st) w.kept).1 w.st C.st
  have hcl:=storeAll_len w.kept (storeFall w.st)
  have hcode:=storeAll_code w.kept (storeFall w.st)
  have l0:=fun a ha=>lp_sent0 m hm w (storeAll (storeFall w.st) w.kept).1 (storeAll (storeFall w.st) w.kept).2 hcl C.kept h2 hcode a ha (storeAll (storeFall w.st) w.kept).2.length 0 (by omega)
  have l1:=fun a ha=>lp_sent1 m hm w (storeAll (storeFall w.st) w.kept).1 h8 C.lateT SP.floors a ha w.late.length 0 (by omega)
  push_cast at l0 l1
  simp only [List.drop_zero] at l0 l1
  clear hcode
  generalize storeAll (storeFall w.st) w.kept=z at *
  generalize keptF w w.kept z.2=g1 at *
  generalize sameStore z.1 w.st=g2 at *
  generalize w.late.all (lateAt w)=g3 at *
  rw [ev_fn Tryz.f93 rfl Tryz.func93 rfl rfl rfl (Nat.le_of_ble_eq_true rfl)]
  simp [c4,c5,hm]
  rw [l0 _ ?_]
  · cases g1
    · simp
    · simp
      rw [l1 _ ?_]
      · cases g3<;>simp [c6,hm]
      · rfl
  · rfl
theorem lp_l7Held (m mf m2:M) (hm:m.isOwn=false) (w:WorldT) (i:Nat) (h1:i<w.locks.length) (hB:holdB w.locks[i]) (o:OwnT) (ho:w.own i=o) (ht:o.t.length=48) (ob:ownB o) (a:Code) (ha:a=lp Tryz.f95 0):∀ (n j:Nat),j+n=48 →
    loopC E (ev E) 95 a { V:=[(1,.v mf false [.str w.file]),(2,.v m2 false [.int .i64 i]),(3,adc 3),(7,adc 7),(8,vi j)],H:=[bxm (.c 3) m (worldL w),bxm (.c 7) m (ownL o)],ps:=[] } =
      if allTo (heldAt w i) n j=true then some (.exit 0,{ V:=[(1,.v mf false [.str w.file]),(2,.v m2 false [.int .i64 i]),(3,adc 3),(7,adc 7),(8,vi 48),(17,vb false)],H:=[bxm (.c 3) m (worldL w),bxm (.c 7) m (ownL o)],ps:=[] })
      else some (.ret,{ V:=[(6,vb false)],H:=[],ps:=[] })
  | 0,j,h=>by
    rw [loopC_of _ _ _ _ ha]
    obtain rfl:j=48:=by omega
    simp [lp,loopsOf,Tryz.f95,allTo,hm]
  | n+1,j,h=>by
    have hj:j<48:=by omega
    have hJ:(j:Int)<48:=by omega
    have hw:=wrapN j (by omega)
    have hfl:=file_len w
    have hjt:j<o.t.length:=by omega
    have hjf:j<w.file.length:=by omega
    have ih:=lp_l7Held m mf m2 hm w i h1 hB o ho ht ob a ha n (j+1) (by omega)
    push_cast at ih
    have hl:w.lock i=w.locks[i]:=getD_lt _ h1
    have hg:heldAt w i j=(!inF o.h j || ((inF w.locks[i].w j || (!inF o.d j&&inF w.locks[i].r j))&&(inF o.d j || eqI o.t[j].toNat w.file[j].toNat))):=by
      unfold heldAt
      rw [ho,hl,getD_lt _ hjt,getD_lt _ hjf]
    have c1:∀ m m',ev E 145 [.v m false [.sl (o.d.map spL)],.v m' false [.int .i64 j]]=some (rB (inF o.d j)):=fun m m'=>ev_spec_l1In m m' o.d j (by have:=ob.2;omega)
    have c2:∀ m m',ev E 145 [.v m false [.sl (o.h.map spL)],.v m' false [.int .i64 j]]=some (rB (inF o.h j)):=fun m m'=>ev_spec_l1In m m' o.h j (by have:=ob.1;omega)
    have c3:∀ (d:Bool) (m m1 m2:M),m.isOwn=false→ev E 146 [.v m true (holdL w.locks[i]),.v m1 false [.bool d],.v m2 true [.int .i64 j,.int .i64 ((j:Int)+1)]]=some (rB (inF w.locks[i].w j || (!d&&inF w.locks[i].r j))):=fun d m m1 m2 hm=>by
      have:=ev_l4May m m1 m2 hm w.locks[i] hB d ((j:Int),(j:Int)+1) (by dsimp only;omega) (by dsimp only;omega) (by dsimp only;omega)
      have e:lockMay w.locks[i] d ((j:Int),(j:Int)+1)=(inF w.locks[i].w j || (!d&&inF w.locks[i].r j)):=by
        unfold lockMay
        have:((j:Int)+1 - (j:Int)).toNat=1:=by omega
        dsimp only
        rw [this,Int.toNat_natCast]
        simp only [allTo,mayAt,Bool.and_true]
      rw [e] at this
      exact this
    rw [loopC_of _ _ _ _ ha,allTo,hg]
    clear ha hg
    generalize allTo (heldAt w i) n (j+1)=r at ih ⊢
    cases e1:inF o.h j
    · cases e4:inF o.d j<;>simp [lp,loopsOf,Tryz.f95,hJ,hw,hm,c1,c2,e1,e4,ih]
    · cases e4:inF o.d j
      · have c3:=c3 false
        cases e2:(inF w.locks[i].w j || (!false&&inF w.locks[i].r j))
        · rw [e2] at c3
          have e2':(inF w.locks[i].w j || inF w.locks[i].r j)=false:=by simpa using e2
          simp [-Bool.or_eq_false_iff,lp,loopsOf,Tryz.f95,hJ,hw,hm,h1,c1,c2,c3,e1,e4,e2,e2']
        · rw [e2] at c3
          have e2':(inF w.locks[i].w j || inF w.locks[i].r j)=true:=by simpa using e2
          cases e5:eqI o.t[j].toNat w.file[j].toNat<;>simp [-Bool.or_eq_true,lp,loopsOf,Tryz.f95,hJ,hw,hm,h1,hjt,hjf,c1,c2,c3,e1,e4,e2',e5,ih]
      · have c3:=c3 true
        simp only [Bool.not_true,Bool.false_and,Bool.or_false] at c3
        cases e2:inF w.locks[i].w j<;>rw [e2] at c3<;>simp [lp,loopsOf,Tryz.f95,hJ,hw,hm,h1,c1,c2,c3,e1,e4,e2,ih]
theorem ev_l7Held (m mf m2:M) (hm:m.isOwn=false) (w:WorldT) (i:Nat) (h1:i<w.locks.length) (hB:holdB w.locks[i]) (h2:i<w.owns.length) (ob:ownB w.owns[i]) (ok:w.owns[i].ok=true):ev E 95 [.v m true (worldL w),.v mf false [.str w.file],.v m2 false [.int .i64 i]]=some (rB (allTo (heldAt w i) 48 0)):=by
  have ho:w.own i=w.owns[i]:=getD_lt _ h2
  have l0:=fun a ha=>lp_l7Held m mf m2 hm w i h1 hB w.owns[i] ho (ownOk_bd ok).1 ob a ha 48 0 (by omega)
  push_cast at l0
  rw [ev_fn Tryz.f95 rfl Tryz.func95 rfl rfl rfl (Nat.le_of_ble_eq_true rfl)]
  generalize allTo (heldAt w i) 48 0=r at *
  simp [hm,h2]
  rw [l0 _ ?_]
  · cases r<;>simp
  · rfl
theorem lp_sWok (m:M) (hm:m.isOwn=false) (w:WorldT) (C:WorldC w) (LP:LockP w.locks) (h1:w.owns.length=3) (hok:∀ i,i<3→(w.own i).ok=true) (a:Code) (ha:a=lp Tryz.f29 0):∀ (n i:Nat),i+n=3 →
    loopC E (ev E) 29 a { V:=[(1,adc 1),(3,.v .own false [.str w.file]),(4,vi i)],H:=[bxm (.c 1) m (worldL w)],ps:=[] } =
      if allTo (fun i=>allTo (heldAt w i) 48 0) n i=true then some (.exit 0,{ V:=[(1,adc 1),(3,.v .own false [.str w.file]),(4,vi 3),(16,vb false)],H:=[bxm (.c 1) m (worldL w)],ps:=[] })
      else some (.ret,{ V:=[(2,vb false)],H:=[],ps:=[] })
  | 0,i,h=>by
    rw [loopC_of _ _ _ _ ha]
    obtain rfl:i=3:=by omega
    simp [lp,loopsOf,Tryz.f29,allTo,hm]
  | n+1,i,h=>by
    have hi:i<3:=by omega
    have hI:(i:Int)<3:=by omega
    have hw:=wrapN i (by omega)
    have a1:i<w.owns.length:=by omega
    have a2:i<w.locks.length:=by have:=LP.len;omega
    have ho:w.own i=w.owns[i]:=getD_lt _ a1
    have ok:=hok i hi
    rw [ho] at ok
    have c1:=fun m mf m2 hm=>ev_l7Held m mf m2 hm w i a2 (C.holds _ (List.getElem_mem a2)) a1 (C.owned _ (List.getElem_mem a1)) ok
    have ih:=lp_sWok m hm w C LP h1 hok a ha n (i+1) (by omega)
    push_cast at ih
    rw [loopC_of _ _ _ _ ha,allTo]
    clear ha
    generalize allTo (fun i=>allTo (heldAt w i) 48 0) n (i+1)=r at ih ⊢
    cases e:allTo (heldAt w i) 48 0<;>simp [lp,loopsOf,Tryz.f29,hI,hw,hm,c1,e,ih]
theorem ev_spec_WorldOk (m:M) (hm:m.isOwn=false) (w:WorldT) (C:WorldC w):ev E 29 [.v m true (worldL w)]=some (rB (worldOk w)):=by
  have c1:=fun m hm=>ev_l7Counts m hm w C
  unfold worldOk
  cases e1:countsOk w
  · rw [e1] at c1
    rw [ev_fn Tryz.f29 rfl Tryz.func29 rfl rfl rfl (Nat.le_of_ble_eq_true rfl)]
    simp [c1,hm]
  · cases f1:allTo (ownAt w) 3 0
    · rw [e1,f1] at c1
      rw [ev_fn Tryz.f29 rfl Tryz.func29 rfl rfl rfl (Nat.le_of_ble_eq_true rfl)]
      simp [c1,hm]
    · rw [e1,f1] at c1
      simp only [countsOk,Bool.and_eq_true,storeOk_iff,lockOk_iff,eqI3,Bool.not_eq_true',ltI_not] at e1
      obtain ⟨hl,SP,LP,h1,h2,h3,h8⟩:=e1
      have hok:∀ i,i<3→(w.own i).ok=true:=fun i hi=>by
        have:=(allTo_iff _ 3 0).1 f1 i (by omega) (by omega)
        simp only [ownAt,Bool.and_eq_true] at this
        exact this.1
      have c2:=fun m hm=>ev_l7Sent m hm w C SP h2 (by omega)
      have c3:=fun m hm=>ev_l7File m hm w hl SP.now
      have l0:=fun a ha=>lp_sWok m hm w C LP h1 hok a ha 3 0 (by omega)
      push_cast at l0
      generalize storeAll (storeFall w.st) w.kept=z at *
      generalize keptF w w.kept z.2=g1 at *
      generalize sameStore z.1 w.st=g2 at *
      generalize w.late.all (lateAt w)=g3 at *
      generalize allTo (fun i=>allTo (heldAt w i) 48 0) 3 0=g4 at *
      cases g1
      · rw [ev_fn Tryz.f29 rfl Tryz.func29 rfl rfl rfl (Nat.le_of_ble_eq_true rfl)]
        simp [c1,c2,hm]
      · cases g3
        · rw [ev_fn Tryz.f29 rfl Tryz.func29 rfl rfl rfl (Nat.le_of_ble_eq_true rfl)]
          simp [c1,c2,hm]
        · cases g2
          · rw [ev_fn Tryz.f29 rfl Tryz.func29 rfl rfl rfl (Nat.le_of_ble_eq_true rfl)]
            simp [c1,c2,hm]
          · rw [ev_fn Tryz.f29 rfl Tryz.func29 rfl rfl rfl (Nat.le_of_ble_eq_true rfl)]
            simp [c1,c2,c3,hm]
            rw [l0 _ ?_]
            · cases g4<;>simp
            · rfl
end Go.Ev


set_option maxRecDepth 100000
set_option maxHeartbeats 8000000
namespace Go.Ev
open Go.Proofs
@[simp] theorem eqAgg_Lay:eqAgg Tryz.prog 24=true:=by kernel_rfl
end Go.Ev


set_option maxRecDepth 100000
set_option maxHeartbeats 4000000
namespace Go.Ev
open Go.Proofs
def fileB (w:WorldT):Bs:=if worldOk w=true then w.file else []
theorem ev_impl_WorldFile (m:M) (hm:m.isOwn=false) (w:WorldT) (C:WorldC w):ev E 14 [.v m true (worldL w)]=some { rs:=[.v .own false [.str (fileB w)]],outs:=[] }:=by
  have c1:=fun m hm=>ev_impl_WorldOk m hm w C
  unfold fileB
  cases e:worldOk w
  · rw [ev_fn Tryz.f14 rfl Tryz.func14 rfl rfl rfl (Nat.le_of_ble_eq_true rfl)]
    simp [c1,e,hm]
  · have P:=worldOk_iff.1 e
    have c2:=fun m hm=>ev_stored m hm w (layOk_iff.2 P.lay) P.st.now
    rw [ev_fn Tryz.f14 rfl Tryz.func14 rfl rfl rfl (Nat.le_of_ble_eq_true rfl)]
    simp [c1,c2,e,hm]
end Go.Ev


namespace Go.Ev
@[simp] theorem opnd_global (E:Env) (s:St) (g:Nat):opnd E s (.global g)=match E.glob g with | some ls=>.v .ro false [.ref ls] | none=>.dead:=rfl
end Go.Ev


set_option maxRecDepth 100000
set_option maxHeartbeats 8000000
namespace Go.Ev
open Go.Proofs
theorem overAll_len (t:Bs):∀ (ds:List Sp) (s:Bs),(∀ d∈ds,0≤d.1∧d.1<d.2∧d.2≤48)→t.length=48→s.length=48→(overAll t ds s).length=48:=fun ds s hd ht hs=>(overAll_get t ht ds s hd hs).1
theorem lp_iText1 (m:M) (w:WorldT) (i:Nat) (t:Bs) (ht:t.length=48) (ds:List Sp) (hd:∀ d∈ds,0≤d.1∧d.1<d.2∧d.2≤48) (hN:ds.length≤4000000) (a:Code) (ha:a=lp Tryz.f13 1):∀ (n k:Nat) (s:Bs),k+n=ds.length→s.length=48 →
    loopC E (ev E) 13 a { V:=[(3,at1 3),(15,.v m false [.sl (w.owns.map ownL)]),(16,vi w.owns.length),(17,vi i),(23,at1 23),(24,vi ds.length),(25,vi k)],H:=[ow (.c 3) [.sl (rowsOfBytes s)],ow (.c 23) [.sl ((ds.map fun d=>(d.1,subS t d)).map ptL)]],ps:=[] } =
      some (.exit 2,{ V:=[(3,at1 3),(15,.v m false [.sl (w.owns.map ownL)]),(16,vi w.owns.length),(17,vi i),(23,at1 23),(24,vi ds.length),(25,vi ds.length),(26,vb false)],H:=[ow (.c 3) [.sl (rowsOfBytes (overAll t (ds.drop k) s))],ow (.c 23) [.sl ((ds.map fun d=>(d.1,subS t d)).map ptL)]],ps:=[] })
  | 0,k,s,h,hs=>by
    rw [loopC_of _ _ _ _ ha]
    obtain rfl:k=ds.length:=by omega
    simp [lp,loopsOf,Tryz.f13,overAll]
  | n+1,k,s,h,hs=>by
    have hlt:k<ds.length:=by omega
    have hw:=wrapN k (by omega)
    have h0:=hd _ (List.getElem_mem hlt)
    have hov:(overS s ds[k] (subS t ds[k])).length=48:=by
      have:=overAll_len t [ds[k]] s (fun d hd=>by rw [List.mem_singleton.1 hd];exact h0) ht hs
      simpa [overAll] using this
    have ih:=lp_iText1 m w i t ht ds hd hN a ha n (k+1) _ (by omega) hov
    push_cast at ih
    rw [loopC_of _ _ _ _ ha,List.drop_eq_getElem_cons hlt,overAll]
    clear ha hov
    obtain ⟨lo,hlo⟩:∃ lo:Nat,ds[k].1=lo:=⟨ds[k].1.toNat,by omega⟩
    have hxl:(subS t ds[k]).length=(ds[k].2 - ds[k].1).toNat:=by simp [subS];omega
    have hp:ds[k]=((lo:Int),(lo:Int)+(subS t ds[k]).length):=by
      apply Prod.ext
      · exact hlo
      · dsimp only;omega
    have hgp:((ds.map fun d=>(d.1,subS t d)).map ptL)[k]?=some [.int .i64 lo,.str (subS t ds[k])]:=by
      rw [List.getElem?_map,List.getElem?_map,List.getElem?_eq_getElem hlt]
      simp only [Option.map_some,ptL,hlo]
    have ho:=rows_over s (subS t ds[k]) lo
    rw [← hp] at ho
    have hr:=rows_one s
    have hl:=rows_len s
    have hlx:=rows_len (subS t ds[k])
    have hxt:(subS t ds[k]).take (48 - lo)=subS t ds[k]:=List.take_of_length_le (by omega)
    have q1:lo<48:=by omega
    have q2:(lo:Int)≤48:=by omega
    generalize overS s ds[k] (subS t ds[k])=z at *
    generalize subS t ds[k]=x at *
    have hll:((ds.map fun d=>(d.1,subS t d)).map ptL).length=ds.length:=by simp
    generalize (ds.map fun d=>(d.1,subS t d)).map ptL=ps at *
    generalize rowsOfBytes s=ys at *
    have hx0:0<x.length:=by omega
    have hks:k<ps.length:=by omega
    have hgp':ps[k]=[.int .i64 lo,.str x]:=by
      rw [List.getElem?_eq_getElem hks] at hgp
      exact Option.some.inj hgp
    simp [lp,loopsOf,Tryz.f13,hlt,hks,hgp',hw,hl,hs,hxt,hlx,q1,q2,ho,eq_true hr,Nat.le_of_lt q1]
    exact ih
theorem lp_iText0 (m:M) (hm:m.isOwn=false) (w:WorldT) (hw3:w.owns.length=3) (hok:∀ i,i<3→(w.own i).ok=true) (a:Code) (ha:a=lp Tryz.f13 0):∀ (n i:Nat) (s:Bs),i+n=w.owns.length→s.length=48 →
    loopC E (ev E) 13 a { V:=[(3,at1 3),(15,.v m false [.sl (w.owns.map ownL)]),(16,vi w.owns.length),(17,vi i)],H:=[ow (.c 3) [.sl (rowsOfBytes s)]],ps:=[] } =
      some (.exit 0,{ V:=[(3,at1 3),(15,.v m false [.sl (w.owns.map ownL)]),(16,vi w.owns.length),(17,vi w.owns.length),(18,vb false)],H:=[ow (.c 3) [.sl (rowsOfBytes (textF (w.owns.drop i) s))]],ps:=[] })
  | 0,i,s,h,hs=>by
    rw [loopC_of _ _ _ _ ha]
    obtain rfl:i=w.owns.length:=by omega
    simp [lp,loopsOf,Tryz.f13,textF]
  | n+1,i,s,h,hs=>by
    have hi:i<w.owns.length:=by omega
    have hwr:=wrapN i (by omega)
    have ok:=hok i (by omega)
    rw [show w.own i=w.owns[i] from getD_lt _ hi] at ok
    have b:=ownOk_bd ok
    have hd:=spsOk_sp b.2.2.1
    have hN:=spsOk_len b.2.2.1
    have hov:=overAll_len w.owns[i].t w.owns[i].d s (fun d hq=>hd d hq) b.1 hs
    have c1:=fun m m' hm=>ev_OwnPatches m m' hm w.owns[i].t w.owns[i].h w.owns[i].d whole (OwnT.owB ok)
    have hpt:patI w.owns[i].t w.owns[i].h w.owns[i].d whole=w.owns[i].d.map fun d=>(d.1,subS w.owns[i].t d):=by
      have ok':ownOk w.owns[i].t w.owns[i].h w.owns[i].d=true:=ok
      simp only [patI,ok',whole_ok,if_true]
      exact patF_self _ _ hd
    rw [hpt] at c1
    have hsp:spL whole=[.int .i64 0,.int .i64 48]:=rfl
    rw [hsp] at c1
    have l1:=lp_iText1 m w i w.owns[i].t b.1 w.owns[i].d (fun d hq=>hd d hq) (by omega) _ rfl w.owns[i].d.length 0 s (by omega) hs
    have ih:=lp_iText0 m hm w hw3 hok a ha n (i+1) _ (by omega) hov
    push_cast at ih l1
    simp only [List.drop_zero] at l1
    have hpl:((w.owns[i].d.map fun d=>(d.1,subS w.owns[i].t d)).map ptL).length=w.owns[i].d.length:=by simp
    rw [loopC_of _ _ _ _ ha,List.drop_eq_getElem_cons hi,textF]
    clear ha
    generalize (w.owns[i].d.map fun d=>(d.1,subS w.owns[i].t d)).map ptL=ps at *
    simp [lp,loopsOf,Tryz.f13,hm,hi,c1,hpl]
    rw [loopC_at ?_ l1]
    · simp [hwr,hm]
      exact ih
    · rfl
theorem ev_iText (m:M) (hm:m.isOwn=false) (w:WorldT) (C:WorldC w):ev E 13 [.v m true (worldL w)]=some { rs:=[.v .own false [.str (if worldOk w=true then w.text else [])]],outs:=[] }:=by
  have c0:=fun m hm=>ev_impl_WorldOk m hm w C
  cases e:worldOk w
  · rw [ev_fn Tryz.f13 rfl Tryz.func13 rfl rfl rfl (Nat.le_of_ble_eq_true rfl)]
    simp [c0,e,hm]
  · have h:=worldOk_iff.1 e
    have c1:=fun m hm=>ev_stored m hm w (layOk_iff.2 h.lay) h.st.now
    have l0:=lp_iText0 m hm w h.owns h.own _ rfl w.owns.length 0 w.file (by omega) (file_len w)
    push_cast at l0
    simp only [List.drop_zero] at l0
    have hfl:=file_len w
    have hfn:¬ w.file=[]:=fun q=>by rw [q] at hfl;simp at hfl
    have htl:=h.textGet.1
    unfold WorldT.text at htl ⊢
    simp only [if_true]
    generalize textF w.owns w.file=r at *
    generalize w.file=fl at *
    rw [ev_fn Tryz.f13 rfl Tryz.func13 rfl rfl rfl (Nat.le_of_ble_eq_true rfl)]
    simp [c0,c1,e,hm,hfl,hfn]
    rw [loopC_at ?_ l0]
    · simp [htl,bytes_rows]
    · rfl
end Go.Ev


set_option maxRecDepth 100000
set_option maxHeartbeats 8000000
namespace Go.Ev
open Go.Proofs
def noW:WorldT:=⟨0,0,noS,[],[],[],[],[],[]⟩
theorem noW_L:worldL noW=[.int .i64 0,.int .i64 0,.sl [],.sl [],.sl [],.sl [],.sl [],.sl [],.sl [],.sl [],.sl [],.sl [],.sl []]:=rfl
theorem worldL_mk (a b:Int) (s:StoreT) (l:List HoldT) (o:List OwnT) (e:List Int) (v:List Bool) (k q:List ReqT):worldL ⟨a,b,s,l,o,e,v,k,q⟩=[.int .i64 a,.int .i64 b]++storeL s++[.sl (l.map holdL),.sl (o.map ownL),.sl (intsL e),.sl (boolsL v),.sl (k.map reqL),.sl (q.map reqL)]:=by rfl
theorem lp_l7Copy (m:M) (hm:m.isOwn=false) (w:WorldT) (B:WorldB w) (a:Code) (ha:a=lp Tryz.f31 0):∀ (n i:Nat) (out:List OwnT),i+n=w.owns.length→out.length=i →
    loopC E (ev E) 31 a { V:=[(1,adc 1),(2,adc 2),(3,adc 3),(4,vi i)],H:=[bxm (.c 1) m (worldL w),bx (.c 2) (worldL noW),bx (.c 3) (worldL { w with owns:=out })],ps:=[] } =
      some (.exit 0,{ V:=[(1,adc 1),(2,adc 2),(3,adc 3),(4,vi w.owns.length),(34,vb false)],H:=[bxm (.c 1) m (worldL w),bx (.c 2) (worldL noW),bx (.c 3) (worldL { w with owns:=out++w.owns.drop i })],ps:=[] })
  | 0,i,out,h,ho=>by
    rw [loopC_of _ _ _ _ ha]
    obtain rfl:i=w.owns.length:=by omega
    simp [lp,loopsOf,Tryz.f31,hm,noW_L]
  | n+1,i,out,h,ho=>by
    have hlt:i<w.owns.length:=by omega
    have hb:=B.owns
    have hw:=wrapN i (by omega)
    have hB:=B.owned _ (List.getElem_mem hlt)
    have ih:=lp_l7Copy m hm w B a ha n (i+1) (out++[w.owns[i]]) (by omega) (by simp;omega)
    push_cast at ih
    have c1:∀ m,m.isOwn=false→ev E 104 [.v m true (ownL w.owns[i])]=some { rs:=[.v .own true (ownL w.owns[i])],outs:=[] }:=fun m hm=>ev_l6Copy m hm _ _ _ (by have:=hB.1;omega) (by have:=hB.2;omega)
    have h1:(out.length+1)*64≤17592186044416:=by omega
    have h2:out.length+1≤17592186044416:=by omega
    rw [loopC_of _ _ _ _ ha,List.drop_eq_getElem_cons hlt]
    clear ha
    rw [noW_L] at ih ⊢
    simp [lp,loopsOf,Tryz.f31,hlt,hw,hm,c1,h1,h2]
    simpa [worldL_mk,storeL,ownL] using ih
theorem ev_l7Copy (m:M) (hm:m.isOwn=false) (w:WorldT) (B:WorldB w):ev E 31 [.v m true (worldL w)]=some { rs:=[.v .own true (worldL w)],outs:=[] }:=by
  have c1:=fun m hm=>ev_l5Copy m hm w.st B.st
  have c2:=fun m hm=>ev_l4Copy m hm w.locks B.locks B.holds
  have b1:=B.epochs
  have b2:=B.alive
  have b3:=B.kept
  have b4:=B.late
  have h1:w.epochs.length*8≤17592186044416:=by omega
  have h2:w.epochs.length≤17592186044416:=by omega
  have h3:w.alive.length*1≤17592186044416:=by omega
  have h4:w.alive.length≤17592186044416:=by omega
  have h5:w.kept.length*56≤17592186044416:=by omega
  have h6:w.kept.length≤17592186044416:=by omega
  have h7:w.late.length*56≤17592186044416:=by omega
  have h8:w.late.length≤17592186044416:=by omega
  have l0:=lp_l7Copy m hm w B _ rfl w.owns.length 0 [] (by omega) rfl
  push_cast at l0
  simp only [List.drop_zero,List.nil_append,List.map_nil] at l0
  rw [noW_L,worldL_mk w.size w.many w.st w.locks []] at l0
  simp only [storeL,List.cons_append,List.nil_append,List.map_nil] at l0
  rw [ev_fn Tryz.f31 rfl Tryz.func31 rfl rfl rfl (Nat.le_of_ble_eq_true rfl)]
  simp [hm,c1,c2,h1,h2,h3,h4,h5,h6,h7,h8]
  rw [loopC_at ?_ l0]
  · simp
  · rfl
theorem lp_anew (m:M) (hm:m.isOwn=false) (w:WorldT) (B:WorldC w) (a:Code) (ha:a=lp Tryz.f27 0):∀ (n i:Nat) (out:List OwnT),i+n=w.owns.length→out.length=i →
    loopC E (ev E) 27 a { V:=[(1,adc 1),(2,adc 2),(3,at1 3),(8,.v m false [.sl (w.owns.map ownL)]),(9,vi w.owns.length),(10,vi i)],H:=[bxm (.c 1) m (worldL w),bx (.c 2) (worldL noW),ow (.c 3) [.sl (out.map ownL)]],ps:=[] } =
      some (.exit 0,{ V:=[(1,adc 1),(2,adc 2),(3,at1 3),(8,.v m false [.sl (w.owns.map ownL)]),(9,vi w.owns.length),(10,vi w.owns.length),(11,vb false)],H:=[bxm (.c 1) m (worldL w),bx (.c 2) (worldL noW),ow (.c 3) [.sl ((out++w.owns.drop i).map ownL)]],ps:=[] })
  | 0,i,out,h,ho=>by
    rw [loopC_of _ _ _ _ ha]
    obtain rfl:i=w.owns.length:=by omega
    simp [lp,loopsOf,Tryz.f27,hm,noW_L]
  | n+1,i,out,h,ho=>by
    have hlt:i<w.owns.length:=by omega
    have hb:=B.owns
    have hw:=wrapN i (by omega)
    have hB:=B.owned _ (List.getElem_mem hlt)
    have ih:=lp_anew m hm w B a ha n (i+1) (out++[w.owns[i]]) (by omega) (by simp;omega)
    push_cast at ih
    have c1:∀ m,m.isOwn=false→ev E 77 [.v m true (ownL w.owns[i])]=some { rs:=[.v .own true (ownL w.owns[i])],outs:=[] }:=fun m hm=>ev_kept m hm _ _ _ ⟨by have:=B.ownT _ (List.getElem_mem hlt);omega,by have:=hB.1;omega,by have:=hB.2;omega⟩
    have h1:(out.length+1)*64≤17592186044416:=by omega
    have h2:out.length+1≤17592186044416:=by omega
    rw [loopC_of _ _ _ _ ha,List.drop_eq_getElem_cons hlt]
    clear ha
    rw [noW_L] at ih ⊢
    simp [lp,loopsOf,Tryz.f27,hlt,hw,hm,c1,h1,h2]
    simpa [worldL_mk,storeL,ownL] using ih
theorem ev_anew (m:M) (hm:m.isOwn=false) (w:WorldT) (B:WorldC w):ev E 27 [.v m true (worldL w)]=some { rs:=[.v .own true (worldL w)],outs:=[] }:=by
  have c1:=fun m hm=>ev_again m hm w.st B.st
  have c2:=fun m hm=>ev_copied m hm w.locks B.locks B.holds
  have c3:=fun m=>ev_CloneI m w.epochs B.epochs
  have c4:=fun m=>ev_CloneB m w.alive B.alive
  have c5:=fun m=>ev_CloneR m w.kept B.kept
  have c6:=fun m=>ev_CloneR m w.late B.late
  have l0:=lp_anew m hm w B _ rfl w.owns.length 0 [] (by omega) rfl
  push_cast at l0
  simp only [List.drop_zero,List.nil_append,List.map_nil] at l0
  rw [noW_L] at l0
  rw [ev_fn Tryz.f27 rfl Tryz.func27 rfl rfl rfl (Nat.le_of_ble_eq_true rfl)]
  simp [hm]
  rw [loopC_at ?_ l0]
  · simp [hm,c1,c2,c3,c4,c5,c6]
  · rfl
def rWB (m:M) (w:WorldT) (b:Bool):Out:={ rs:=[.v m true (worldL w),.v .own false [.bool b]],outs:=[] }
abbrev pdw (w:WorldT):Root × HC:=(.p 0,{ box:=false,wr:=true,m:=.own,ls:=[.int .i64 w.size,.int .i64 w.many,.dead,.dead,.dead,.dead,.dead,.dead,.dead,.dead,.dead,.dead,.dead],e0:=0,e1:=0 })
theorem lp_flush_own  (m1:M) (w:WorldT) (i:Nat) (s:Sp) (qs:List ReqT) (x:StoreT) (cs:List Int) (hc:cs.length≤4000000) (a:Code) (ha:a=lp Tryz.f155 0):∀ (n k:Nat),k+n=cs.length →
    loopC E (ev E) 155 a { V:=[(1,.v m1 false [.int .i64 i]),(3,adc 3),(5,adc 5),(6,adc 6),(8,at1 8),(9,adc 9),(10,at1 10),(11,vi k)],H:=[pdw w,bxm (.c 3) .own (worldL w),bx (.c 5) (spL s),bx (.c 6) (worldL noW),ow (.c 8) [.sl (qs.map reqL)],bx (.c 9) (storeL x),ow (.c 10) [.sl (intsL cs)]],ps:=[0] } =
      if ((cs.drop k).all fun c=>eqI c 0)=true then some (.exit 0,{ V:=[(1,.v m1 false [.int .i64 i]),(3,adc 3),(5,adc 5),(6,adc 6),(8,at1 8),(9,adc 9),(10,at1 10),(11,vi cs.length),(28,vb false)],H:=[pdw w,bxm (.c 3) .own (worldL w),bx (.c 5) (spL s),bx (.c 6) (worldL noW),ow (.c 8) [.sl (qs.map reqL)],bx (.c 9) (storeL x),ow (.c 10) [.sl (intsL cs)]],ps:=[0] })
      else some (.ret,{ V:=[(6,adc 6),(7,vb false)],H:=[pdw w,bxm (.c 6) .own (worldL w)],ps:=[0] })
  | 0,k,h=>by
    rw [loopC_of _ _ _ _ ha,noW_L]
    obtain rfl:k=cs.length:=by omega
    simp [lp,loopsOf,Tryz.f155,if_true]
  | n+1,k,h=>by
    have hlt:k<cs.length:=by omega
    have hw:=wrapN k (by omega)
    have ih:=lp_flush_own  m1 w i s qs x cs hc a ha n (k+1) (by omega)
    push_cast at ih
    rw [loopC_of _ _ _ _ ha,List.drop_eq_getElem_cons hlt,List.all_cons]
    clear ha
    rw [noW_L] at ih ⊢
    generalize (cs.drop (k+1)).all (fun c=>eqI c 0)=r at ih ⊢
    cases e:eqI cs[k] 0<;>simp [lp,loopsOf,Tryz.f155,hlt,hw,e,ih,if_true]
theorem lp_flush_lent (m:M) (hm:m.isOwn=false) (m1:M) (w:WorldT) (i:Nat) (s:Sp) (qs:List ReqT) (x:StoreT) (cs:List Int) (hc:cs.length≤4000000) (a:Code) (ha:a=lp Tryz.f155 0):∀ (n k:Nat),k+n=cs.length →
    loopC E (ev E) 155 a { V:=[(1,.v m1 false [.int .i64 i]),(3,adc 3),(5,adc 5),(6,adc 6),(8,at1 8),(9,adc 9),(10,at1 10),(11,vi k)],H:=[bxm (.c 3) m (worldL w),bx (.c 5) (spL s),bx (.c 6) (worldL noW),ow (.c 8) [.sl (qs.map reqL)],bx (.c 9) (storeL x),ow (.c 10) [.sl (intsL cs)]],ps:=[] } =
      if ((cs.drop k).all fun c=>eqI c 0)=true then some (.exit 0,{ V:=[(1,.v m1 false [.int .i64 i]),(3,adc 3),(5,adc 5),(6,adc 6),(8,at1 8),(9,adc 9),(10,at1 10),(11,vi cs.length),(28,vb false)],H:=[bxm (.c 3) m (worldL w),bx (.c 5) (spL s),bx (.c 6) (worldL noW),ow (.c 8) [.sl (qs.map reqL)],bx (.c 9) (storeL x),ow (.c 10) [.sl (intsL cs)]],ps:=[] })
      else some (.ret,{ V:=[(6,adc 6),(7,vb false)],H:=[bxm (.c 6) m (worldL w)],ps:=[] })
  | 0,k,h=>by
    rw [loopC_of _ _ _ _ ha,noW_L]
    obtain rfl:k=cs.length:=by omega
    simp [lp,loopsOf,Tryz.f155,hm]
  | n+1,k,h=>by
    have hlt:k<cs.length:=by omega
    have hw:=wrapN k (by omega)
    have ih:=lp_flush_lent m hm m1 w i s qs x cs hc a ha n (k+1) (by omega)
    push_cast at ih
    rw [loopC_of _ _ _ _ ha,List.drop_eq_getElem_cons hlt,List.all_cons]
    clear ha
    rw [noW_L] at ih ⊢
    generalize (cs.drop (k+1)).all (fun c=>eqI c 0)=r at ih ⊢
    cases e:eqI cs[k] 0<;>simp [lp,loopsOf,Tryz.f155,hlt,hw,e,ih,hm]
end Go.Ev


set_option maxRecDepth 100000
set_option maxHeartbeats 8000000
namespace Go.Ev
open Go.Proofs
theorem ev_flush_own  (m1 m2:M) (w:WorldT) (h:WorldP w) (i:Nat) (hi:i<3) (s:Sp) (hs:spOk s=true) (hbad:backsB w i s=false) :
    ev E 155 [.own true (worldL w),.v m1 false [.int .i64 i],.v m2 true (spL s)]=some (rWB .own w false):=by
  obtain ⟨r1,r2⟩:=h.reqsB hi hs
  obtain ⟨hl,ho⟩:=h.own_get hi
  have c1:=fun m m1 m2 hm=>ev_l7All m m1 m2 hm w h i hi s hs
  have c2:=fun m m' hm hm'=>ev_spec_StoreAll m m' hm hm' w.st (w.reqs i s) h.st.bd (by omega) r2
  simp only [storeOk_iff.2 h.st,if_true,rStA] at c2
  have c3:=fun m m' hm=>ev_spec_OwnClean m m' hm (w.own i).t (w.own i).h (w.own i).d s (h.owB hi)
  rw [clean_spec (h.own i hi)] at c3
  have hcl:=storeAll_len (w.reqs i s) w.st
  unfold backsB at hbad
  have l0:=fun a ha=>lp_flush_own  m1 w i s (w.reqs i s) (storeAll w.st (w.reqs i s)).1 (storeAll w.st (w.reqs i s)).2 (by omega) a ha (storeAll w.st (w.reqs i s)).2.length 0 (by omega)
  push_cast at l0
  try simp only [List.drop_zero] at l0
  rw [noW_L] at l0
  generalize w.reqs i s=qs at *
  generalize storeAll w.st qs=st at *
  rw [← ho] at c3 hbad
  generalize cleanT w.owns[i] s=cl at *
  obtain ⟨o,b⟩:=cl
  dsimp only at c3 hbad
  rw [ev_fn Tryz.f155 rfl Tryz.func155 rfl rfl rfl (Nat.le_of_ble_eq_true rfl)]
  generalize hall:(st.2.all fun c=>eqI c 0)=al at *
  simp [c1,c2,if_true]
  rw [l0 _ ?_]
  · cases al
    · simp [rWB,if_true]
    · obtain rfl:b=false:=by simpa using hbad
      simp [c3,hl,rWB,if_true]
  · rfl
theorem ev_flush_lent (m:M) (hm:m.isOwn=false) (m1 m2:M) (w:WorldT) (h:WorldP w) (i:Nat) (hi:i<3) (s:Sp) (hs:spOk s=true) (hbad:backsB w i s=false) :
    ev E 155 [.v m true (worldL w),.v m1 false [.int .i64 i],.v m2 true (spL s)]=some (rWB m w false):=by
  obtain ⟨r1,r2⟩:=h.reqsB hi hs
  obtain ⟨hl,ho⟩:=h.own_get hi
  have c1:=fun m m1 m2 hm=>ev_l7All m m1 m2 hm w h i hi s hs
  have c2:=fun m m' hm hm'=>ev_spec_StoreAll m m' hm hm' w.st (w.reqs i s) h.st.bd (by omega) r2
  simp only [storeOk_iff.2 h.st,if_true,rStA] at c2
  have c3:=fun m m' hm=>ev_spec_OwnClean m m' hm (w.own i).t (w.own i).h (w.own i).d s (h.owB hi)
  rw [clean_spec (h.own i hi)] at c3
  have hcl:=storeAll_len (w.reqs i s) w.st
  unfold backsB at hbad
  have l0:=fun a ha=>lp_flush_lent m hm m1 w i s (w.reqs i s) (storeAll w.st (w.reqs i s)).1 (storeAll w.st (w.reqs i s)).2 (by omega) a ha (storeAll w.st (w.reqs i s)).2.length 0 (by omega)
  push_cast at l0
  try simp only [List.drop_zero] at l0
  rw [noW_L] at l0
  generalize w.reqs i s=qs at *
  generalize storeAll w.st qs=st at *
  rw [← ho] at c3 hbad
  generalize cleanT w.owns[i] s=cl at *
  obtain ⟨o,b⟩:=cl
  dsimp only at c3 hbad
  rw [ev_fn Tryz.f155 rfl Tryz.func155 rfl rfl rfl (Nat.le_of_ble_eq_true rfl)]
  generalize hall:(st.2.all fun c=>eqI c 0)=al at *
  simp [c1,c2,hm]
  rw [l0 _ ?_]
  · cases al
    · simp [rWB,hm]
    · obtain rfl:b=false:=by simpa using hbad
      simp [c3,hl,rWB,hm]
  · rfl
theorem ev_flush_fine (m1 m2:M) (w:WorldT) (h:WorldP w) (i:Nat) (hi:i<3) (s:Sp) (hs:spOk s=true) (hgood:backsB w i s=true) :
    ev E 155 [.own true (worldL w),.v m1 false [.int .i64 i],.v m2 true (spL s)]=some (rWB .own (backsW w i s) true):=by
  obtain ⟨r1,r2⟩:=h.reqsB hi hs
  obtain ⟨hl,ho⟩:=h.own_get hi
  have c1:=fun m m1 m2 hm=>ev_l7All m m1 m2 hm w h i hi s hs
  have c2:=fun m m' hm hm'=>ev_spec_StoreAll m m' hm hm' w.st (w.reqs i s) h.st.bd (by omega) r2
  simp only [storeOk_iff.2 h.st,if_true,rStA] at c2
  have c3:=fun m m' hm=>ev_spec_OwnClean m m' hm (w.own i).t (w.own i).h (w.own i).d s (h.owB hi)
  rw [clean_spec (h.own i hi)] at c3
  have hcl:=storeAll_len (w.reqs i s) w.st
  have hk:=h.keptN
  have z1:(w.kept.length+(w.reqs i s).length)*56≤17592186044416:=by omega
  have z2:w.kept.length+(w.reqs i s).length≤17592186044416:=by omega
  simp only [backsB,Bool.and_eq_true] at hgood
  have l0:=fun a ha=>lp_flush_own m1 w i s (w.reqs i s) (storeAll w.st (w.reqs i s)).1 (storeAll w.st (w.reqs i s)).2 (by omega) a ha (storeAll w.st (w.reqs i s)).2.length 0 (by omega)
  push_cast at l0
  simp only [List.drop_zero,hgood.2,if_true] at l0
  rw [noW_L] at l0
  have hcb:=hgood.1
  clear hgood
  simp only [backsW]
  generalize w.reqs i s=qs at *
  generalize storeAll w.st qs=st at *
  rw [← ho] at c3 hcb ⊢
  generalize cleanT w.owns[i] s=cl at *
  obtain ⟨o,b⟩:=cl
  dsimp only at c3 hcb ⊢
  subst hcb
  rw [ev_fn Tryz.f155 rfl Tryz.func155 rfl rfl rfl (Nat.le_of_ble_eq_true rfl)]
  simp [c1,c2]
  rw [l0 _ ?_]
  · simp [c3,hl,z1,z2,rWB,List.map_set]
  · rfl
def yieldS (w:WorldT) (k:Nat) (write:Bool) (s:Sp):WorldT × Bool :=
  if backsB w k s=true then
    if write=true then
      ({ backsW w k s with locks:=(lockDrop (backsW w k s).locks k s).1,owns:=(backsW w k s).owns.set k (dropT ((backsW w k s).own k) s).1 },(lockDrop (backsW w k s).locks k s).2&&(dropT ((backsW w k s).own k) s).2)
    else ({ backsW w k s with locks:=(lockDown (backsW w k s).locks k s).1 },(lockDown (backsW w k s).locks k s).2)
  else (w,false)
theorem yield_S (w:WorldT) (k:Nat) (write:Bool) (s:Sp):yieldW w k write s=if (yieldS w k write s).2=true then some (yieldS w k write s).1 else none:=by
  unfold yieldW yieldS
  rw [flush_backs]
  cases backsB w k s
  · rfl
  · simp only [if_true]
    cases write
    · simp only [Bool.false_eq_true,if_false]
    · simp only [if_true]
theorem ev_sDrop (m m':M) (hm:m.isOwn=false) (o:OwnT) (h:o.ok=true) (p:Sp):ev E 115 [.v m true (ownL o),.v m' true (spL p)]=some (rOT (dropT o p).1 (dropT o p).2):=by
  rw [ev_spec_OwnDrop m m' hm o.t o.h o.d p (OwnT.owB h),drop_T h]
theorem ev_sFill (m m' m'':M) (hm:m.isOwn=false) (o:OwnT) (h:o.ok=true) (p:Sp) (x:Bs) (hx:x.length≤4000000):ev E 116 [.v m true (ownL o),.v m' true (spL p),.v m'' false [.str x]]=some (rOT (fillT1 o p x).1 (fillT1 o p x).2):=by
  rw [ev_spec_OwnFill m m' m'' hm o.t o.h o.d p x (OwnT.owB h) hx,fill_T h]
theorem ev_sWrite (m m' m'':M) (hm:m.isOwn=false) (o:OwnT) (h:o.ok=true) (k:Int) (x:Bs) (hx:x.length≤4000000):ev E 118 [.v m true (ownL o),.v m' false [.int .i64 k],.v m'' false [.str x]]=some (rOT (writeT1 o k x).1 (writeT1 o k x).2):=by
  rw [ev_spec_OwnWrite m m' m'' hm o.t o.h o.d k x (OwnT.owB h) hx,write_T h]
theorem ev_l7Yield (m1 m2 m3:M) (w:WorldT) (h:WorldP w) (k:Nat) (hk:k<3) (ha:w.live k=true) (write:Bool) (s:Sp) (hs:spOk s=true) :
    ev E 192 [.own true (worldL w),.v m1 false [.int .i64 k],.v m2 false [.bool write],.v m3 true (spL s)]=some (rWB (if backsB w k s=true then .own else .ro) (yieldS w k write s).1 (yieldS w k write s).2):=by
  unfold yieldS
  cases e1:backsB w k s
  · have c1:=fun m1 m2=>ev_flush_own m1 m2 w h k hk s hs e1
    have c2:=fun m m1 m2 hm=>ev_flush_lent m hm m1 m2 w h k hk s hs e1
    simp only [rWB] at c1 c2 ⊢
    rw [ev_fn Tryz.f192 rfl Tryz.func192 rfl rfl rfl (Nat.le_of_ble_eq_true rfl)]
    simp [c1,c2]
  · have c1:=fun m1 m2=>ev_flush_fine m1 m2 w h k hk s hs e1
    have X:=backs_ok h hk ha e1
    generalize backsW w k s=x at *
    obtain ⟨hl,ho⟩:=X.own_get hk
    have LP:=X.lk
    have hll:x.locks.length≤4000000:=by have:=LP.len;omega
    have c2:=fun m m1 m2 hm=>ev_spec_LockDown m m1 m2 hm x.locks hll LP.bd k s
    have c3:=fun m m1 m2 hm=>ev_spec_LockDrop m m1 m2 hm x.locks hll LP.bd k s
    have c4:=fun m m' hm=>ev_sDrop m m' hm (x.own k) (X.own k hk) s
    rw [down_I LP hk hs] at c2
    rw [drop_I LP hk hs] at c3
    simp only [rLk] at c2 c3
    rw [← ho] at c4 ⊢
    generalize lockDrop x.locks k s=z at *
    generalize lockDown x.locks k s=z' at *
    generalize dropT x.owns[k] s=y at *
    obtain ⟨t',b⟩:=z
    obtain ⟨t2,b2⟩:=z'
    obtain ⟨o',b'⟩:=y
    simp only [rWB] at c1 ⊢
    rw [ev_fn Tryz.f192 rfl Tryz.func192 rfl rfl rfl (Nat.le_of_ble_eq_true rfl)]
    cases write
    · simp [c1,c2]
    · cases b<;>simp [c1,c2,c3,c4,hl,List.map_set]
end Go.Ev


set_option maxRecDepth 100000
set_option maxHeartbeats 8000000
namespace Go.Ev
open Go.Proofs
def rWI (m:M) (w:WorldT) (c:Int):Out:={ rs:=[.v m true (worldL w),.v .own false [.int .i64 c]],outs:=[] }
theorem WorldP.wb {w:WorldT} (h:WorldP w):WorldB w:=by
  have LP:=h.lk
  have h1:=LP.len
  have h2:=h.owns
  have h3:=h.epochs
  have h4:=h.alive
  have h5:=h.keptN
  have h6:=h.lateN
  refine ⟨h.st.bd.toStoreB,by omega,LP.bd,by omega,fun o ho=>?_,by omega,by omega,by omega,by omega⟩
  obtain ⟨i,hi,rfl⟩:=List.getElem_of_mem ho
  have:=h.own i (by omega)
  rw [show w.own i=w.owns[i] from getD_lt _ hi] at this
  have B:=OwnT.owB this
  exact ⟨B.h,B.d⟩
def yieldsS (write:Bool) (s:Sp):List Nat→WorldT→Option WorldT
  | [],w=>some w
  | k::ks,w=>if (yieldS w k write s).2=true then yieldsS write s ks (yieldS w k write s).1 else none
theorem yields_S (write:Bool) (s:Sp):∀ (ks:List Nat) (w:WorldT),yieldsW write s ks w=yieldsS write s ks w
  | [],w=>rfl
  | k::ks,w=>by
    rw [yieldsW,yieldsS,yield_S]
    cases e:(yieldS w k write s).2
    · rfl
    · simp only [if_true]
      exact yields_S write s ks _
theorem lp_l7Lock0 (m:M) (hm:m.isOwn=false) (w:WorldT) (ha3:w.alive.length=3) (e:EvT) (ks:List Nat) (hks:∀ k∈ks,k<3) (bs:List Int) (hbs:bs=ks.map (fun k:Nat=>(k:Int))) (a:Code) (ha:a=lp Tryz.f152 0):∀ (n i:Nat),i+n=bs.length→bs.length≤100 →
    loopC E (ev E) 152 a { V:=[(2,adc 2),(3,adc 3),(4,adc 4),(6,at1 6),(7,vi i)],H:=[bxm (.c 2) m (worldL w),bx (.c 3) (evL e),bx (.c 4) (worldL noW),ow (.c 6) [.sl (intsL bs)]],ps:=[] } =
      if ((ks.drop i).any fun k=>!w.live k)=true then some (.ret,{ V:=[(4,adc 4),(5,vi 22)],H:=[bxm (.c 4) m (worldL w)],ps:=[] })
      else some (.exit 0,{ V:=[(2,adc 2),(3,adc 3),(4,adc 4),(6,at1 6),(7,vi bs.length),(25,vb false)],H:=[bxm (.c 2) m (worldL w),bx (.c 3) (evL e),bx (.c 4) (worldL noW),ow (.c 6) [.sl (intsL bs)]],ps:=[] })
  | 0,i,h,hb=>by
    rw [loopC_of _ _ _ _ ha,noW_L]
    obtain rfl:i=bs.length:=by omega
    have:ks.drop bs.length=[]:=List.drop_eq_nil_of_le (by rw [hbs];simp)
    rw [this]
    simp [lp,loopsOf,Tryz.f152,hm]
  | n+1,i,h,hb=>by
    have hlt:i<bs.length:=by omega
    have hl2:i<ks.length:=by rw [hbs] at hlt;simpa using hlt
    have hw:=wrapN i (by omega)
    have ih:=lp_l7Lock0 m hm w ha3 e ks hks bs hbs a ha n (i+1) (by omega) hb
    push_cast at ih
    have hg:bs[i]=((ks[i]:Nat):Int):=by simp [hbs]
    have hk:=hks _ (List.getElem_mem hl2)
    have hka:ks[i]<w.alive.length:=by omega
    have hlv:w.live ks[i]=w.alive[ks[i]]:=getD_lt _ hka
    rw [loopC_of _ _ _ _ ha,List.drop_eq_getElem_cons hl2,List.any_cons,hlv]
    clear ha
    rw [noW_L] at ih ⊢
    generalize (ks.drop (i+1)).any (fun k=>!w.live k)=r at ih ⊢
    generalize ks[i]=k at *
    cases e:w.alive[k]<;>simp [lp,loopsOf,Tryz.f152,hlt,hw,hg,hka,hm,e,ih]
theorem lp_l7Lock1 (m:M) (hm:m.isOwn=false) (w:WorldT) (e:EvT) (hs:spOk e.span=true) (ks:List Nat) (bs:List Int) (hbs:bs=ks.map (fun k:Nat=>(k:Int))) (hb:bs.length≤100) (a:Code) (ha:a=lp Tryz.f152 1):∀ (n i:Nat) (x:WorldT),i+n=bs.length→WorldP x→(∀ k∈ks.drop i,k<3∧x.live k=true) →
    loopC E (ev E) 152 a { V:=[(2,adc 2),(3,adc 3),(4,adc 4),(6,at1 6),(8,adc 8),(9,vi i)],H:=[bxm (.c 2) m (worldL w),bx (.c 3) (evL e),bx (.c 4) (worldL noW),ow (.c 6) [.sl (intsL bs)],bx (.c 8) (worldL x)],ps:=[] } =
      match yieldsS e.write e.span (ks.drop i) x with
      | some y=>some (.exit 2,{ V:=[(2,adc 2),(3,adc 3),(4,adc 4),(6,at1 6),(8,adc 8),(9,vi bs.length),(43,vb false)],H:=[bxm (.c 2) m (worldL w),bx (.c 3) (evL e),bx (.c 4) (worldL noW),ow (.c 6) [.sl (intsL bs)],bx (.c 8) (worldL y)],ps:=[] })
      | none=>some (.ret,{ V:=[(4,adc 4),(5,vi 24)],H:=[bxm (.c 4) m (worldL w)],ps:=[] })
  | 0,i,x,h,hw,hk=>by
    rw [loopC_of _ _ _ _ ha,noW_L]
    obtain rfl:i=bs.length:=by omega
    have:ks.drop bs.length=[]:=List.drop_eq_nil_of_le (by rw [hbs];simp)
    rw [this]
    simp [lp,loopsOf,Tryz.f152,yieldsS,hm]
  | n+1,i,x,h,hw,hk=>by
    have hlt:i<bs.length:=by omega
    have hl2:i<ks.length:=by rw [hbs] at hlt;simpa using hlt
    have hwr:=wrapN i (by omega)
    have hg:bs[i]=((ks[i]:Nat):Int):=by simp [hbs]
    rw [List.drop_eq_getElem_cons hl2] at hk ⊢
    obtain ⟨hk3,hka⟩:=hk ks[i] List.mem_cons_self
    have hks:∀ k∈ks.drop (i+1),k<3∧x.live k=true:=fun k hm=>hk k (List.mem_cons_of_mem _ hm)
    have ih:∀ y,(yieldS x ks[i] e.write e.span)=(y,true)→_:=fun y hy=>lp_l7Lock1 m hm w e hs ks bs hbs hb a ha n (i+1) y (by omega)
      (yieldW_ok hw hk3 hka (by rw [yield_S,hy];rfl)).ok (fun k hm=>⟨(hks k hm).1,by
        have:=(yieldW_ok (write:=e.write) (s:=e.span) (x:=y) hw hk3 hka (by rw [yield_S,hy];rfl)).alive
        unfold WorldT.live
        rw [this]
        exact (hks k hm).2⟩)
    have c1:=fun m1 m2 m3=>ev_l7Yield m1 m2 m3 x hw ks[i] hk3 hka e.write e.span hs
    have hback:(yieldS x ks[i] e.write e.span).2=true→backsB x ks[i] e.span=true:=fun h=>by
      unfold yieldS at h
      split at h
      · assumption
      · cases h
    rw [loopC_of _ _ _ _ ha,yieldsS]
    clear ha hk hks
    rw [noW_L] at ih ⊢
    generalize ks[i]=k at *
    generalize yieldS x k e.write e.span=y at *
    obtain ⟨y,b⟩:=y
    cases b
    · cases e1:backsB x k e.span
      · rw [e1] at c1
        simp only [rWB,Bool.false_eq_true,if_false] at c1
        simp [lp,loopsOf,Tryz.f152,hlt,hg,hm,c1]
      · rw [e1] at c1
        simp only [rWB,if_true] at c1
        simp [lp,loopsOf,Tryz.f152,hlt,hg,hm,c1]
    · rw [hback rfl] at c1
      simp only [rWB,if_true] at c1
      have ih:=ih y rfl
      push_cast at ih
      simp [lp,loopsOf,Tryz.f152,hlt,hg,hm,c1,hwr]
      simpa [hwr] using ih
theorem ev_l7Lock (m me:M) (hm:m.isOwn=false) (w:WorldT) (hw:WorldP w) (e:EvT) (i:Nat) (hi:i<3) (he:e.who=i) (hs:spOk e.span=true) :
    ev E 152 [.v m true (worldL w),.v me true (evL e)]=some (rWI (if (lockW w i e.write e.span).2=0 then .own else m) (lockW w i e.write e.span).1 (lockW w i e.write e.span).2):=by
  have LP:=hw.lk
  have hll:w.locks.length≤4000000:=by have:=LP.len;omega
  have hwho:whoOk e.who=true:=by rw [he];exact who_ok hi
  have c0:=fun m m1 m2 m3 hm=>ev_l4Bars m m1 m2 m3 hm w.locks LP.len LP.bd e.who hwho e.write e.span
  have hbi:barsL w.locks e.who e.write e.span=(lockBars w.locks i e.write e.span).map (fun k:Nat=>(k:Int)):=by
    unfold barsL
    rw [he,Int.toNat_natCast]
  rw [hbi] at c0
  have c1:=fun m hm=>ev_l7Copy m hm w hw.wb
  have hk3:∀ k∈lockBars w.locks i e.write e.span,k<3:=fun k hk=>(bars_mem.1 hk).1
  have hbl:((lockBars w.locks i e.write e.span).map (fun k:Nat=>(k:Int))).length≤100:=by
    unfold lockBars
    rw [List.length_map]
    have:=List.length_filter_le (barsAt w.locks i e.write e.span) (List.range 3)
    simp at this;omega
  have hnd:=bars_nodup w.locks i e.write e.span
  unfold lockW
  generalize lockBars w.locks i e.write e.span=ks at *
  generalize hbs:ks.map (fun k:Nat=>(k:Int))=bs at *
  have l0:=lp_l7Lock0 m hm w hw.alive e ks hk3 bs hbs.symm _ rfl bs.length 0 (by omega) hbl
  push_cast at l0
  simp only [List.drop_zero] at l0
  rw [noW_L] at l0
  cases e1:ks.any fun k=>!w.live k
  · have hall:∀ k∈ks,k<3∧w.live k=true:=fun k hk=>⟨hk3 k hk,by
      simp only [List.any_eq_false,Bool.not_eq_true',Bool.not_eq_false] at e1
      exact e1 k hk⟩
    have l1:=lp_l7Lock1 m hm w e hs ks bs hbs.symm hbl _ rfl bs.length 0 w (by omega) hw (by simpa using hall)
    push_cast at l1
    simp only [List.drop_zero] at l1
    rw [noW_L] at l1
    rw [e1] at l0
    simp only [Bool.false_eq_true,if_false] at l0 ⊢
    have hY:∀ y,yieldsW e.write e.span ks w=some y→LockP y.locks:=fun y h=>(yieldsW_ok ks hw hall hnd h).ok.lk
    rw [yields_S] at hY ⊢
    cases hy:yieldsS e.write e.span ks w with
    | none =>
      rw [hy] at l1
      dsimp only at l1 ⊢
      rw [ev_fn Tryz.f152 rfl Tryz.func152 rfl rfl rfl (Nat.le_of_ble_eq_true rfl)]
      simp [c0,hm]
      rw [loopC_at ?_ l0]
      · simp [c1,hm]
        rw [loopC_at ?_ l1]
        · simp [rWI,hm]
        · rfl
      · rfl
    | some x =>
      rw [hy] at l1
      dsimp only at l1 ⊢
      have LX:=hY x hy
      have hlx:x.locks.length≤4000000:=by have:=LX.len;omega
      have c4:=fun m m1 m2 m3 hm=>ev_spec_LockGive m m1 m2 m3 hm x.locks hlx LX.bd i e.write e.span
      rw [give_I LX hi e.write hs,← he] at c4
      simp only [rLk] at c4
      have hb':∀ b,(lockGive x.locks i e.write e.span).2=b→(lockGive x.locks i e.write e.span)=((lockGive x.locks i e.write e.span).1,b):=fun b h=>by rw [← h]
      rw [ev_fn Tryz.f152 rfl Tryz.func152 rfl rfl rfl (Nat.le_of_ble_eq_true rfl)]
      simp [c0,hm]
      rw [loopC_at ?_ l0]
      · simp [c1,hm]
        rw [loopC_at ?_ l1]
        · rcases Bool.eq_false_or_eq_true (lockGive x.locks i e.write e.span).2 with hg | hg
          · rw [hg] at c4
            simp [c4,rWI,hm,hg]
          · rw [hg] at c4
            simp [c4,rWI,hm,hg]
        · rfl
      · rfl
  · rw [e1] at l0
    simp only [if_true] at l0 ⊢
    rw [ev_fn Tryz.f152 rfl Tryz.func152 rfl rfl rfl (Nat.le_of_ble_eq_true rfl)]
    simp [c0,hm]
    rw [loopC_at ?_ l0]
    · simp [rWI,hm]
    · rfl
end Go.Ev


set_option maxRecDepth 100000
set_option maxHeartbeats 8000000
namespace Go.Ev
open Go.Proofs
def rWS (m:M) (w:WorldT) (s:Bs) (c:Int):Out:={ rs:=[.v m true (worldL w),.v .own false [.str s],.v .own false [.int .i64 c]],outs:=[] }
theorem WorldP.lock_get {w:WorldT} (h:WorldP w) {i:Nat} (hi:i<3):∃ hl:i<w.locks.length,w.locks[i]=w.lock i :=
  have hl:i<w.locks.length:=by have:=h.lk.len;omega
  ⟨hl,(getD_lt _ hl).symm⟩
theorem fillT1_t {o:OwnT} {p:Sp} {x:Bs} (h:(fillT1 o p x).2=true):(fillT1 o p x).1.t.length=48:=by
  unfold fillT1 at h ⊢
  split at h
  · split at h
    · rename_i a b
      rw [if_pos a,if_pos b]
      exact (ownOk_t b).1
    · cases h
  · cases h
theorem ev_l7Read (me:M) (w:WorldT) (h:WorldP w) (e:EvT) (i:Nat) (hi:i<3) (he:e.who=i) (hs:spOk e.span=true) :
    ev E 153 [.own true (worldL w),.v me true (evL e)]=some (rWS .own (readW w i e.span).1 (readW w i e.span).2.1 (readW w i e.span).2.2):=by
  obtain ⟨hl,ho⟩:=h.own_get hi
  obtain ⟨hk,hlo⟩:=h.lock_get hi
  have hB:=h.lk.bd _ (List.getElem_mem hk)
  have sp:=spOk_iff.1 hs
  have q1:e.span.1≤(e.span.2.toNat:Int):=by omega
  have q3:e.span.1.toNat≤e.span.2.toNat:=by omega
  have q4:max e.span.2 0=e.span.2:=by omega
  have q5:0≤e.span.2:=by omega
  have q6:e.span.1≤e.span.2:=by omega
  have c1:=fun m m1 m2 hm=>ev_l4May m m1 m2 hm w.locks[i] hB false e.span sp.1 (by omega) sp.2.2
  have c2:=fun m hm=>ev_l7File m hm w (layOk_iff.2 h.lay) h.st.now
  have hfl:=file_len w
  have c3:=fun m m' m'' hm=>ev_sFill m m' m'' hm (w.own i) (h.own i hi) e.span (subS w.file e.span) (by simp [subS];omega)
  have hft:=fun hb=>fillT1_t (o:=w.own i) (p:=e.span) (x:=subS w.file e.span) hb
  unfold readW
  rw [← hlo]
  cases e1:lockMay w.locks[i] false e.span
  · rw [e1] at c1
    rw [ev_fn Tryz.f153 rfl Tryz.func153 rfl rfl rfl (Nat.le_of_ble_eq_true rfl)]
    simp [he,hk,c1,rWS]
  · rw [e1] at c1
    simp only [if_true]
    rw [← ho] at c3 hft ⊢
    generalize fillT1 w.owns[i] e.span (subS w.file e.span)=z at *
    obtain ⟨o,b⟩:=z
    simp only [subS] at c3
    generalize w.file=fl at *
    cases b
    · rw [ev_fn Tryz.f153 rfl Tryz.func153 rfl rfl rfl (Nat.le_of_ble_eq_true rfl)]
      simp [he,hk,hl,c1,c2,c3,hfl,sp,q1,q3,q4,q5,q6,rWS]
    · have ht:=hft rfl
      dsimp only at ht
      rw [ev_fn Tryz.f153 rfl Tryz.func153 rfl rfl rfl (Nat.le_of_ble_eq_true rfl)]
      simp [he,hk,hl,c1,c2,c3,hfl,sp,q1,q3,q4,q5,q6,ht,rWS,subS,List.map_set]
theorem wrOk_def (k:Int) (x:Bs):wrOk k x=(!ltI k 0&&!ltI 48 k&&txtOk x&&!eqS x []&&!ltI 48 (k+x.length)):=rfl
theorem ev_l7Write (me:M) (w:WorldT) (h:WorldP w) (e:EvT) (i:Nat) (hi:i<3) (he:e.who=i) (hd:e.data.length≤4000000) :
    ev E 154 [.own true (worldL w),.v me true (evL e)]=some (rWI .own (writeW w i e.pos e.data).1 (writeW w i e.pos e.data).2):=by
  obtain ⟨hl,ho⟩:=h.own_get hi
  obtain ⟨hk,hlo⟩:=h.lock_get hi
  have hB:=h.lk.bd _ (List.getElem_mem hk)
  have c0:∀ m,ev E 169 [.v m false [.str e.data]]=some (rB (txtOk e.data)):=fun m=>ev_spec_TextOk m e.data (by omega)
  have c1:=fun h0 h1 h2 m m1 m2 hm=>ev_l4May m m1 m2 hm w.locks[i] hB true (e.pos,e.pos+(e.data.length:Int)) h0 h1 h2
  have c3:=fun m m' m'' hm=>ev_sWrite m m' m'' hm (w.own i) (h.own i hi) e.pos e.data hd
  unfold writeW
  rw [wrOk_def,← hlo]
  cases e1:ltI e.pos 0
  · cases e2:ltI 48 e.pos
    · cases e3:txtOk e.data
      · rw [ev_fn Tryz.f154 rfl Tryz.func154 rfl rfl rfl (Nat.le_of_ble_eq_true rfl)]
        simp [c0,e1,e2,e3,rWI]
      · cases e4:eqS e.data []
        · have hw:IntKind.i64.wrap (e.pos+(e.data.length:Int))=e.pos+(e.data.length:Int):=wrap64 (by rw [ltI_not] at e1 e2;omega)
          cases e5:ltI 48 (e.pos+(e.data.length:Int))
          · rw [ltI_not] at e1 e2 e5
            have c1:=c1 e1 (by dsimp only;omega) e5
            rw [← ltI_not] at e1 e2 e5
            generalize lockMay w.locks[i] true (e.pos,e.pos+(e.data.length:Int))=b at *
            cases b
            · rw [ev_fn Tryz.f154 rfl Tryz.func154 rfl rfl rfl (Nat.le_of_ble_eq_true rfl)]
              simp [c0,c1,e1,e2,e3,e4,e5,hw,he,hk,rWI]
            · rw [← ho] at c3 ⊢
              generalize writeT1 w.owns[i] e.pos e.data=z at *
              obtain ⟨o,b⟩:=z
              cases b
              · rw [ev_fn Tryz.f154 rfl Tryz.func154 rfl rfl rfl (Nat.le_of_ble_eq_true rfl)]
                simp [c0,c1,c3,e1,e2,e3,e4,e5,hw,he,hk,hl,rWI]
              · rw [ev_fn Tryz.f154 rfl Tryz.func154 rfl rfl rfl (Nat.le_of_ble_eq_true rfl)]
                simp [c0,c1,c3,e1,e2,e3,e4,e5,hw,he,hk,hl,rWI,List.map_set]
          · rw [ev_fn Tryz.f154 rfl Tryz.func154 rfl rfl rfl (Nat.le_of_ble_eq_true rfl)]
            simp [c0,e1,e2,e3,e4,e5,hw,rWI]
        · rw [ev_fn Tryz.f154 rfl Tryz.func154 rfl rfl rfl (Nat.le_of_ble_eq_true rfl)]
          simp [c0,e1,e2,e3,e4,rWI]
    · rw [ev_fn Tryz.f154 rfl Tryz.func154 rfl rfl rfl (Nat.le_of_ble_eq_true rfl)]
      simp [c0,e1,e2,rWI]
  · rw [ev_fn Tryz.f154 rfl Tryz.func154 rfl rfl rfl (Nat.le_of_ble_eq_true rfl)]
    simp [c0,e1,rWI]
theorem ev_l7Whole:ev E 149 []=some { rs:=[.v .own true (spL whole)],outs:=[] }:=by
  rw [ev_fn Tryz.f149 rfl Tryz.func149 rfl rfl rfl (Nat.le_of_ble_eq_true rfl)]
  simp [whole]
def rW1 (m:M) (w:WorldT):Out:={ rs:=[.v m true (worldL w)],outs:=[] }
theorem ev_l7Fall (w:WorldT) (h:WorldP w) (hd:∀ q∈w.kept,q.data.length≤4000000):ev E 96 [.own true (worldL w)]=some (rW1 .own { w with st:=(storeAll (storeFall w.st) w.kept).1 }):=by
  have FP:=fall_ok h.st
  have hk:=h.keptN
  have c4:=fun m hm=>ev_spec_StoreFall m hm w.st h.st.bd
  have c5:=fun m m' hm hm'=>ev_spec_StoreAll m m' hm hm' (storeFall w.st) w.kept FP.bd (by omega) hd
  rw [if_pos (storeOk_iff.2 h.st)] at c4
  rw [if_pos (storeOk_iff.2 FP)] at c5
  simp only [rS1] at c4
  simp only [rStA] at c5
  generalize storeAll (storeFall w.st) w.kept=z at *
  rw [ev_fn Tryz.f96 rfl Tryz.func96 rfl rfl rfl (Nat.le_of_ble_eq_true rfl)]
  simp [c4,c5,rW1]
end Go.Ev

