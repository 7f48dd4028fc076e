/- My texts joined: EvT62, EvT63, EvT66. No condition. -/
import Derived.Test.YtngbcdcghbapnaaGreatDoorEx1
import Derived.Test.YtngbcdcghbapnaaGreatDoorEx2
import Derived.Test.YtngbcdcghbapnaaGreatDoorEx5
import Derived.Test.YtngbcdcghbapnaaGreatDoorEx6
import Derived.Test.YtngbcdcghbapnaaGreatDoorEx7
import Derived.Test.YtngbcdcghbapnaaGreatDoorEx8
import Derived.Test.YtngbcdcghbapnaaGreatDoorEx9
import Derived.Test.YtngbcdcghbapnaaGreatDoorEx10
import Derived.Test.YtngbcdcghbapnaaGreatDoorEx11
import Derived.Test.YtngbcdcghbapnaaGreatDoorEx12
import Derived.Test.YtngbcdcghbapnaaGreatDoorEx15
import Derived.Test.YtngbcdcghbapnaaGreatDoorEx16
set_option linter.unusedVariables false
set_option linter.unusedSimpArgs false

set_option maxRecDepth 100000
set_option maxHeartbeats 4000000
namespace Go.Ev
open Go.Proofs
theorem noS_L:storeL noS=[.sl [],.sl [],.sl [],.sl [],.sl []]:=rfl
def rSt (s:StoreT) (c:Int):Out:={ rs:=[.v .own true (storeL s),.v .own false [.int .i64 c]],outs:=[] }
def rS1 (s:StoreT):Out:={ rs:=[.v .own true (storeL s)],outs:=[] }
theorem ev_impl_StoreDo (m m':M) (hm:m.isOwn=false) (s:StoreT) (q:ReqT) (b:StoreC s) (hq:q.data.length≤4000000) :
  ev E 141 [.v m true (storeL s),.v m' true (reqL q)]=some (if storeOk s=true then rSt (storeDo s q).1 (storeDo s q).2 else rSt noS 1):=by
 have c1:=fun m hm=>ev_impl_StoreOk m hm s b
 have c2:=fun m hm=>ev_again m hm s b.toStoreB
 have c3:=fun m=>ev_formed m q hq
 rw [ev_fn Tryz.f141 rfl Tryz.func141 rfl rfl rfl (Nat.le_of_ble_eq_true rfl)]
 cases e0:storeOk s
 ·simp [c1,e0,hm,rSt,noS]
 ·have P:=storeOk_iff.1 e0
  cases e1:reqOk q
  ·simp [c1,c2,c3,e0,e1,hm,rSt,storeDo]
  ·obtain ⟨hw1,hw2,hw3,hw4,hw5⟩:=reqOk_iff.1 e1
   obtain ⟨who,epoch,num,obj,pos,data⟩:=q
   dsimp only at *
   obtain ⟨i,rfl⟩:∃ i:Nat,who=i:=⟨who.toNat,by omega⟩
   obtain ⟨k,rfl⟩:∃ k:Nat,obj=k:=⟨obj.toNat,by omega⟩
   have hi:i<3:=by omega
   have hf:i<s.floors.length:=by have:=P.floors;omega
   have hl:i<s.last.length:=by have:=P.last;omega
   have hk:k<s.now.length:=by have:=P.now;omega
   have hn:=P.nums i hi
   have hwl:IntKind.i64.wrap (s.last[i]+1)=s.last[i]+1:=by rw [getD_lt _ hl] at hn;rw [wrap64];omega
   have ht:=P.nowT _ (List.getElem_mem hk)
   have c4:=fun m m' m''=>ev_impl_TextWrite m m' m'' s.now[k] data pos (by have:=txtOk_len ht;omega) hq
   rw [twS_of ht hw5] at c4
   rw [storeDo,if_pos e1]
   dsimp only
   rw [Int.toNat_natCast,Int.toNat_natCast,getD_lt _ hf,getD_lt _ hl,getD_lt _ hk]
   cases e2:ltI epoch s.floors[i]
   ·cases e3:ltI s.last[i] num
    ·simp [c1,c2,c3,e0,e1,e2,e3,hm,rSt,hf,hl,hk]
    ·cases e4:ltI (s.last[i]+1) num
     ·simp [c1,c2,c3,c4,e0,e1,e2,e3,e4,hm,rSt,hf,hl,hk,hwl,List.map_set]
     ·simp [c1,c2,c3,c4,e0,e1,e2,e3,e4,hm,rSt,hf,hl,hk,hwl]
   ·simp [c1,c2,c3,e0,e1,e2,hm,rSt,hf,hl,hk]
theorem ev_l5Do (m':M) (s:StoreT) (q:ReqT) (P:StoreP s) (hq:q.data.length≤4000000) :
  ev E 223 [.own true (storeL s),.v m' true (reqL q)]=some (rSt (storeDo s q).1 (storeDo s q).2):=by
 have c3:=fun m=>ev_l5Req m q hq
 rw [ev_fn Tryz.f223 rfl Tryz.func223 rfl rfl rfl (Nat.le_of_ble_eq_true rfl)]
 cases e1:reqOk q
 ·simp [c3,e1,rSt,storeDo]
 ·obtain ⟨hw1,hw2,hw3,hw4,hw5⟩:=reqOk_iff.1 e1
  obtain ⟨who,epoch,num,obj,pos,data⟩:=q
  dsimp only at *
  obtain ⟨i,rfl⟩:∃ i:Nat,who=i:=⟨who.toNat,by omega⟩
  obtain ⟨k,rfl⟩:∃ k:Nat,obj=k:=⟨obj.toNat,by omega⟩
  obtain ⟨p,rfl⟩:∃ p:Nat,pos=p:=⟨pos.toNat,by have:=wrOk_len hw5;omega⟩
  have hi:i<3:=by omega
  have hf:i<s.floors.length:=by have:=P.floors;omega
  have hl:i<s.last.length:=by have:=P.last;omega
  have hk:k<s.now.length:=by have:=P.now;omega
  have hn:=P.nums i hi
  have hwl:IntKind.i64.wrap (s.last[i]+1)=s.last[i]+1:=by rw [getD_lt _ hl] at hn;rw [wrap64];omega
  have ht:=P.nowT _ (List.getElem_mem hk)
  have c4:=fun m m' m''=>ev_l2Write m m' m'' s.now[k] data p (by have:=wrOk_len hw5;omega) (by have:=txtOk_len ht;omega) hq
  rw [storeDo,if_pos e1]
  dsimp only
  rw [Int.toNat_natCast,Int.toNat_natCast,Int.toNat_natCast,getD_lt _ hf,getD_lt _ hl,getD_lt _ hk]
  cases e2:ltI epoch s.floors[i]
  ·cases e3:ltI s.last[i] num
   ·simp [c3,e1,e2,e3,rSt,hf,hl,hk]
   ·cases e4:ltI (s.last[i]+1) num
    ·simp [c3,c4,e1,e2,e3,e4,rSt,hf,hl,hk,hwl,List.map_set]
    ·simp [c3,c4,e1,e2,e3,e4,rSt,hf,hl,hk,hwl]
  ·simp [c3,e1,e2,rSt,hf,hl,hk]
theorem lp_iStoreAll (m:M) (hm:m.isOwn=false) (qs:List ReqT) (hb:qs.length≤4000000) (hq:∀ q∈qs,q.data.length≤4000000) (a:Code) (ha:a=lp Tryz.f85 0):∀ (n i:Nat) (s:StoreT) (cs:List Int),i+n=qs.length→cs.length=i→StoreP s →
  loopC E (ev E) 85 a { V:=[(2,adc 2),(4,adc 4),(6,at1 6),(18,.v m false [.sl (qs.map reqL)]),(19,vi qs.length),(20,vi i)],H:=[bx (.c 2) (storeL s),bx (.c 4) (storeL noS),ow (.c 6) [.sl (intsL cs)]],ps:=[] } =
   some (.exit 0,{ V:=[(2,adc 2),(4,adc 4),(6,at1 6),(18,.v m false [.sl (qs.map reqL)]),(19,vi qs.length),(20,vi qs.length),(21,vb false)],H:=[bx (.c 2) (storeL (storeAll s (qs.drop i)).1),bx (.c 4) (storeL noS),ow (.c 6) [.sl (intsL (cs++(storeAll s (qs.drop i)).2))]],ps:=[] })
 | 0,i,s,cs,h,hc,P=>by
  rw [loopC_of _ _ _ _ ha]
  obtain rfl:i=qs.length:=by omega
  simp [lp,loopsOf,Tryz.f85,storeAll,noS]
 | n+1,i,s,cs,h,hc,P=>by
  have hlt:i<qs.length:=by omega
  have hw:=wrapN i (by omega)
  have ih:=lp_iStoreAll m hm qs hb hq a ha n (i+1) (storeDo s qs[i]).1 (cs++[(storeDo s qs[i]).2]) (by omega) (by simp;omega) (storeDo_ok _ P)
  push_cast at ih
  have c1:=fun m m' hm=>ev_impl_StoreDo m m' hm s qs[i] P.bd (hq _ (List.getElem_mem hlt))
  simp only [storeOk_iff.2 P,if_true,rSt] at c1
  have h1:(cs.length+1)*8≤17592186044416:=by omega
  have h2:cs.length+1≤17592186044416:=by omega
  rw [loopC_of _ _ _ _ ha,List.drop_eq_getElem_cons hlt,storeAll]
  clear ha
  generalize storeDo s qs[i]=r at c1 ih ⊢
  simp [lp,loopsOf,Tryz.f85,hlt,hw,c1,h1,h2,noS]
  simpa [noS] using ih
def rStA (s:StoreT) (cs:List Int):Out:={ rs:=[.v .own true (storeL s),.v .own false [.sl (intsL cs)]],outs:=[] }
theorem ev_impl_StoreAll (m m':M) (hm:m.isOwn=false) (hm':m'.isOwn=false) (s:StoreT) (qs:List ReqT) (b:StoreC s) (hb:qs.length≤4000000) (hq:∀ q∈qs,q.data.length≤4000000) :
  ev E 85 [.v m true (storeL s),.v m' false [.sl (qs.map reqL)]]=some (if storeOk s=true then rStA (storeAll s qs).1 (storeAll s qs).2 else rStA noS []):=by
 have c1:=fun m hm=>ev_impl_StoreOk m hm s b
 have c2:=fun m hm=>ev_again m hm s b.toStoreB
 rw [ev_fn Tryz.f85 rfl Tryz.func85 rfl rfl rfl (Nat.le_of_ble_eq_true rfl)]
 cases e0:storeOk s
 ·simp [c1,e0,hm,rStA,noS]
 ·have l0:=lp_iStoreAll m' hm' qs hb hq _ rfl qs.length 0 s [] (by omega) rfl (storeOk_iff.1 e0)
  push_cast at l0
  simp [c1,c2,e0,hm]
  simp only [List.drop_zero,List.nil_append] at l0
  rw [noS_L,show intsL []=[] from rfl] at l0
  rw [loopC_at ?_ l0]
  ·simp [rStA]
  ·rfl
theorem lp_sStoreAll (m:M) (hm:m.isOwn=false) (qs:List ReqT) (hb:qs.length≤4000000) (hq:∀ q∈qs,q.data.length≤4000000) (a:Code) (ha:a=lp Tryz.f163 0):∀ (n i:Nat) (s:StoreT) (cs:List Int),i+n=qs.length→cs.length=i→StoreP s →
  loopC E (ev E) 163 a { V:=[(1,.v m false [.sl (qs.map reqL)]),(4,adc 4),(6,at1 6),(7,adc 7),(8,vi i)],H:=[bx (.c 4) (storeL noS),ow (.c 6) [.sl (intsL cs)],bx (.c 7) (storeL s)],ps:=[] } =
   some (.exit 0,{ V:=[(1,.v m false [.sl (qs.map reqL)]),(4,adc 4),(6,at1 6),(7,adc 7),(8,vi qs.length),(21,vb false)],H:=[bx (.c 4) (storeL noS),ow (.c 6) [.sl (intsL (cs++(storeAll s (qs.drop i)).2))],bx (.c 7) (storeL (storeAll s (qs.drop i)).1)],ps:=[] })
 | 0,i,s,cs,h,hc,P=>by
  rw [loopC_of _ _ _ _ ha]
  obtain rfl:i=qs.length:=by omega
  simp [lp,loopsOf,Tryz.f163,storeAll,noS]
 | n+1,i,s,cs,h,hc,P=>by
  have hlt:i<qs.length:=by omega
  have hw:=wrapN i (by omega)
  have ih:=lp_sStoreAll m hm qs hb hq a ha n (i+1) (storeDo s qs[i]).1 (cs++[(storeDo s qs[i]).2]) (by omega) (by simp;omega) (storeDo_ok _ P)
  push_cast at ih
  have c1:=fun m'=>ev_l5Do m' s qs[i] P (hq _ (List.getElem_mem hlt))
  simp only [rSt] at c1
  have h1:(cs.length+1)*8≤17592186044416:=by omega
  have h2:cs.length+1≤17592186044416:=by omega
  rw [loopC_of _ _ _ _ ha,List.drop_eq_getElem_cons hlt,storeAll]
  clear ha
  generalize storeDo s qs[i]=r at c1 ih ⊢
  simp [lp,loopsOf,Tryz.f163,hlt,hw,c1,h1,h2,noS]
  simpa [noS] using ih
theorem ev_spec_StoreAll (m m':M) (hm:m.isOwn=false) (hm':m'.isOwn=false) (s:StoreT) (qs:List ReqT) (b:StoreC s) (hb:qs.length≤4000000) (hq:∀ q∈qs,q.data.length≤4000000) :
  ev E 163 [.v m true (storeL s),.v m' false [.sl (qs.map reqL)]]=some (if storeOk s=true then rStA (storeAll s qs).1 (storeAll s qs).2 else rStA noS []):=by
 have c1:=fun m hm=>ev_spec_StoreOk m hm s b
 have c2:=fun m hm=>ev_l5Copy m hm s b.toStoreB
 rw [ev_fn Tryz.f163 rfl Tryz.func163 rfl rfl rfl (Nat.le_of_ble_eq_true rfl)]
 cases e0:storeOk s
 ·simp [c1,e0,hm,rStA,noS]
 ·have l0:=lp_sStoreAll m' hm' qs hb hq _ rfl qs.length 0 s [] (by omega) rfl (storeOk_iff.1 e0)
  push_cast at l0
  simp [c1,c2,e0,hm]
  simp only [List.drop_zero,List.nil_append] at l0
  rw [noS_L,show intsL []=[] from rfl] at l0
  rw [loopC_at ?_ l0]
  ·simp [rStA]
  ·rfl
theorem ev_impl_StoreFall (m:M) (hm:m.isOwn=false) (s:StoreT) (b:StoreC s):ev E 30 [.v m true (storeL s)]=some (if storeOk s=true then rS1 (storeFall s) else rS1 noS):=by
 have c1:=fun m hm=>ev_impl_StoreOk m hm s b
 have c2:=fun m hm=>ev_again m hm s b.toStoreB
 have c3:=fun m=>ev_CloneS m s.sure b.sure
 have c4:=fun m=>ev_CloneI m s.slast b.slast
 rw [ev_fn Tryz.f30 rfl Tryz.func30 rfl rfl rfl (Nat.le_of_ble_eq_true rfl)]
 cases e0:storeOk s
 ·simp [c1,e0,hm,rS1,noS]
 ·simp [c1,c2,c3,c4,e0,hm,rS1,storeFall]
theorem ev_spec_StoreFall (m:M) (hm:m.isOwn=false) (s:StoreT) (b:StoreC s):ev E 164 [.v m true (storeL s)]=some (if storeOk s=true then rS1 (storeFall s) else rS1 noS):=by
 have c1:=fun m hm=>ev_spec_StoreOk m hm s b
 have c2:=fun m hm=>ev_l5Copy m hm s b.toStoreB
 have b1:=b.sure
 have b2:=b.slast
 have h1:s.sure.length*16≤17592186044416:=by omega
 have h2:s.sure.length≤17592186044416:=by omega
 have h3:s.slast.length*8≤17592186044416:=by omega
 have h4:s.slast.length≤17592186044416:=by omega
 rw [ev_fn Tryz.f164 rfl Tryz.func164 rfl rfl rfl (Nat.le_of_ble_eq_true rfl)]
 cases e0:storeOk s
 ·simp [c1,e0,hm,rS1,noS]
 ·simp [c1,c2,h1,h2,h3,h4,e0,hm,rS1,storeFall]
set_option maxRecDepth 100000
set_option maxHeartbeats 4000000
theorem of_sps (m:M) {xs:List Sp} (h:spsOk xs=true):ev E 64 [.v m false [.sl (xs.map spL)]]=some { rs:=[.v .own true (pl (inF xs))],outs:=[] } :=
 ev_impl_of m xs (by have:=spsOk_len h;omega) fun s hs=>by have:=spsOk_sp h s hs;omega
theorem put_or (m m' m'':M) (f g:Nat→Bool):ev E 65 [.v m true (pl f),.v m' true (pl g),.v m'' false [.bool true]]=some { rs:=[.v .own true (pl (orP f g))],outs:=[] }:=ev_put m m' m'' f g true
theorem lp_iLockOk (m:M) (hm:m.isOwn=false) (t:List HoldT) (hb:t.length≤4000000) (hk:∀ h∈t,holdB h) (a:Code) (ha:a=lp Tryz.f61 0):∀ (n i:Nat) (f g:Nat→Bool),i+n=t.length →
  ∃ f' g',loopC E (ev E) 61 a { V:=[(3,adc 3),(4,adc 4),(13,.v m false [.sl (t.map holdL)]),(14,vi t.length),(15,vi i)],H:=[bx (.c 3) (pl f),bx (.c 4) (pl g)],ps:=[] } =
   if lockI f g (t.drop i)=true then some (.exit 0,{ V:=[(3,adc 3),(4,adc 4),(13,.v m false [.sl (t.map holdL)]),(14,vi t.length),(15,vi t.length),(16,vb false)],H:=[bx (.c 3) (pl f'),bx (.c 4) (pl g')],ps:=[] })
   else some (.ret,{ V:=[(2,vb false)],H:=[],ps:=[] })
 | 0,i,f,g,h=>by
  refine ⟨f,g,?_⟩
  rw [loopC_of _ _ _ _ ha]
  obtain rfl:i=t.length:=by omega
  simp [-shapeT,lp,loopsOf,Tryz.f61,lockI]
 | n+1,i,f,g,h=>by
  have hlt:i<t.length:=by omega
  have hw:=wrapN i (by omega)
  obtain ⟨f',g',ih⟩:=lp_iLockOk m hm t hb hk a ha n (i+1) (orP (orP f (inF t[i].w)) (inF t[i].r)) (orP g (inF t[i].w)) (by omega)
  refine ⟨f',g',?_⟩
  push_cast at ih
  have hB:=hk _ (List.getElem_mem hlt)
  have c1:=fun m=>ev_impl_SpansOk m t[i].r (by have:=hB.1;omega)
  have c2:=fun m=>ev_impl_SpansOk m t[i].w (by have:=hB.2;omega)
  rw [loopC_of _ _ _ _ ha,List.drop_eq_getElem_cons hlt,lockI]
  clear ha
  generalize lockI (orP (orP f (inF t[i].w)) (inF t[i].r)) (orP g (inF t[i].w)) (t.drop (i+1))=r at ih ⊢
  cases e1:spsOk t[i].r
  ·simp [-shapeT,lp,loopsOf,Tryz.f61,hlt,hw,hm,c1,c2,e1]
  ·cases e2:spsOk t[i].w
   ·simp [-shapeT,lp,loopsOf,Tryz.f61,hlt,hw,hm,c1,c2,e1,e2]
   ·have c3:=fun m=>of_sps m e1
    have c4:=fun m=>of_sps m e2
    have c5:=fun m m'=>ev_meet m m' (inF t[i].r) (inF t[i].w)
    have c6:=fun m m'=>ev_meet m m' (inF t[i].w) f
    have c7:=fun m m'=>ev_meet m m' (inF t[i].r) g
    have c8:=fun m m' m''=>put_or m m' m'' g (inF t[i].w)
    have c9:=fun m m' m''=>put_or m m' m'' f (inF t[i].w)
    have c10:=fun m m' m''=>put_or m m' m'' (orP f (inF t[i].w)) (inF t[i].r)
    have k1:cellsEq (pl fun j=>inF t[i].r j&&inF t[i].w j) (pl fun _=>false)=some (noneP fun j=>inF t[i].r j&&inF t[i].w j):=cellsEq_pl _ _
    have k2:cellsEq (pl fun j=>inF t[i].w j&&f j) (pl fun _=>false)=some (noneP fun j=>inF t[i].w j&&f j):=cellsEq_pl _ _
    have k3:cellsEq (pl fun j=>inF t[i].r j&&g j) (pl fun _=>false)=some (noneP fun j=>inF t[i].r j&&g j):=cellsEq_pl _ _
    cases e3:noneP fun j=>inF t[i].r j&&inF t[i].w j
    ·rw [e3] at k1
     simp [-shapeT,lp,loopsOf,Tryz.f61,hlt,hw,hm,c1,c2,c3,c4,c5,e1,e2,k1,pl_ff]
    ·rw [e3] at k1
     cases e4:noneP fun j=>inF t[i].w j&&f j
     ·rw [e4] at k2
      simp [-shapeT,lp,loopsOf,Tryz.f61,hlt,hw,hm,c1,c2,c3,c4,c5,c6,e1,e2,k1,k2,pl_ff]
     ·rw [e4] at k2
      cases e5:noneP fun j=>inF t[i].r j&&g j
      ·rw [e5] at k3
       simp [-shapeT,lp,loopsOf,Tryz.f61,hlt,hw,hm,c1,c2,c3,c4,c5,c6,c7,e1,e2,k1,k2,k3,pl_ff]
      ·rw [e5] at k3
       simp [-shapeT,lp,loopsOf,Tryz.f61,hlt,hw,hm,c1,c2,c3,c4,c5,c6,c7,c8,c9,c10,e1,e2,k1,k2,k3,pl_ff]
       simpa using ih
theorem ev_impl_LockOk (m:M) (hm:m.isOwn=false) (t:List HoldT) (hb:t.length≤4000000) (hk:∀ h∈t,holdB h):ev E 61 [.v m false [.sl (t.map holdL)]]=some (rB (lockOk t)):=by
 rw [← lockI_eq,lockOkI]
 obtain ⟨f',g',l0⟩:=lp_iLockOk m hm t hb hk _ rfl t.length 0 (fun _=>false) (fun _=>false) (by omega)
 push_cast at l0
 simp only [List.drop_zero] at l0
 rw [ev_fn Tryz.f61 rfl Tryz.func61 rfl rfl rfl (Nat.le_of_ble_eq_true rfl)]
 cases e1:eqI t.length 3
 ·simp [e1]
 ·simp [e1,pl_ff]
  rw [loopC_at ?_ l0]
  ·cases e2:lockI (fun _=>false) (fun _=>false) t<;>simp
  ·rfl
theorem LockP.bd {t:List HoldT} (h:LockP t):∀ x∈t,holdB x:=by
 have h3:=h.len
 intro x hx
 obtain ⟨i,hi,rfl⟩:=List.mem_iff_getElem.1 hx
 have h1:=spsOk_len (h.r i (by omega))
 have h2:=spsOk_len (h.w i (by omega))
 rw [getD_lt _ hi] at h1 h2
 exact ⟨by omega,by omega⟩
set_option maxRecDepth 100000
set_option maxHeartbeats 4000000
def clr1 (x:Sp) (ys:List Sp):Bool:=ys.all fun y=>!ltI (meetS x y).1 (meetS x y).2
theorem lp_clear1 (m m':M) (xs ys:List Sp) (hx:xs.length≤4000000) (hy:ys.length≤4000000) (i:Nat) (hi:i<xs.length) (a:Code) (ha:a=lp Tryz.f221 1):∀ (n k:Nat),k+n=ys.length →
  loopC E (ev E) 221 a { V:=[(0,.v m false [.sl (xs.map spL)]),(1,.v m' false [.sl (ys.map spL)]),(5,vi i),(6,vi k)],H:=[],ps:=[] } =
   if clr1 xs[i] (ys.drop k)=true then some (.exit 2,{ V:=[(0,.v m false [.sl (xs.map spL)]),(1,.v m' false [.sl (ys.map spL)]),(5,vi i),(6,vi ys.length),(18,vb false)],H:=[],ps:=[] })
   else some (.ret,{ V:=[(4,vb false)],H:=[],ps:=[] })
 | 0,k,h=>by
  rw [loopC_of _ _ _ _ ha]
  obtain rfl:k=ys.length:=by omega
  simp [lp,loopsOf,Tryz.f221,clr1]
 | n+1,k,h=>by
  have hk:k<ys.length:=by omega
  have ih:=lp_clear1 m m' xs ys hx hy i hi a ha n (k+1) (by omega)
  push_cast at ih
  have hw:=wrapN k (by omega)
  have c1:=fun m m'=>ev_l1Meet m m' xs[i] ys[k]
  have hc:clr1 xs[i] (ys.drop k)=(!ltI (meetS xs[i] ys[k]).1 (meetS xs[i] ys[k]).2&&clr1 xs[i] (ys.drop (k+1))):=by
   rw [List.drop_eq_getElem_cons hk];rfl
  rw [loopC_of _ _ _ _ ha,hc]
  clear ha
  generalize clr1 xs[i] (ys.drop (k+1))=r at ih ⊢
  cases e1:ltI (meetS xs[i] ys[k]).1 (meetS xs[i] ys[k]).2
  ·simp only [e1,Bool.false_eq_true,if_false] at c1
   simp [lp,loopsOf,Tryz.f221,hi,hk,hw,c1,ih]
  ·simp only [e1,if_true] at c1
   simp [lp,loopsOf,Tryz.f221,hi,hk,hw,c1]
theorem lp_clear0 (m m':M) (xs ys:List Sp) (hx:xs.length≤4000000) (hy:ys.length≤4000000) (a:Code) (ha:a=lp Tryz.f221 0):∀ (n i:Nat),i+n=xs.length →
  loopC E (ev E) 221 a { V:=[(0,.v m false [.sl (xs.map spL)]),(1,.v m' false [.sl (ys.map spL)]),(5,vi i)],H:=[],ps:=[] } =
   if clearS (xs.drop i) ys=true then some (.exit 0,{ V:=[(0,.v m false [.sl (xs.map spL)]),(1,.v m' false [.sl (ys.map spL)]),(5,vi xs.length),(12,vb false)],H:=[],ps:=[] })
   else some (.ret,{ V:=[(4,vb false)],H:=[],ps:=[] })
 | 0,i,h=>by
  rw [loopC_of _ _ _ _ ha]
  obtain rfl:i=xs.length:=by omega
  simp [lp,loopsOf,Tryz.f221,clearS]
 | n+1,i,h=>by
  have hi:i<xs.length:=by omega
  have ih:=lp_clear0 m m' xs ys hx hy a ha n (i+1) (by omega)
  push_cast at ih
  have hw:=wrapN i (by omega)
  have hin:=fun a ha=>lp_clear1 m m' xs ys hx hy i hi a ha ys.length 0 (by omega)
  push_cast at hin
  have hc:clearS (xs.drop i) ys=(clr1 xs[i] ys&&clearS (xs.drop (i+1)) ys):=by
   rw [List.drop_eq_getElem_cons hi];rfl
  rw [loopC_of _ _ _ _ ha,hc]
  clear ha
  simp only [List.drop_zero] at hin
  generalize clearS (xs.drop (i+1)) ys=r at ih ⊢
  simp [lp,loopsOf,Tryz.f221,hi,hw]
  rw [hin _ ?_]
  ·cases clr1 xs[i] ys<;>simp [hw,ih]
  ·rfl
theorem ev_l4Clear (m m':M) (xs ys:List Sp) (hx:xs.length≤4000000) (hy:ys.length≤4000000):ev E 221 [.v m false [.sl (xs.map spL)],.v m' false [.sl (ys.map spL)]]=some (rB (clearS xs ys)):=by
 have l0:=fun a ha=>lp_clear0 m m' xs ys hx hy a ha xs.length 0 (by omega)
 push_cast at l0
 simp only [List.drop_zero] at l0
 rw [ev_fn Tryz.f221 rfl Tryz.func221 rfl rfl rfl (Nat.le_of_ble_eq_true rfl)]
 simp
 rw [l0 _ ?_]
 ·cases clearS xs ys<;>simp
 ·rfl
theorem lp_sLock1 (m:M) (hm:m.isOwn=false) (t:List HoldT) (hl:t.length=3) (hk:∀ h∈t,holdB h) (i:Nat) (hi:i<3) (a:Code) (ha:a=lp Tryz.f161 1):∀ (n k:Nat),k+n=3 →
  loopC E (ev E) 161 a { V:=[(0,.v m false [.sl (t.map holdL)]),(3,vi i),(4,vi k)],H:=[],ps:=[] } =
   if allTo (fun k=>(k==i) || (clearS (t.getD i noH).w (t.getD k noH).w&&clearS (t.getD i noH).w (t.getD k noH).r)) n k=true then some (.exit 2,{ V:=[(0,.v m false [.sl (t.map holdL)]),(3,vi i),(4,vi 3),(47,vb false)],H:=[],ps:=[] })
   else some (.ret,{ V:=[(2,vb false)],H:=[],ps:=[] })
 | 0,k,h=>by
  rw [loopC_of _ _ _ _ ha]
  obtain rfl:k=3:=by omega
  simp [lp,loopsOf,Tryz.f161,allTo,hl]
 | n+1,k,h=>by
  have hkt:k<t.length:=by omega
  have hit:i<t.length:=by omega
  have hK:(k:Int)<3:=by omega
  have hk3:k<3:=by omega
  have ih:=lp_sLock1 m hm t hl hk i hi a ha n (k+1) (by omega)
  push_cast at ih
  have hw:=wrapN k (by omega)
  have hB:=hk _ (List.getElem_mem hkt)
  have hB2:=hk _ (List.getElem_mem hit)
  have c1:=fun m m'=>ev_l4Clear m m' t[i].w t[k].w hB2.2 hB.2
  have c2:=fun m m'=>ev_l4Clear m m' t[i].w t[k].r hB2.2 hB.1
  have hin:eqI (k:Int) i=(k==i):=by rw [Bool.eq_iff_iff,eqI_iff,beq_iff_eq];omega
  rw [loopC_of _ _ _ _ ha,allTo]
  clear ha
  have hg:((k==i) || (clearS (t.getD i noH).w (t.getD k noH).w&&clearS (t.getD i noH).w (t.getD k noH).r))=(eqI (k:Int) i || (clearS t[i].w t[k].w&&clearS t[i].w t[k].r)):=by rw [hin,getD_lt _ hit,getD_lt _ hkt]
  rw [hg]
  generalize allTo (fun k=>(k==i) || (clearS (t.getD i noH).w (t.getD k noH).w&&clearS (t.getD i noH).w (t.getD k noH).r)) n (k+1)=r at ih ⊢
  clear hg hin
  have hl3:(t.length:Int)=3:=by omega
  cases e1:eqI (k:Int) i
  ·cases e2:clearS t[i].w t[k].w
   ·simp [lp,loopsOf,Tryz.f161,hl,hl3,hK,hk3,hkt,hit,hi,hw,hm,c1,e1,e2]
   ·cases e3:clearS t[i].w t[k].r<;>simp [lp,loopsOf,Tryz.f161,hl,hl3,hK,hk3,hkt,hit,hi,hw,hm,c1,c2,e1,e2,e3,ih]
  ·simp [lp,loopsOf,Tryz.f161,hl,hl3,hK,hk3,hkt,hit,hi,hw,hm,e1,ih]
theorem lp_sLock0 (m:M) (hm:m.isOwn=false) (t:List HoldT) (hl:t.length=3) (hk:∀ h∈t,holdB h) (a:Code) (ha:a=lp Tryz.f161 0):∀ (n i:Nat),i+n=3 →
  loopC E (ev E) 161 a { V:=[(0,.v m false [.sl (t.map holdL)]),(3,vi i)],H:=[],ps:=[] } =
   if allTo (lockAt t) n i=true then some (.exit 0,{ V:=[(0,.v m false [.sl (t.map holdL)]),(3,vi 3),(11,vb false)],H:=[],ps:=[] })
   else some (.ret,{ V:=[(2,vb false)],H:=[],ps:=[] })
 | 0,i,h=>by
  rw [loopC_of _ _ _ _ ha]
  obtain rfl:i=3:=by omega
  simp [lp,loopsOf,Tryz.f161,allTo,hl]
 | n+1,i,h=>by
  have hi:i<3:=by omega
  have hI:(i:Int)<3:=by omega
  have hit:i<t.length:=by omega
  have ih:=lp_sLock0 m hm t hl hk a ha n (i+1) (by omega)
  push_cast at ih
  have hw:=wrapN i (by omega)
  have hB:=hk _ (List.getElem_mem hit)
  have c1:=fun m=>ev_spec_SpansOk m t[i].r (by have:=hB.1;omega)
  have c2:=fun m=>ev_spec_SpansOk m t[i].w (by have:=hB.2;omega)
  have c3:=fun m m'=>ev_l4Clear m m' t[i].r t[i].w hB.1 hB.2
  have hin:=fun a ha=>lp_sLock1 m hm t hl hk i hi a ha 3 0 (by omega)
  push_cast at hin
  rw [loopC_of _ _ _ _ ha,allTo]
  clear ha
  have hg:lockAt t i=(spsOk t[i].r&&spsOk t[i].w&&clearS t[i].r t[i].w&&allTo (fun k=>(k==i) || (clearS (t.getD i noH).w (t.getD k noH).w&&clearS (t.getD i noH).w (t.getD k noH).r)) 3 0):=by rw [lockAt,getD_lt _ hit]
  rw [hg]
  clear hg
  generalize allTo (lockAt t) n (i+1)=r at ih ⊢
  generalize allTo (fun k=>(k==i) || (clearS (t.getD i noH).w (t.getD k noH).w&&clearS (t.getD i noH).w (t.getD k noH).r)) 3 0=z at hin ⊢
  cases e1:spsOk t[i].r
  ·simp [lp,loopsOf,Tryz.f161,hl,hI,hi,hit,hw,hm,c1,e1]
  ·cases e2:spsOk t[i].w
   ·simp [lp,loopsOf,Tryz.f161,hl,hI,hi,hit,hw,hm,c1,c2,e1,e2]
   ·cases e3:clearS t[i].r t[i].w
    ·simp [lp,loopsOf,Tryz.f161,hl,hI,hi,hit,hw,hm,c1,c2,c3,e1,e2,e3]
    ·simp [lp,loopsOf,Tryz.f161,hl,hI,hi,hit,hw,hm,c1,c2,c3,e1,e2,e3]
     rw [hin _ ?_]
     ·cases z<;>simp [hw,ih]
     ·rfl
theorem ev_spec_LockOk (m:M) (hm:m.isOwn=false) (t:List HoldT) (hb:t.length≤4000000) (hk:∀ h∈t,holdB h):ev E 161 [.v m false [.sl (t.map holdL)]]=some (rB (lockOk t)):=by
 rw [ev_fn Tryz.f161 rfl Tryz.func161 rfl rfl rfl (Nat.le_of_ble_eq_true rfl)]
 rw [lockOk]
 cases e1:eqI t.length 3
 ·simp [e1]
 ·have l0:=fun a ha=>lp_sLock0 m hm t (eqI3.1 e1) hk a ha 3 0 (by omega)
  push_cast at l0
  simp [e1]
  rw [l0 _ ?_]
  ·cases allTo (lockAt t) 3 0<;>simp
  ·rfl
theorem lp_l4May (m m1:M) (hm:m.isOwn=false) (h:HoldT) (hb:holdB h) (write:Bool) (s:Sp) (hi:Nat) (hs:s.2=hi) (h48:hi≤48) (a:Code) (ha:a=lp Tryz.f168 0):∀ (n i:Nat),i+n=hi →
  loopC E (ev E) 168 a { V:=[(1,.v m1 false [.bool write]),(3,adc 3),(5,adc 5),(7,vi i)],H:=[bxm (.c 3) m (holdL h),bx (.c 5) (spL s)],ps:=[] } =
   if allTo (mayAt h write) n i=true then some (.exit 0,{ V:=[(1,.v m1 false [.bool write]),(3,adc 3),(5,adc 5),(7,vi hi),(13,vb false)],H:=[bxm (.c 3) m (holdL h),bx (.c 5) (spL s)],ps:=[] })
   else some (.ret,{ V:=[(6,vb false)],H:=[],ps:=[] })
 | 0,i,h0=>by
  rw [loopC_of _ _ _ _ ha]
  obtain rfl:i=hi:=by omega
  simp [lp,loopsOf,Tryz.f168,allTo,hs]
 | n+1,i,h0=>by
  have hlt:i<hi:=by omega
  have ih:=lp_l4May m m1 hm h hb write s hi hs h48 a ha n (i+1) (by omega)
  push_cast at ih
  have hw:=wrapN i (by omega)
  have c1:∀ m m',ev E 167 [.v m false [.sl (h.w.map spL)],.v m' false [.int .i64 i]]=some (rB (inF h.w i)):=fun m m'=>ev_spec_l1In m m' h.w i (by have:=hb.2;omega)
  have c2:∀ m m',ev E 167 [.v m false [.sl (h.r.map spL)],.v m' false [.int .i64 i]]=some (rB (inF h.r i)):=fun m m'=>ev_spec_l1In m m' h.r i (by have:=hb.1;omega)
  rw [loopC_of _ _ _ _ ha,allTo,mayAt]
  clear ha
  generalize allTo (mayAt h write) n (i+1)=r at ih ⊢
  cases e1:inF h.w i
  ·cases write
   ·cases e2:inF h.r i<;>simp [lp,loopsOf,Tryz.f168,hs,hlt,hw,hm,c1,c2,e1,e2,ih]
   ·simp [lp,loopsOf,Tryz.f168,hs,hlt,hw,hm,c1,c2,e1,ih]
  ·simp [lp,loopsOf,Tryz.f168,hs,hlt,hw,hm,c1,c2,e1,ih]
theorem ev_l4May (m m1 m2:M) (hm:m.isOwn=false) (h:HoldT) (hb:holdB h) (write:Bool) (s:Sp) (h1:0≤s.1) (h2:s.1≤s.2) (h3:s.2≤48) :
  ev E 168 [.v m true (holdL h),.v m1 false [.bool write],.v m2 true (spL s)]=some (rB (lockMay h write s)):=by
 obtain ⟨lo,hlo⟩:∃ lo:Nat,s.1=lo:=⟨s.1.toNat,by omega⟩
 obtain ⟨hi,hhi⟩:∃ hi:Nat,s.2=hi:=⟨s.2.toNat,by omega⟩
 have l0:=lp_l4May m m1 hm h hb write s hi hhi (by omega) _ rfl (hi - lo) lo (by omega)
 have e:lockMay h write s=allTo (mayAt h write) (hi - lo) lo:=by
  unfold lockMay
  rw [hlo,hhi]
  congr 1
  omega
 rw [e]
 rw [ev_fn Tryz.f168 rfl Tryz.func168 rfl rfl rfl (Nat.le_of_ble_eq_true rfl)]
 simp [hm,hlo]
 rw [loopC_at ?_ l0]
 ·cases allTo (mayAt h write) (hi - lo) lo<;>simp
 ·rfl
end Go.Ev

