/- My texts joined: EvT62, EvT63. No condition. -/
import Derived.Test.YtngbcdcghbapnaaGreatDoorEn1
import Derived.Test.YtngbcdcghbapnaaGreatDoorEn2
import Derived.Test.YtngbcdcghbapnaaGreatDoorEn5
import Derived.Test.YtngbcdcghbapnaaGreatDoorEn6
import Derived.Test.YtngbcdcghbapnaaGreatDoorEn7
import Derived.Test.YtngbcdcghbapnaaGreatDoorEn8
import Derived.Test.YtngbcdcghbapnaaGreatDoorEn9
import Derived.Test.YtngbcdcghbapnaaGreatDoorEn10
import Derived.Test.YtngbcdcghbapnaaGreatDoorEn11
import Derived.Test.YtngbcdcghbapnaaGreatDoorEn12
import Derived.Test.YtngbcdcghbapnaaGreatDoorEn13
import Derived.Test.YtngbcdcghbapnaaGreatDoorEn14
import Derived.Test.YtngbcdcghbapnaaGreatDoorEn16
import Derived.Test.YtngbcdcghbapnaaGreatDoorEn17
import Derived.Test.YtngbcdcghbapnaaGreatDoorEn18
import Derived.Test.YtngbcdcghbapnaaGreatDoorEn19
import Derived.Test.YtngbcdcghbapnaaGreatDoorEn20
set_option linter.unusedVariables false
set_option linter.unusedSimpArgs false

set_option maxRecDepth 100000
set_option maxHeartbeats 4000000
namespace Go.Ev
open Go.Proofs
theorem noS_L:storeL noS=[.sl [],.sl [],.sl [],.sl [],.sl []]:=rfl
def rSt (s:StoreT) (c:Int):Out:={ rs:=[.v .own true (storeL s),.v .own false [.int .i64 c]],outs:=[] }
def rS1 (s:StoreT):Out:={ rs:=[.v .own true (storeL s)],outs:=[] }
theorem ev_impl_StoreDo (m m':M) (hm:m.isOwn=false) (s:StoreT) (q:ReqT) (b:StoreC s) (hq:q.data.length≤4000000) :
  ev E 141 [.v m true (storeL s),.v m' true (reqL q)]=some (if storeOk s=true then rSt (storeDo s q).1 (storeDo s q).2 else rSt noS 1):=by
 have c1:=fun m hm=>ev_impl_StoreOk m hm s b
 have c2:=fun m hm=>ev_again m hm s b.toStoreB
 have c3:=fun m=>ev_formed m q hq
 rw [ev_fn Tryz.f141 rfl Tryz.func141 rfl rfl rfl (Nat.le_of_ble_eq_true rfl)]
 cases e0:storeOk s
 ·simp [c1,e0,hm,rSt,noS]
 ·have P:=storeOk_iff.1 e0
  cases e1:reqOk q
  ·simp [c1,c2,c3,e0,e1,hm,rSt,storeDo]
  ·obtain ⟨hw1,hw2,hw3,hw4,hw5⟩:=reqOk_iff.1 e1
   obtain ⟨who,epoch,num,obj,pos,data⟩:=q
   dsimp only at *
   obtain ⟨i,rfl⟩:∃ i:Nat,who=i:=⟨who.toNat,by omega⟩
   obtain ⟨k,rfl⟩:∃ k:Nat,obj=k:=⟨obj.toNat,by omega⟩
   have hi:i<3:=by omega
   have hf:i<s.floors.length:=by have:=P.floors;omega
   have hl:i<s.last.length:=by have:=P.last;omega
   have hk:k<s.now.length:=by have:=P.now;omega
   have hn:=P.nums i hi
   have hwl:IntKind.i64.wrap (s.last[i]+1)=s.last[i]+1:=by rw [getD_lt _ hl] at hn;rw [wrap64];omega
   have ht:=P.nowT _ (List.getElem_mem hk)
   have c4:=fun m m' m''=>ev_impl_TextWrite m m' m'' s.now[k] data pos (by have:=txtOk_len ht;omega) hq
   rw [twS_of ht hw5] at c4
   rw [storeDo,if_pos e1]
   dsimp only
   rw [Int.toNat_natCast,Int.toNat_natCast,getD_lt _ hf,getD_lt _ hl,getD_lt _ hk]
   cases e2:ltI epoch s.floors[i]
   ·cases e3:ltI s.last[i] num
    ·simp [c1,c2,c3,e0,e1,e2,e3,hm,rSt,hf,hl,hk]
    ·cases e4:ltI (s.last[i]+1) num
     ·simp [c1,c2,c3,c4,e0,e1,e2,e3,e4,hm,rSt,hf,hl,hk,hwl,List.map_set]
     ·simp [c1,c2,c3,c4,e0,e1,e2,e3,e4,hm,rSt,hf,hl,hk,hwl]
   ·simp [c1,c2,c3,e0,e1,e2,hm,rSt,hf,hl,hk]
theorem ev_l5Do (m':M) (s:StoreT) (q:ReqT) (P:StoreP s) (hq:q.data.length≤4000000) :
  ev E 223 [.own true (storeL s),.v m' true (reqL q)]=some (rSt (storeDo s q).1 (storeDo s q).2):=by
 have c3:=fun m=>ev_l5Req m q hq
 rw [ev_fn Tryz.f223 rfl Tryz.func223 rfl rfl rfl (Nat.le_of_ble_eq_true rfl)]
 cases e1:reqOk q
 ·simp [c3,e1,rSt,storeDo]
 ·obtain ⟨hw1,hw2,hw3,hw4,hw5⟩:=reqOk_iff.1 e1
  obtain ⟨who,epoch,num,obj,pos,data⟩:=q
  dsimp only at *
  obtain ⟨i,rfl⟩:∃ i:Nat,who=i:=⟨who.toNat,by omega⟩
  obtain ⟨k,rfl⟩:∃ k:Nat,obj=k:=⟨obj.toNat,by omega⟩
  obtain ⟨p,rfl⟩:∃ p:Nat,pos=p:=⟨pos.toNat,by have:=wrOk_len hw5;omega⟩
  have hi:i<3:=by omega
  have hf:i<s.floors.length:=by have:=P.floors;omega
  have hl:i<s.last.length:=by have:=P.last;omega
  have hk:k<s.now.length:=by have:=P.now;omega
  have hn:=P.nums i hi
  have hwl:IntKind.i64.wrap (s.last[i]+1)=s.last[i]+1:=by rw [getD_lt _ hl] at hn;rw [wrap64];omega
  have ht:=P.nowT _ (List.getElem_mem hk)
  have c4:=fun m m' m''=>ev_l2Write m m' m'' s.now[k] data p (by have:=wrOk_len hw5;omega) (by have:=txtOk_len ht;omega) hq
  rw [storeDo,if_pos e1]
  dsimp only
  rw [Int.toNat_natCast,Int.toNat_natCast,Int.toNat_natCast,getD_lt _ hf,getD_lt _ hl,getD_lt _ hk]
  cases e2:ltI epoch s.floors[i]
  ·cases e3:ltI s.last[i] num
   ·simp [c3,e1,e2,e3,rSt,hf,hl,hk]
   ·cases e4:ltI (s.last[i]+1) num
    ·simp [c3,c4,e1,e2,e3,e4,rSt,hf,hl,hk,hwl,List.map_set]
    ·simp [c3,c4,e1,e2,e3,e4,rSt,hf,hl,hk,hwl]
  ·simp [c3,e1,e2,rSt,hf,hl,hk]
theorem ev_spec_StoreDo (m m':M) (hm:m.isOwn=false) (s:StoreT) (q:ReqT) (b:StoreC s) (hq:q.data.length≤4000000) :
  ev E 210 [.v m true (storeL s),.v m' true (reqL q)]=some (if storeOk s=true then rSt (storeDo s q).1 (storeDo s q).2 else rSt noS 1):=by
 have c1:=fun m hm=>ev_spec_StoreOk m hm s b
 have c2:=fun m hm=>ev_l5Copy m hm s b.toStoreB
 rw [ev_fn Tryz.f210 rfl Tryz.func210 rfl rfl rfl (Nat.le_of_ble_eq_true rfl)]
 cases e0:storeOk s
 ·simp [c1,e0,hm,rSt,noS]
 ·have c3:=fun m'=>ev_l5Do m' s q (storeOk_iff.1 e0) hq
  simp [c1,c2,c3,e0,hm,rSt]
theorem lp_iStoreAll (m:M) (hm:m.isOwn=false) (qs:List ReqT) (hb:qs.length≤4000000) (hq:∀ q∈qs,q.data.length≤4000000) (a:Code) (ha:a=lp Tryz.f85 0):∀ (n i:Nat) (s:StoreT) (cs:List Int),i+n=qs.length→cs.length=i→StoreP s →
  loopC E (ev E) 85 a { V:=[(2,adc 2),(4,adc 4),(6,at1 6),(18,.v m false [.sl (qs.map reqL)]),(19,vi qs.length),(20,vi i)],H:=[bx (.c 2) (storeL s),bx (.c 4) (storeL noS),ow (.c 6) [.sl (intsL cs)]],ps:=[] } =
   some (.exit 0,{ V:=[(2,adc 2),(4,adc 4),(6,at1 6),(18,.v m false [.sl (qs.map reqL)]),(19,vi qs.length),(20,vi qs.length),(21,vb false)],H:=[bx (.c 2) (storeL (storeAll s (qs.drop i)).1),bx (.c 4) (storeL noS),ow (.c 6) [.sl (intsL (cs++(storeAll s (qs.drop i)).2))]],ps:=[] })
 | 0,i,s,cs,h,hc,P=>by
  rw [loopC_of _ _ _ _ ha]
  obtain rfl:i=qs.length:=by omega
  simp [lp,loopsOf,Tryz.f85,storeAll,noS]
 | n+1,i,s,cs,h,hc,P=>by
  have hlt:i<qs.length:=by omega
  have hw:=wrapN i (by omega)
  have ih:=lp_iStoreAll m hm qs hb hq a ha n (i+1) (storeDo s qs[i]).1 (cs++[(storeDo s qs[i]).2]) (by omega) (by simp;omega) (storeDo_ok _ P)
  push_cast at ih
  have c1:=fun m m' hm=>ev_impl_StoreDo m m' hm s qs[i] P.bd (hq _ (List.getElem_mem hlt))
  simp only [storeOk_iff.2 P,if_true,rSt] at c1
  have h1:(cs.length+1)*8≤17592186044416:=by omega
  have h2:cs.length+1≤17592186044416:=by omega
  rw [loopC_of _ _ _ _ ha,List.drop_eq_getElem_cons hlt,storeAll]
  clear ha
  generalize storeDo s qs[i]=r at c1 ih ⊢
  simp [lp,loopsOf,Tryz.f85,hlt,hw,c1,h1,h2,noS]
  simpa [noS] using ih
def rStA (s:StoreT) (cs:List Int):Out:={ rs:=[.v .own true (storeL s),.v .own false [.sl (intsL cs)]],outs:=[] }
theorem ev_impl_StoreAll (m m':M) (hm:m.isOwn=false) (hm':m'.isOwn=false) (s:StoreT) (qs:List ReqT) (b:StoreC s) (hb:qs.length≤4000000) (hq:∀ q∈qs,q.data.length≤4000000) :
  ev E 85 [.v m true (storeL s),.v m' false [.sl (qs.map reqL)]]=some (if storeOk s=true then rStA (storeAll s qs).1 (storeAll s qs).2 else rStA noS []):=by
 have c1:=fun m hm=>ev_impl_StoreOk m hm s b
 have c2:=fun m hm=>ev_again m hm s b.toStoreB
 rw [ev_fn Tryz.f85 rfl Tryz.func85 rfl rfl rfl (Nat.le_of_ble_eq_true rfl)]
 cases e0:storeOk s
 ·simp [c1,e0,hm,rStA,noS]
 ·have l0:=lp_iStoreAll m' hm' qs hb hq _ rfl qs.length 0 s [] (by omega) rfl (storeOk_iff.1 e0)
  push_cast at l0
  simp [c1,c2,e0,hm]
  simp only [List.drop_zero,List.nil_append] at l0
  rw [noS_L,show intsL []=[] from rfl] at l0
  rw [loopC_at ?_ l0]
  ·simp [rStA]
  ·rfl
theorem lp_sStoreAll (m:M) (hm:m.isOwn=false) (qs:List ReqT) (hb:qs.length≤4000000) (hq:∀ q∈qs,q.data.length≤4000000) (a:Code) (ha:a=lp Tryz.f163 0):∀ (n i:Nat) (s:StoreT) (cs:List Int),i+n=qs.length→cs.length=i→StoreP s →
  loopC E (ev E) 163 a { V:=[(1,.v m false [.sl (qs.map reqL)]),(4,adc 4),(6,at1 6),(7,adc 7),(8,vi i)],H:=[bx (.c 4) (storeL noS),ow (.c 6) [.sl (intsL cs)],bx (.c 7) (storeL s)],ps:=[] } =
   some (.exit 0,{ V:=[(1,.v m false [.sl (qs.map reqL)]),(4,adc 4),(6,at1 6),(7,adc 7),(8,vi qs.length),(21,vb false)],H:=[bx (.c 4) (storeL noS),ow (.c 6) [.sl (intsL (cs++(storeAll s (qs.drop i)).2))],bx (.c 7) (storeL (storeAll s (qs.drop i)).1)],ps:=[] })
 | 0,i,s,cs,h,hc,P=>by
  rw [loopC_of _ _ _ _ ha]
  obtain rfl:i=qs.length:=by omega
  simp [lp,loopsOf,Tryz.f163,storeAll,noS]
 | n+1,i,s,cs,h,hc,P=>by
  have hlt:i<qs.length:=by omega
  have hw:=wrapN i (by omega)
  have ih:=lp_sStoreAll m hm qs hb hq a ha n (i+1) (storeDo s qs[i]).1 (cs++[(storeDo s qs[i]).2]) (by omega) (by simp;omega) (storeDo_ok _ P)
  push_cast at ih
  have c1:=fun m'=>ev_l5Do m' s qs[i] P (hq _ (List.getElem_mem hlt))
  simp only [rSt] at c1
  have h1:(cs.length+1)*8≤17592186044416:=by omega
  have h2:cs.length+1≤17592186044416:=by omega
  rw [loopC_of _ _ _ _ ha,List.drop_eq_getElem_cons hlt,storeAll]
  clear ha
  generalize storeDo s qs[i]=r at c1 ih ⊢
  simp [lp,loopsOf,Tryz.f163,hlt,hw,c1,h1,h2,noS]
  simpa [noS] using ih
theorem ev_spec_StoreAll (m m':M) (hm:m.isOwn=false) (hm':m'.isOwn=false) (s:StoreT) (qs:List ReqT) (b:StoreC s) (hb:qs.length≤4000000) (hq:∀ q∈qs,q.data.length≤4000000) :
  ev E 163 [.v m true (storeL s),.v m' false [.sl (qs.map reqL)]]=some (if storeOk s=true then rStA (storeAll s qs).1 (storeAll s qs).2 else rStA noS []):=by
 have c1:=fun m hm=>ev_spec_StoreOk m hm s b
 have c2:=fun m hm=>ev_l5Copy m hm s b.toStoreB
 rw [ev_fn Tryz.f163 rfl Tryz.func163 rfl rfl rfl (Nat.le_of_ble_eq_true rfl)]
 cases e0:storeOk s
 ·simp [c1,e0,hm,rStA,noS]
 ·have l0:=lp_sStoreAll m' hm' qs hb hq _ rfl qs.length 0 s [] (by omega) rfl (storeOk_iff.1 e0)
  push_cast at l0
  simp [c1,c2,e0,hm]
  simp only [List.drop_zero,List.nil_append] at l0
  rw [noS_L,show intsL []=[] from rfl] at l0
  rw [loopC_at ?_ l0]
  ·simp [rStA]
  ·rfl
theorem ev_impl_StoreSync (m:M) (hm:m.isOwn=false) (s:StoreT) (b:StoreC s):ev E 29 [.v m true (storeL s)]=some (if storeOk s=true then rS1 (storeSync s) else rS1 noS):=by
 have c1:=fun m hm=>ev_impl_StoreOk m hm s b
 have c2:=fun m hm=>ev_again m hm s b.toStoreB
 have c3:=fun m=>ev_CloneS m s.now b.now
 have c4:=fun m=>ev_CloneI m s.last b.last
 rw [ev_fn Tryz.f29 rfl Tryz.func29 rfl rfl rfl (Nat.le_of_ble_eq_true rfl)]
 cases e0:storeOk s
 ·simp [c1,e0,hm,rS1,noS]
 ·simp [c1,c2,c3,c4,e0,hm,rS1,storeSync]
theorem ev_impl_StoreFall (m:M) (hm:m.isOwn=false) (s:StoreT) (b:StoreC s):ev E 30 [.v m true (storeL s)]=some (if storeOk s=true then rS1 (storeFall s) else rS1 noS):=by
 have c1:=fun m hm=>ev_impl_StoreOk m hm s b
 have c2:=fun m hm=>ev_again m hm s b.toStoreB
 have c3:=fun m=>ev_CloneS m s.sure b.sure
 have c4:=fun m=>ev_CloneI m s.slast b.slast
 rw [ev_fn Tryz.f30 rfl Tryz.func30 rfl rfl rfl (Nat.le_of_ble_eq_true rfl)]
 cases e0:storeOk s
 ·simp [c1,e0,hm,rS1,noS]
 ·simp [c1,c2,c3,c4,e0,hm,rS1,storeFall]
theorem ev_spec_StoreSync (m:M) (hm:m.isOwn=false) (s:StoreT) (b:StoreC s):ev E 123 [.v m true (storeL s)]=some (if storeOk s=true then rS1 (storeSync s) else rS1 noS):=by
 have c1:=fun m hm=>ev_spec_StoreOk m hm s b
 have c2:=fun m hm=>ev_l5Copy m hm s b.toStoreB
 have b1:=b.now
 have b2:=b.last
 have h1:s.now.length*16≤17592186044416:=by omega
 have h2:s.now.length≤17592186044416:=by omega
 have h3:s.last.length*8≤17592186044416:=by omega
 have h4:s.last.length≤17592186044416:=by omega
 rw [ev_fn Tryz.f123 rfl Tryz.func123 rfl rfl rfl (Nat.le_of_ble_eq_true rfl)]
 cases e0:storeOk s
 ·simp [c1,e0,hm,rS1,noS]
 ·simp [c1,c2,h1,h2,h3,h4,e0,hm,rS1,storeSync]
theorem ev_spec_StoreFall (m:M) (hm:m.isOwn=false) (s:StoreT) (b:StoreC s):ev E 164 [.v m true (storeL s)]=some (if storeOk s=true then rS1 (storeFall s) else rS1 noS):=by
 have c1:=fun m hm=>ev_spec_StoreOk m hm s b
 have c2:=fun m hm=>ev_l5Copy m hm s b.toStoreB
 have b1:=b.sure
 have b2:=b.slast
 have h1:s.sure.length*16≤17592186044416:=by omega
 have h2:s.sure.length≤17592186044416:=by omega
 have h3:s.slast.length*8≤17592186044416:=by omega
 have h4:s.slast.length≤17592186044416:=by omega
 rw [ev_fn Tryz.f164 rfl Tryz.func164 rfl rfl rfl (Nat.le_of_ble_eq_true rfl)]
 cases e0:storeOk s
 ·simp [c1,e0,hm,rS1,noS]
 ·simp [c1,c2,h1,h2,h3,h4,e0,hm,rS1,storeFall]
def rStB (s:StoreT) (c:Bool):Out:={ rs:=[.v .own true (storeL s),.v .own false [.bool c]],outs:=[] }
def fenceOk (who e:Int):Bool:=whoOk who&&(!ltI e 0&&!ltI 100 e)
def fenceT (s:StoreT) (who e:Int):Out:=if fenceOk who e=true then rStB (storeFence s who.toNat e) true else rStB s false
theorem ev_impl_StoreFence (m m' m'':M) (hm:m.isOwn=false) (s:StoreT) (who e:Int) (b:StoreC s):ev E 208 [.v m true (storeL s),.v m' false [.int .i64 who],.v m'' false [.int .i64 e]]=some (if storeOk s=true then fenceT s who e else rStB noS false):=by
 have c1:=fun m hm=>ev_impl_StoreOk m hm s b
 have c2:=fun m hm=>ev_again m hm s b.toStoreB
 have c3:=fun m=>ev_impl_client m who
 rw [ev_fn Tryz.f208 rfl Tryz.func208 rfl rfl rfl (Nat.le_of_ble_eq_true rfl)]
 cases e0:storeOk s
 ·simp [c1,e0,hm,rStB,noS]
 ·have P:=storeOk_iff.1 e0
  cases e1:whoOk who
  ·simp [c1,c2,c3,e0,e1,hm,fenceT,fenceOk,rStB]
  ·cases e2:ltI e 0
   ·cases e3:ltI 100 e
    ·simp only [whoOk,Bool.and_eq_true,Bool.not_eq_true',ltI_not,ltI_iff] at e1
     obtain ⟨i,rfl⟩:∃ i:Nat,who=i:=⟨who.toNat,by omega⟩
     have e1:whoOk i=true:=by simp only [whoOk,Bool.and_eq_true,Bool.not_eq_true',ltI_not,ltI_iff];exact e1
     have hf:i<s.floors.length:=by have:=P.floors;simp only [whoOk,Bool.and_eq_true,Bool.not_eq_true',ltI_not,ltI_iff] at e1;omega
     have c4:=fun m m'=>ev_spec_l1Max m m' s.floors[i] e
     simp only [fenceT,fenceOk,e1,e2,e3,Bool.not_false,Bool.true_and,if_true,storeFence,Int.toNat_natCast,getD_lt _ hf]
     simp [c1,c2,c3,c4,e0,e1,e2,e3,hm,rStB,hf,maxJ,List.map_set]
    ·simp [c1,c2,c3,e0,e1,e2,e3,hm,fenceT,fenceOk,rStB]
   ·simp [c1,c2,c3,e0,e1,e2,hm,fenceT,fenceOk,rStB]
theorem ev_spec_StoreFence (m m' m'':M) (hm:m.isOwn=false) (s:StoreT) (who e:Int) (b:StoreC s):ev E 213 [.v m true (storeL s),.v m' false [.int .i64 who],.v m'' false [.int .i64 e]]=some (if storeOk s=true then fenceT s who e else rStB noS false):=by
 have c1:=fun m hm=>ev_spec_StoreOk m hm s b
 have c2:=fun m hm=>ev_l5Copy m hm s b.toStoreB
 have c3:=fun m=>ev_spec_l4Who m who
 rw [ev_fn Tryz.f213 rfl Tryz.func213 rfl rfl rfl (Nat.le_of_ble_eq_true rfl)]
 cases e0:storeOk s
 ·simp [c1,e0,hm,rStB,noS]
 ·have P:=storeOk_iff.1 e0
  cases e1:whoOk who
  ·simp [c1,c2,c3,e0,e1,hm,fenceT,fenceOk,rStB]
  ·cases e2:ltI e 0
   ·cases e3:ltI 100 e
    ·simp only [whoOk,Bool.and_eq_true,Bool.not_eq_true',ltI_not,ltI_iff] at e1
     obtain ⟨i,rfl⟩:∃ i:Nat,who=i:=⟨who.toNat,by omega⟩
     have e1:whoOk i=true:=by simp only [whoOk,Bool.and_eq_true,Bool.not_eq_true',ltI_not,ltI_iff];exact e1
     have hf:i<s.floors.length:=by have:=P.floors;simp only [whoOk,Bool.and_eq_true,Bool.not_eq_true',ltI_not,ltI_iff] at e1;omega
     have c4:=fun m m'=>ev_spec_l1Max m m' s.floors[i] e
     simp only [fenceT,fenceOk,e1,e2,e3,Bool.not_false,Bool.true_and,if_true,storeFence,Int.toNat_natCast,getD_lt _ hf]
     simp [c1,c2,c3,c4,e0,e1,e2,e3,hm,rStB,hf,maxJ,List.map_set]
    ·simp [c1,c2,c3,e0,e1,e2,e3,hm,fenceT,fenceOk,rStB]
   ·simp [c1,c2,c3,e0,e1,e2,hm,fenceT,fenceOk,rStB]
set_option maxRecDepth 100000
set_option maxHeartbeats 4000000
theorem one_in (s:Sp) (j:Nat):inF [s] j=inSp j s:=by simp [inF]
theorem of_sps (m:M) {xs:List Sp} (h:spsOk xs=true):ev E 64 [.v m false [.sl (xs.map spL)]]=some { rs:=[.v .own true (pl (inF xs))],outs:=[] } :=
 ev_impl_of m xs (by have:=spsOk_len h;omega) fun s hs=>by have:=spsOk_sp h s hs;omega
theorem of_one (m:M) {s:Sp} (h:spOk s=true):ev E 64 [.v m false [.sl [spL s]]]=some { rs:=[.v .own true (pl (inF [s]))],outs:=[] } :=
 ev_impl_of m [s] (by simp) fun p hp=>by simp only [List.mem_singleton] at hp;subst hp;have:=spOk_iff.1 h;omega
theorem put_or (m m' m'':M) (f g:Nat→Bool):ev E 65 [.v m true (pl f),.v m' true (pl g),.v m'' false [.bool true]]=some { rs:=[.v .own true (pl (orP f g))],outs:=[] }:=ev_put m m' m'' f g true
abbrev andP (f g:Nat→Bool):Nat→Bool:=fun j=>f j&&g j
theorem lp_iLockOk (m:M) (hm:m.isOwn=false) (t:List HoldT) (hb:t.length≤4000000) (hk:∀ h∈t,holdB h) (a:Code) (ha:a=lp Tryz.f61 0):∀ (n i:Nat) (f g:Nat→Bool),i+n=t.length →
  ∃ f' g',loopC E (ev E) 61 a { V:=[(3,adc 3),(4,adc 4),(13,.v m false [.sl (t.map holdL)]),(14,vi t.length),(15,vi i)],H:=[bx (.c 3) (pl f),bx (.c 4) (pl g)],ps:=[] } =
   if lockI f g (t.drop i)=true then some (.exit 0,{ V:=[(3,adc 3),(4,adc 4),(13,.v m false [.sl (t.map holdL)]),(14,vi t.length),(15,vi t.length),(16,vb false)],H:=[bx (.c 3) (pl f'),bx (.c 4) (pl g')],ps:=[] })
   else some (.ret,{ V:=[(2,vb false)],H:=[],ps:=[] })
 | 0,i,f,g,h=>by
  refine ⟨f,g,?_⟩
  rw [loopC_of _ _ _ _ ha]
  obtain rfl:i=t.length:=by omega
  simp [-shapeT,lp,loopsOf,Tryz.f61,lockI]
 | n+1,i,f,g,h=>by
  have hlt:i<t.length:=by omega
  have hw:=wrapN i (by omega)
  obtain ⟨f',g',ih⟩:=lp_iLockOk m hm t hb hk a ha n (i+1) (orP (orP f (inF t[i].w)) (inF t[i].r)) (orP g (inF t[i].w)) (by omega)
  refine ⟨f',g',?_⟩
  push_cast at ih
  have hB:=hk _ (List.getElem_mem hlt)
  have c1:=fun m=>ev_impl_SpansOk m t[i].r (by have:=hB.1;omega)
  have c2:=fun m=>ev_impl_SpansOk m t[i].w (by have:=hB.2;omega)
  rw [loopC_of _ _ _ _ ha,List.drop_eq_getElem_cons hlt,lockI]
  clear ha
  generalize lockI (orP (orP f (inF t[i].w)) (inF t[i].r)) (orP g (inF t[i].w)) (t.drop (i+1))=r at ih ⊢
  cases e1:spsOk t[i].r
  ·simp [-shapeT,lp,loopsOf,Tryz.f61,hlt,hw,hm,c1,c2,e1]
  ·cases e2:spsOk t[i].w
   ·simp [-shapeT,lp,loopsOf,Tryz.f61,hlt,hw,hm,c1,c2,e1,e2]
   ·have c3:=fun m=>of_sps m e1
    have c4:=fun m=>of_sps m e2
    have c5:=fun m m'=>ev_meet m m' (inF t[i].r) (inF t[i].w)
    have c6:=fun m m'=>ev_meet m m' (inF t[i].w) f
    have c7:=fun m m'=>ev_meet m m' (inF t[i].r) g
    have c8:=fun m m' m''=>put_or m m' m'' g (inF t[i].w)
    have c9:=fun m m' m''=>put_or m m' m'' f (inF t[i].w)
    have c10:=fun m m' m''=>put_or m m' m'' (orP f (inF t[i].w)) (inF t[i].r)
    have k1:cellsEq (pl fun j=>inF t[i].r j&&inF t[i].w j) (pl fun _=>false)=some (noneP fun j=>inF t[i].r j&&inF t[i].w j):=cellsEq_pl _ _
    have k2:cellsEq (pl fun j=>inF t[i].w j&&f j) (pl fun _=>false)=some (noneP fun j=>inF t[i].w j&&f j):=cellsEq_pl _ _
    have k3:cellsEq (pl fun j=>inF t[i].r j&&g j) (pl fun _=>false)=some (noneP fun j=>inF t[i].r j&&g j):=cellsEq_pl _ _
    cases e3:noneP fun j=>inF t[i].r j&&inF t[i].w j
    ·rw [e3] at k1
     simp [-shapeT,lp,loopsOf,Tryz.f61,hlt,hw,hm,c1,c2,c3,c4,c5,e1,e2,k1,pl_ff]
    ·rw [e3] at k1
     cases e4:noneP fun j=>inF t[i].w j&&f j
     ·rw [e4] at k2
      simp [-shapeT,lp,loopsOf,Tryz.f61,hlt,hw,hm,c1,c2,c3,c4,c5,c6,e1,e2,k1,k2,pl_ff]
     ·rw [e4] at k2
      cases e5:noneP fun j=>inF t[i].r j&&g j
      ·rw [e5] at k3
       simp [-shapeT,lp,loopsOf,Tryz.f61,hlt,hw,hm,c1,c2,c3,c4,c5,c6,c7,e1,e2,k1,k2,k3,pl_ff]
      ·rw [e5] at k3
       simp [-shapeT,lp,loopsOf,Tryz.f61,hlt,hw,hm,c1,c2,c3,c4,c5,c6,c7,c8,c9,c10,e1,e2,k1,k2,k3,pl_ff]
       simpa using ih
theorem ev_impl_LockOk (m:M) (hm:m.isOwn=false) (t:List HoldT) (hb:t.length≤4000000) (hk:∀ h∈t,holdB h):ev E 61 [.v m false [.sl (t.map holdL)]]=some (rB (lockOk t)):=by
 rw [← lockI_eq,lockOkI]
 obtain ⟨f',g',l0⟩:=lp_iLockOk m hm t hb hk _ rfl t.length 0 (fun _=>false) (fun _=>false) (by omega)
 push_cast at l0
 simp only [List.drop_zero] at l0
 rw [ev_fn Tryz.f61 rfl Tryz.func61 rfl rfl rfl (Nat.le_of_ble_eq_true rfl)]
 cases e1:eqI t.length 3
 ·simp [e1]
 ·simp [e1,pl_ff]
  rw [loopC_at ?_ l0]
  ·cases e2:lockI (fun _=>false) (fun _=>false) t<;>simp
  ·rfl
theorem lp_copied (m:M) (hm:m.isOwn=false) (t:List HoldT) (hb:t.length≤4000000) (hk:∀ h∈t,holdB h) (a:Code) (ha:a=lp Tryz.f138 0):∀ (n i:Nat) (out:List HoldT),i+n=t.length→out.length=i →
  loopC E (ev E) 138 a { V:=[(3,at1 3),(7,.v m false [.sl (t.map holdL)]),(8,vi t.length),(9,vi i)],H:=[ow (.c 3) [.sl (out.map holdL)]],ps:=[] } =
   some (.exit 0,{ V:=[(3,at1 3),(7,.v m false [.sl (t.map holdL)]),(8,vi t.length),(9,vi t.length),(10,vb false)],H:=[ow (.c 3) [.sl ((out++t.drop i).map holdL)]],ps:=[] })
 | 0,i,out,h,ho=>by
  rw [loopC_of _ _ _ _ ha]
  obtain rfl:i=t.length:=by omega
  simp [lp,loopsOf,Tryz.f138]
 | n+1,i,out,h,ho=>by
  have hlt:i<t.length:=by omega
  have hw:=wrapN i (by omega)
  have ih:=lp_copied m hm t hb hk a ha n (i+1) (out++[t[i]]) (by omega) (by simp;omega)
  push_cast at ih
  have hB:=hk _ (List.getElem_mem hlt)
  have c1:=fun m=>ev_Clone m t[i].r hB.1
  have c2:=fun m=>ev_Clone m t[i].w hB.2
  have h1:(out.length+1)*48≤17592186044416:=by omega
  have h2:out.length+1≤17592186044416:=by omega
  rw [loopC_of _ _ _ _ ha,List.drop_eq_getElem_cons hlt]
  clear ha
  simp [lp,loopsOf,Tryz.f138,hlt,hw,hm,c1,c2,h1,h2]
  simpa using ih
theorem ev_copied (m:M) (hm:m.isOwn=false) (t:List HoldT) (hb:t.length≤4000000) (hk:∀ h∈t,holdB h):ev E 138 [.v m false [.sl (t.map holdL)]]=some { rs:=[.v .own false [.sl (t.map holdL)]],outs:=[] }:=by
 have l0:=lp_copied m hm t hb hk _ rfl t.length 0 [] (by omega) rfl
 push_cast at l0
 simp only [List.drop_zero,List.nil_append,List.map_nil] at l0
 rw [ev_fn Tryz.f138 rfl Tryz.func138 rfl rfl rfl (Nat.le_of_ble_eq_true rfl)]
 simp
 rw [loopC_at ?_ l0]
 ·simp
 ·rfl
theorem LockP.bd {t:List HoldT} (h:LockP t):∀ x∈t,holdB x:=by
 have h3:=h.len
 intro x hx
 obtain ⟨i,hi,rfl⟩:=List.mem_iff_getElem.1 hx
 have h1:=spsOk_len (h.r i (by omega))
 have h2:=spsOk_len (h.w i (by omega))
 rw [getD_lt _ hi] at h1 h2
 exact ⟨by omega,by omega⟩
def mayP (h:HoldT) (write:Bool):Nat→Bool:=if write=true then inF h.w else orP (inF h.w) (inF h.r)
theorem mayP_eq {h:HoldT} {write:Bool} {s:Sp} (hs:spOk s=true):eqP (fun j=>mayP h write j&&inF [s] j) (inF [s])=lockMay h write s:=by
 rw [Bool.eq_iff_iff,eqP_iff,lockMay_iff (spOk_iff.1 hs)]
 have hsp:=spOk_iff.1 hs
 simp only [one_in]
 have hp:∀ j,mayP h write j=mayAt h write j:=fun j=>by
  unfold mayP mayAt
  cases write
  ·simp [orP_eq]
  ·simp
 constructor
 ·intro g j hj
  have:=g j (by rw [inSp_iff] at hj;omega)
  rw [hj,Bool.and_true,hp] at this
  exact this
 ·intro g j hj
  cases e:inSp j s
  ·simp
  ·rw [hp,g j e];rfl
theorem ev_impl_LockMay (m m1 m2 m3:M) (hm:m.isOwn=false) (t:List HoldT) (hb:t.length≤4000000) (hk:∀ h∈t,holdB h) (who:Int) (write:Bool) (s:Sp) :
  ev E 144 [.v m false [.sl (t.map holdL)],.v m1 false [.int .i64 who],.v m2 false [.bool write],.v m3 true (spL s)]=some (rB (lockOk t&&(whoOk who&&(spOk s&&lockMay (t.getD who.toNat noH) write s)))):=by
 have c1:=fun m hm=>ev_impl_LockOk m hm t hb hk
 have c2:=fun m=>ev_impl_client m who
 have c3:=fun m=>ev_impl_SpanOk m s
 cases e1:lockOk t
 ·rw [ev_fn Tryz.f144 rfl Tryz.func144 rfl rfl rfl (Nat.le_of_ble_eq_true rfl)]
  simp [c1,e1,hm]
 ·cases e2:whoOk who
  ·rw [ev_fn Tryz.f144 rfl Tryz.func144 rfl rfl rfl (Nat.le_of_ble_eq_true rfl)]
   simp [c1,c2,e1,e2,hm]
  ·cases e3:spOk s
   ·rw [ev_fn Tryz.f144 rfl Tryz.func144 rfl rfl rfl (Nat.le_of_ble_eq_true rfl)]
    simp [c1,c2,c3,e1,e2,e3,hm]
   ·have P:=lockOk_iff.1 e1
    have hwho:=e2
    simp only [whoOk,Bool.and_eq_true,Bool.not_eq_true',ltI_not,ltI_iff] at hwho
    obtain ⟨i,rfl⟩:∃ i:Nat,who=i:=⟨who.toNat,by omega⟩
    have hi:i<3:=by omega
    have hlt:i<t.length:=by have:=P.len;omega
    rw [Int.toNat_natCast]
    have hr:=P.r i hi
    have hwr:=P.w i hi
    rw [getD_lt _ hlt] at hr hwr ⊢
    rw [← mayP_eq e3]
    have c4:=fun m=>of_sps m hr
    have c5:=fun m=>of_sps m hwr
    have c6:=fun m=>of_one m e3
    have c7:=fun m m' m''=>put_or m m' m'' (inF t[i].w) (inF t[i].r)
    have c8:=fun m m'=>ev_meet m m' (mayP t[i] write) (inF [s])
    have k1:=cellsEq_pl (fun j=>mayP t[i] write j&&inF [s] j) (inF [s])
    rw [ev_fn Tryz.f144 rfl Tryz.func144 rfl rfl rfl (Nat.le_of_ble_eq_true rfl)]
    cases write
    ·simp only [mayP,Bool.false_eq_true,if_false] at c8 k1 ⊢
     simp [-shapeT,c1,c2,c3,c4,c5,c6,c7,c8,e1,e2,e3,hm,hlt,k1,pl_ff]
    ·simp only [mayP,if_true] at c8 k1 ⊢
     simp [-shapeT,c1,c2,c3,c4,c5,c6,c7,c8,e1,e2,e3,hm,hlt,k1,pl_ff]
end Go.Ev

