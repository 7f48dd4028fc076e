/- My texts joined: EvT50, EvT51. No condition. -/
import Derived.Test.YtngbcdcghbapnaaGreatDoorEn18
set_option linter.unusedVariables false
set_option linter.unusedSimpArgs false

set_option maxRecDepth 100000
set_option maxHeartbeats 4000000
namespace Go.Ev
open Go.Proofs
theorem set_next {α:Type} (xs:List α) (f:α→List L) (z:List L) {i:Nat} (n:Nat) (h:i<xs.length):((xs.take i).map f++List.replicate (n+1) z).set i (f xs[i])=(xs.take (i+1)).map f++List.replicate n z:=by
 have hl:((xs.take i).map f).length=i:=by rw [List.length_map,List.length_take];omega
 rw [List.set_append_right _ _ (by omega),hl,Nat.sub_self,List.replicate_succ,List.set_cons_zero,List.take_succ_eq_append_getElem h,List.map_append,List.append_assoc]
 rfl
theorem get_next {α:Type} (xs:List α) (f:α→List L) (z:List L) {i:Nat} (n:Nat) (h:i<xs.length) (h':i<((xs.take i).map f++List.replicate (n+1) z).length):((xs.take i).map f++List.replicate (n+1) z)[i]=z:=by
 have hl:((xs.take i).map f).length=i:=by rw [List.length_map,List.length_take];omega
 rw [List.getElem_append_right (by omega)]
 simp
theorem lp_laws_toIntS (m:M) (xs:List (Int)) (hb:xs.length≤4000000) (a:Code) (ha:a=lp Tryz.f110 0):∀ (n i:Nat),i+n=xs.length →
  loopC E (ev E) 110 a { V:=[(0,.v m false [.sl (xs.map (fun n:Int=>[L.int .i64 n]))]),(3,at1 3),(4,vi i)],H:=[ow (.c 3) [.sl ((xs.take i).map (fun n:Int=>[L.int .i64 n])++List.replicate n [L.int .i64 0])]],ps:=[] } =
   some (.exit 0,{ V:=[(0,.v m false [.sl (xs.map (fun n:Int=>[L.int .i64 n]))]),(3,at1 3),(4,vi xs.length),(11,vb false)],H:=[ow (.c 3) [.sl (xs.map (fun n:Int=>[L.int .i64 n]))]],ps:=[] })
 | 0,i,h0=>by
  rw [loopC_of _ _ _ _ ha]
  obtain rfl:i=xs.length:=by omega
  simp [lp,loopsOf,Tryz.f110]
 | n+1,i,h0=>by
  have hlt:i<xs.length:=by omega
  have hw:=wrapN i (by omega)
  have hs:=set_next xs (fun n:Int=>[L.int .i64 n]) [L.int .i64 0] n hlt
  have hl:((xs.take i).map (fun n:Int=>[L.int .i64 n])++List.replicate (n+1) [L.int .i64 0]).length=xs.length:=by simp;omega
  have hy:=get_next xs (fun n:Int=>[L.int .i64 n]) [L.int .i64 0] n hlt
  have ih:=lp_laws_toIntS m xs hb a ha n (i+1) (by omega)
  push_cast at ih
  rw [loopC_of _ _ _ _ ha]
  clear ha
  generalize (xs.take i).map (fun n:Int=>[L.int .i64 n])++List.replicate (n+1) [L.int .i64 0]=ys at *
  have hl2:i<ys.length:=by omega
  simp [lp,loopsOf,Tryz.f110,hlt,hw,hl2,hs,hy]
  simpa using ih
theorem ev_laws_toIntS (m:M) (xs:List (Int)) (hb:xs.length≤4000000):ev E 110 [.v m false [.sl (xs.map (fun n:Int=>[L.int .i64 n]))]]=some { rs:=[.v .own false [.sl (xs.map (fun n:Int=>[L.int .i64 n]))]],outs:=[] }:=by
 have hl:=lp_laws_toIntS m xs hb _ rfl xs.length 0 (by omega)
 have q1:(xs.length:Int)≤17592186044416:=by omega
 have q2:(xs.length:Int)*8≤17592186044416:=by omega
 have q3:(xs.length:Int)*16≤17592186044416:=by omega
 push_cast at hl
 rw [ev_fn Tryz.f110 rfl Tryz.func110 rfl rfl rfl (Nat.le_of_ble_eq_true rfl)]
 simp [q1,q2,q3]
 rw [loopC_at ?_ (by simpa using hl)]
 ·simp
 ·rfl
theorem lp_laws_toBoolS (m:M) (xs:List (Bool)) (hb:xs.length≤4000000) (a:Code) (ha:a=lp Tryz.f111 0):∀ (n i:Nat),i+n=xs.length →
  loopC E (ev E) 111 a { V:=[(0,.v m false [.sl (xs.map (fun b:Bool=>[L.bool b]))]),(3,at1 3),(4,vi i)],H:=[ow (.c 3) [.sl ((xs.take i).map (fun b:Bool=>[L.bool b])++List.replicate n [L.bool false])]],ps:=[] } =
   some (.exit 0,{ V:=[(0,.v m false [.sl (xs.map (fun b:Bool=>[L.bool b]))]),(3,at1 3),(4,vi xs.length),(11,vb false)],H:=[ow (.c 3) [.sl (xs.map (fun b:Bool=>[L.bool b]))]],ps:=[] })
 | 0,i,h0=>by
  rw [loopC_of _ _ _ _ ha]
  obtain rfl:i=xs.length:=by omega
  simp [lp,loopsOf,Tryz.f111]
 | n+1,i,h0=>by
  have hlt:i<xs.length:=by omega
  have hw:=wrapN i (by omega)
  have hs:=set_next xs (fun b:Bool=>[L.bool b]) [L.bool false] n hlt
  have hl:((xs.take i).map (fun b:Bool=>[L.bool b])++List.replicate (n+1) [L.bool false]).length=xs.length:=by simp;omega
  have hy:=get_next xs (fun b:Bool=>[L.bool b]) [L.bool false] n hlt
  have ih:=lp_laws_toBoolS m xs hb a ha n (i+1) (by omega)
  push_cast at ih
  rw [loopC_of _ _ _ _ ha]
  clear ha
  generalize (xs.take i).map (fun b:Bool=>[L.bool b])++List.replicate (n+1) [L.bool false]=ys at *
  have hl2:i<ys.length:=by omega
  simp [lp,loopsOf,Tryz.f111,hlt,hw,hl2,hs,hy]
  simpa using ih
theorem ev_laws_toBoolS (m:M) (xs:List (Bool)) (hb:xs.length≤4000000):ev E 111 [.v m false [.sl (xs.map (fun b:Bool=>[L.bool b]))]]=some { rs:=[.v .own false [.sl (xs.map (fun b:Bool=>[L.bool b]))]],outs:=[] }:=by
 have hl:=lp_laws_toBoolS m xs hb _ rfl xs.length 0 (by omega)
 have q1:(xs.length:Int)≤17592186044416:=by omega
 have q2:(xs.length:Int)*8≤17592186044416:=by omega
 have q3:(xs.length:Int)*16≤17592186044416:=by omega
 push_cast at hl
 rw [ev_fn Tryz.f111 rfl Tryz.func111 rfl rfl rfl (Nat.le_of_ble_eq_true rfl)]
 simp [q1,q2,q3]
 rw [loopC_at ?_ (by simpa using hl)]
 ·simp
 ·rfl
theorem lp_laws_toStringS (m:M) (xs:List (List UInt8)) (hb:xs.length≤4000000) (a:Code) (ha:a=lp Tryz.f180 0):∀ (n i:Nat),i+n=xs.length →
  loopC E (ev E) 180 a { V:=[(0,.v m false [.sl (xs.map (fun s:List UInt8=>[L.str s]))]),(3,at1 3),(4,vi i)],H:=[ow (.c 3) [.sl ((xs.take i).map (fun s:List UInt8=>[L.str s])++List.replicate n [L.str []])]],ps:=[] } =
   some (.exit 0,{ V:=[(0,.v m false [.sl (xs.map (fun s:List UInt8=>[L.str s]))]),(3,at1 3),(4,vi xs.length),(11,vb false)],H:=[ow (.c 3) [.sl (xs.map (fun s:List UInt8=>[L.str s]))]],ps:=[] })
 | 0,i,h0=>by
  rw [loopC_of _ _ _ _ ha]
  obtain rfl:i=xs.length:=by omega
  simp [lp,loopsOf,Tryz.f180]
 | n+1,i,h0=>by
  have hlt:i<xs.length:=by omega
  have hw:=wrapN i (by omega)
  have hs:=set_next xs (fun s:List UInt8=>[L.str s]) [L.str []] n hlt
  have hl:((xs.take i).map (fun s:List UInt8=>[L.str s])++List.replicate (n+1) [L.str []]).length=xs.length:=by simp;omega
  have hy:=get_next xs (fun s:List UInt8=>[L.str s]) [L.str []] n hlt
  have ih:=lp_laws_toStringS m xs hb a ha n (i+1) (by omega)
  push_cast at ih
  rw [loopC_of _ _ _ _ ha]
  clear ha
  generalize (xs.take i).map (fun s:List UInt8=>[L.str s])++List.replicate (n+1) [L.str []]=ys at *
  have hl2:i<ys.length:=by omega
  simp [lp,loopsOf,Tryz.f180,hlt,hw,hl2,hs,hy]
  simpa using ih
theorem ev_laws_toStringS (m:M) (xs:List (List UInt8)) (hb:xs.length≤4000000):ev E 180 [.v m false [.sl (xs.map (fun s:List UInt8=>[L.str s]))]]=some { rs:=[.v .own false [.sl (xs.map (fun s:List UInt8=>[L.str s]))]],outs:=[] }:=by
 have hl:=lp_laws_toStringS m xs hb _ rfl xs.length 0 (by omega)
 have q1:(xs.length:Int)≤17592186044416:=by omega
 have q2:(xs.length:Int)*8≤17592186044416:=by omega
 have q3:(xs.length:Int)*16≤17592186044416:=by omega
 push_cast at hl
 rw [ev_fn Tryz.f180 rfl Tryz.func180 rfl rfl rfl (Nat.le_of_ble_eq_true rfl)]
 simp [q1,q2,q3]
 rw [loopC_at ?_ (by simpa using hl)]
 ·simp
 ·rfl
set_option maxRecDepth 100000
set_option maxHeartbeats 4000000
theorem ev_toSpan (m:M) (q:Sp):ev E 261 [.v m true (spL q)]=some { rs:=[.v .own true (spL q)],outs:=[] }:=by
 rw [ev_fn Tryz.f261 rfl Tryz.func261 rfl rfl rfl (Nat.le_of_ble_eq_true rfl)]
 simp
theorem ev_toLay (m:M) (a b:Int):ev E 106 [.v m true [.int .i64 a,.int .i64 b]]=some { rs:=[.v .own true [.int .i64 a,.int .i64 b]],outs:=[] }:=by
 rw [ev_fn Tryz.f106 rfl Tryz.func106 rfl rfl rfl (Nat.le_of_ble_eq_true rfl)]
 simp
theorem ev_toReq1 (m:M) (q:ReqT):ev E 183 [.v m true (reqL q)]=some { rs:=[.v .own true (reqL q)],outs:=[] }:=by
 rw [ev_fn Tryz.f183 rfl Tryz.func183 rfl rfl rfl (Nat.le_of_ble_eq_true rfl)]
 simp
def TakenBy (E:Env) (f:FuncId) {α:Type} (enc:α→List L) (ok:α→Prop):Prop:=∀ m x,m.isOwn=false→ok x→ev E f [.v m true (enc x)]=some { rs:=[.v .own true (enc x)],outs:=[] }
theorem lp_laws_toSpanS (ok:Sp→Prop) (hc:TakenBy E 261 spL ok) (m:M) (hm:m.isOwn=false) (xs:List (Sp)) (hb:xs.length≤4000000) (hk:∀ x∈xs,ok x) (a:Code) (ha:a=lp Tryz.f232 0):∀ (n i:Nat),i+n=xs.length →
  loopC E (ev E) 232 a { V:=[(0,.v m false [.sl (xs.map spL)]),(3,at1 3),(4,vi i)],H:=[ow (.c 3) [.sl ((xs.take i).map spL++List.replicate n [L.int .i64 0,L.int .i64 0])]],ps:=[] } =
   some (.exit 0,{ V:=[(0,.v m false [.sl (xs.map spL)]),(3,at1 3),(4,vi xs.length),(11,vb false)],H:=[ow (.c 3) [.sl (xs.map spL)]],ps:=[] })
 | 0,i,h0=>by
  rw [loopC_of _ _ _ _ ha]
  obtain rfl:i=xs.length:=by omega
  simp [lp,loopsOf,Tryz.f232]
 | n+1,i,h0=>by
  have hlt:i<xs.length:=by omega
  have hw:=wrapN i (by omega)
  have hs:=set_next xs spL [L.int .i64 0,L.int .i64 0] n hlt
  have hl:((xs.take i).map spL++List.replicate (n+1) [L.int .i64 0,L.int .i64 0]).length=xs.length:=by simp;omega
  have hy:=get_next xs spL [L.int .i64 0,L.int .i64 0] n hlt
  have c:=fun m hm=>hc m xs[i] hm (hk _ (List.getElem_mem hlt))
  have ih:=lp_laws_toSpanS ok hc m hm xs hb hk a ha n (i+1) (by omega)
  push_cast at ih
  rw [loopC_of _ _ _ _ ha]
  clear ha
  generalize (xs.take i).map spL++List.replicate (n+1) [L.int .i64 0,L.int .i64 0]=ys at *
  have hl2:i<ys.length:=by omega
  simp [lp,loopsOf,Tryz.f232,hlt,hw,hl2,hs,hy,c,hm]
  simpa using ih
theorem ev_laws_toSpanS (ok:Sp→Prop) (hc:TakenBy E 261 spL ok) (m:M) (hm:m.isOwn=false) (xs:List (Sp)) (hb:xs.length≤4000000) (hk:∀ x∈xs,ok x):ev E 232 [.v m false [.sl (xs.map spL)]]=some { rs:=[.v .own false [.sl (xs.map spL)]],outs:=[] }:=by
 have hl:=lp_laws_toSpanS ok hc m hm xs hb hk _ rfl xs.length 0 (by omega)
 have q1:(xs.length:Int)≤17592186044416:=by omega
 have q2:(xs.length:Int)*8≤17592186044416:=by omega
 have q3:(xs.length:Int)*16≤17592186044416:=by omega
 have q4:(xs.length:Int)*48≤17592186044416:=by omega
 have q5:(xs.length:Int)*56≤17592186044416:=by omega
 have q6:(xs.length:Int)*64≤17592186044416:=by omega
 push_cast at hl
 rw [ev_fn Tryz.f232 rfl Tryz.func232 rfl rfl rfl (Nat.le_of_ble_eq_true rfl)]
 simp [q1,q2,q3,q4,q5,q6]
 rw [loopC_at ?_ (by simpa using hl)]
 ·simp
 ·rfl
theorem lp_laws_toReqS (ok:ReqT→Prop) (hc:TakenBy E 183 reqL ok) (m:M) (hm:m.isOwn=false) (xs:List (ReqT)) (hb:xs.length≤4000000) (hk:∀ x∈xs,ok x) (a:Code) (ha:a=lp Tryz.f112 0):∀ (n i:Nat),i+n=xs.length →
  loopC E (ev E) 112 a { V:=[(0,.v m false [.sl (xs.map reqL)]),(3,at1 3),(4,vi i)],H:=[ow (.c 3) [.sl ((xs.take i).map reqL++List.replicate n [L.int .i64 0,L.int .i64 0,L.int .i64 0,L.int .i64 0,L.int .i64 0,L.str []])]],ps:=[] } =
   some (.exit 0,{ V:=[(0,.v m false [.sl (xs.map reqL)]),(3,at1 3),(4,vi xs.length),(11,vb false)],H:=[ow (.c 3) [.sl (xs.map reqL)]],ps:=[] })
 | 0,i,h0=>by
  rw [loopC_of _ _ _ _ ha]
  obtain rfl:i=xs.length:=by omega
  simp [lp,loopsOf,Tryz.f112]
 | n+1,i,h0=>by
  have hlt:i<xs.length:=by omega
  have hw:=wrapN i (by omega)
  have hs:=set_next xs reqL [L.int .i64 0,L.int .i64 0,L.int .i64 0,L.int .i64 0,L.int .i64 0,L.str []] n hlt
  have hl:((xs.take i).map reqL++List.replicate (n+1) [L.int .i64 0,L.int .i64 0,L.int .i64 0,L.int .i64 0,L.int .i64 0,L.str []]).length=xs.length:=by simp;omega
  have hy:=get_next xs reqL [L.int .i64 0,L.int .i64 0,L.int .i64 0,L.int .i64 0,L.int .i64 0,L.str []] n hlt
  have c:=fun m hm=>hc m xs[i] hm (hk _ (List.getElem_mem hlt))
  have ih:=lp_laws_toReqS ok hc m hm xs hb hk a ha n (i+1) (by omega)
  push_cast at ih
  rw [loopC_of _ _ _ _ ha]
  clear ha
  generalize (xs.take i).map reqL++List.replicate (n+1) [L.int .i64 0,L.int .i64 0,L.int .i64 0,L.int .i64 0,L.int .i64 0,L.str []]=ys at *
  have hl2:i<ys.length:=by omega
  simp [lp,loopsOf,Tryz.f112,hlt,hw,hl2,hs,hy,c,hm]
  simpa using ih
theorem ev_laws_toReqS (ok:ReqT→Prop) (hc:TakenBy E 183 reqL ok) (m:M) (hm:m.isOwn=false) (xs:List (ReqT)) (hb:xs.length≤4000000) (hk:∀ x∈xs,ok x):ev E 112 [.v m false [.sl (xs.map reqL)]]=some { rs:=[.v .own false [.sl (xs.map reqL)]],outs:=[] }:=by
 have hl:=lp_laws_toReqS ok hc m hm xs hb hk _ rfl xs.length 0 (by omega)
 have q1:(xs.length:Int)≤17592186044416:=by omega
 have q2:(xs.length:Int)*8≤17592186044416:=by omega
 have q3:(xs.length:Int)*16≤17592186044416:=by omega
 have q4:(xs.length:Int)*48≤17592186044416:=by omega
 have q5:(xs.length:Int)*56≤17592186044416:=by omega
 have q6:(xs.length:Int)*64≤17592186044416:=by omega
 push_cast at hl
 rw [ev_fn Tryz.f112 rfl Tryz.func112 rfl rfl rfl (Nat.le_of_ble_eq_true rfl)]
 simp [q1,q2,q3,q4,q5,q6]
 rw [loopC_at ?_ (by simpa using hl)]
 ·simp
 ·rfl
theorem lp_laws_toHoldS (ok:HoldT→Prop) (hc:TakenBy E 181 holdL ok) (m:M) (hm:m.isOwn=false) (xs:List (HoldT)) (hb:xs.length≤4000000) (hk:∀ x∈xs,ok x) (a:Code) (ha:a=lp Tryz.f108 0):∀ (n i:Nat),i+n=xs.length →
  loopC E (ev E) 108 a { V:=[(0,.v m false [.sl (xs.map holdL)]),(3,at1 3),(4,vi i)],H:=[ow (.c 3) [.sl ((xs.take i).map holdL++List.replicate n [L.sl [],L.sl []])]],ps:=[] } =
   some (.exit 0,{ V:=[(0,.v m false [.sl (xs.map holdL)]),(3,at1 3),(4,vi xs.length),(11,vb false)],H:=[ow (.c 3) [.sl (xs.map holdL)]],ps:=[] })
 | 0,i,h0=>by
  rw [loopC_of _ _ _ _ ha]
  obtain rfl:i=xs.length:=by omega
  simp [lp,loopsOf,Tryz.f108]
 | n+1,i,h0=>by
  have hlt:i<xs.length:=by omega
  have hw:=wrapN i (by omega)
  have hs:=set_next xs holdL [L.sl [],L.sl []] n hlt
  have hl:((xs.take i).map holdL++List.replicate (n+1) [L.sl [],L.sl []]).length=xs.length:=by simp;omega
  have hy:=get_next xs holdL [L.sl [],L.sl []] n hlt
  have c:=fun m hm=>hc m xs[i] hm (hk _ (List.getElem_mem hlt))
  have ih:=lp_laws_toHoldS ok hc m hm xs hb hk a ha n (i+1) (by omega)
  push_cast at ih
  rw [loopC_of _ _ _ _ ha]
  clear ha
  generalize (xs.take i).map holdL++List.replicate (n+1) [L.sl [],L.sl []]=ys at *
  have hl2:i<ys.length:=by omega
  simp [lp,loopsOf,Tryz.f108,hlt,hw,hl2,hs,hy,c,hm]
  simpa using ih
theorem ev_laws_toHoldS (ok:HoldT→Prop) (hc:TakenBy E 181 holdL ok) (m:M) (hm:m.isOwn=false) (xs:List (HoldT)) (hb:xs.length≤4000000) (hk:∀ x∈xs,ok x):ev E 108 [.v m false [.sl (xs.map holdL)]]=some { rs:=[.v .own false [.sl (xs.map holdL)]],outs:=[] }:=by
 have hl:=lp_laws_toHoldS ok hc m hm xs hb hk _ rfl xs.length 0 (by omega)
 have q1:(xs.length:Int)≤17592186044416:=by omega
 have q2:(xs.length:Int)*8≤17592186044416:=by omega
 have q3:(xs.length:Int)*16≤17592186044416:=by omega
 have q4:(xs.length:Int)*48≤17592186044416:=by omega
 have q5:(xs.length:Int)*56≤17592186044416:=by omega
 have q6:(xs.length:Int)*64≤17592186044416:=by omega
 push_cast at hl
 rw [ev_fn Tryz.f108 rfl Tryz.func108 rfl rfl rfl (Nat.le_of_ble_eq_true rfl)]
 simp [q1,q2,q3,q4,q5,q6]
 rw [loopC_at ?_ (by simpa using hl)]
 ·simp
 ·rfl
theorem lp_laws_toOwnS (ok:OwnT→Prop) (hc:TakenBy E 182 ownL ok) (m:M) (hm:m.isOwn=false) (xs:List (OwnT)) (hb:xs.length≤4000000) (hk:∀ x∈xs,ok x) (a:Code) (ha:a=lp Tryz.f109 0):∀ (n i:Nat),i+n=xs.length →
  loopC E (ev E) 109 a { V:=[(0,.v m false [.sl (xs.map ownL)]),(3,at1 3),(4,vi i)],H:=[ow (.c 3) [.sl ((xs.take i).map ownL++List.replicate n [L.str [],L.sl [],L.sl []])]],ps:=[] } =
   some (.exit 0,{ V:=[(0,.v m false [.sl (xs.map ownL)]),(3,at1 3),(4,vi xs.length),(11,vb false)],H:=[ow (.c 3) [.sl (xs.map ownL)]],ps:=[] })
 | 0,i,h0=>by
  rw [loopC_of _ _ _ _ ha]
  obtain rfl:i=xs.length:=by omega
  simp [lp,loopsOf,Tryz.f109]
 | n+1,i,h0=>by
  have hlt:i<xs.length:=by omega
  have hw:=wrapN i (by omega)
  have hs:=set_next xs ownL [L.str [],L.sl [],L.sl []] n hlt
  have hl:((xs.take i).map ownL++List.replicate (n+1) [L.str [],L.sl [],L.sl []]).length=xs.length:=by simp;omega
  have hy:=get_next xs ownL [L.str [],L.sl [],L.sl []] n hlt
  have c:=fun m hm=>hc m xs[i] hm (hk _ (List.getElem_mem hlt))
  have ih:=lp_laws_toOwnS ok hc m hm xs hb hk a ha n (i+1) (by omega)
  push_cast at ih
  rw [loopC_of _ _ _ _ ha]
  clear ha
  generalize (xs.take i).map ownL++List.replicate (n+1) [L.str [],L.sl [],L.sl []]=ys at *
  have hl2:i<ys.length:=by omega
  simp [lp,loopsOf,Tryz.f109,hlt,hw,hl2,hs,hy,c,hm]
  simpa using ih
theorem ev_laws_toOwnS (ok:OwnT→Prop) (hc:TakenBy E 182 ownL ok) (m:M) (hm:m.isOwn=false) (xs:List (OwnT)) (hb:xs.length≤4000000) (hk:∀ x∈xs,ok x):ev E 109 [.v m false [.sl (xs.map ownL)]]=some { rs:=[.v .own false [.sl (xs.map ownL)]],outs:=[] }:=by
 have hl:=lp_laws_toOwnS ok hc m hm xs hb hk _ rfl xs.length 0 (by omega)
 have q1:(xs.length:Int)≤17592186044416:=by omega
 have q2:(xs.length:Int)*8≤17592186044416:=by omega
 have q3:(xs.length:Int)*16≤17592186044416:=by omega
 have q4:(xs.length:Int)*48≤17592186044416:=by omega
 have q5:(xs.length:Int)*56≤17592186044416:=by omega
 have q6:(xs.length:Int)*64≤17592186044416:=by omega
 push_cast at hl
 rw [ev_fn Tryz.f109 rfl Tryz.func109 rfl rfl rfl (Nat.le_of_ble_eq_true rfl)]
 simp [q1,q2,q3,q4,q5,q6]
 rw [loopC_at ?_ (by simpa using hl)]
 ·simp
 ·rfl
theorem tk_Span:TakenBy E 261 spL (fun _=>True):=fun m x _ _=>ev_toSpan m x
theorem tk_Req:TakenBy E 183 reqL (fun _=>True):=fun m x _ _=>ev_toReq1 m x
theorem ev_toSpans (m:M) (hm:m.isOwn=false) (xs:List Sp) (hb:xs.length≤4000000):ev E 232 [.v m false [.sl (xs.map spL)]]=some { rs:=[.v .own false [.sl (xs.map spL)]],outs:=[] }:=ev_laws_toSpanS _ tk_Span m hm xs hb fun _ _=>trivial
theorem ev_toReqs (m:M) (hm:m.isOwn=false) (xs:List ReqT) (hb:xs.length≤4000000):ev E 112 [.v m false [.sl (xs.map reqL)]]=some { rs:=[.v .own false [.sl (xs.map reqL)]],outs:=[] }:=ev_laws_toReqS _ tk_Req m hm xs hb fun _ _=>trivial
theorem tk_Hold:TakenBy E 181 holdL holdB:=fun m h hm hb=>by
 have c1:=fun m hm=>ev_toSpans m hm h.r hb.1
 have c2:=fun m hm=>ev_toSpans m hm h.w hb.2
 rw [ev_fn Tryz.f181 rfl Tryz.func181 rfl rfl rfl (Nat.le_of_ble_eq_true rfl)]
 simp [c1,c2,hm]
theorem tk_Own:TakenBy E 182 ownL ownB:=fun m o hm hb=>by
 have c1:=fun m hm=>ev_toSpans m hm o.h hb.1
 have c2:=fun m hm=>ev_toSpans m hm o.d hb.2
 rw [ev_fn Tryz.f182 rfl Tryz.func182 rfl rfl rfl (Nat.le_of_ble_eq_true rfl)]
 simp [c1,c2,hm]
end Go.Ev

