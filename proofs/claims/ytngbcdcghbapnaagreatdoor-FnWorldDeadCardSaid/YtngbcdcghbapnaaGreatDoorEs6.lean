/- My texts joined: EvT89, EvT91, EvT98, EvR1. No condition. -/
import Derived.Test.YtngbcdcghbapnaaGreatDoorEn34
import Derived.Test.YtngbcdcghbapnaaGreatDoorEs2
import Derived.Test.YtngbcdcghbapnaaGreatDoorEs3
import Derived.Test.YtngbcdcghbapnaaGreatDoorEs5
set_option linter.unusedVariables false
set_option linter.unusedSimpArgs false

set_option maxRecDepth 100000
set_option maxHeartbeats 40000000
namespace Go.Ev
open Go.Proofs
theorem ev_l3Lay (bs:Bs) (p:Nat) (b:RdB bs p) (hp:p+2≤1099511627776):∃ size many:Int,layOk size many=true∧ev E 127 [rdA bs p]=some { rs:=[.v .own true (layL size many)],outs:=[rdO bs (p+1+1)] }:=by
 obtain ⟨v,hv,c1⟩:=ev_num .tn bs p [1,2,3,4,5,8] b (by simp) (by simp)
 obtain ⟨k,hk,c2⟩:=ev_pick .ro bs (p+1) 3 ⟨b.b,by omega⟩ (by omega)
 have hk:=hk (by omega)
 have hw:IntKind.i64.wrap (1+(k:Int))=1+(k:Int):=wrap64 (by omega)
 refine ⟨v,1+k,layOk_iff.2 ?_,?_⟩
 ·simp only [List.mem_cons,List.not_mem_nil,or_false] at hv
  omega
 ·simp at c1
  rw [ev_fn Tryz.f127 rfl Tryz.func127 rfl rfl rfl (Nat.le_of_ble_eq_true rfl)]
  simp [c1,c2,hw]
set_option maxRecDepth 100000
set_option maxHeartbeats 8000000
theorem noW_wb:WorldB noW:=by
 refine ⟨⟨?_,?_,?_,?_,?_⟩,?_,?_,?_,?_,?_,?_,?_,?_⟩<;>simp [noW,noS]
def WOk (w:WorldT):Prop:=WorldP w∨w=noW
theorem WOk.wb {w:WorldT} (h:WOk w):WorldB w:=by
 rcases h with h | rfl
 ·exact h.wb
 ·exact noW_wb
theorem lp_l7Evs (bs:Bs) (hb:bs.length≤2000) (mn:M) (N:Nat) (hN:N≤1000) (a:Code) (ha:a=lp Tryz.f120 0):∀ (n i p:Nat) (m:M) (w:WorldT) (es:List EvT),i+n=N→OwRo m→WOk w→es.length=i→(∀ e∈es,e.data.length≤300)→p+300*n+1000≤1099511627776 →
  ∃ (m':M) (p':Nat) (w':WorldT) (fs:List EvT),fs.length=N∧(∀ e∈fs,e.data.length≤300)∧p'≤p+300*n∧loopC E (ev E) 120 a { V:=[(0,adp 0),(2,.v mn false [.int .i64 N]),(7,at1 7),(8,adc 8),(9,vi i)],H:=[rdH bs p,ow (.c 7) [.sl (es.map evL)],bxm (.c 8) m (worldL w)],ps:=[0] } =
   some (.exit 0,{ V:=[(0,adp 0),(2,.v mn false [.int .i64 N]),(7,at1 7),(8,adc 8),(9,vi N),(16,vb false)],H:=[rdH bs p',ow (.c 7) [.sl (fs.map evL)],bxm (.c 8) m' (worldL w')],ps:=[0] })
 | 0,i,p,m,w,es,h,hm,hw,he,hd,hp=>by
  refine ⟨m,p,w,es,by omega,hd,by omega,?_⟩
  rw [loopC_of _ _ _ _ ha]
  obtain rfl:i=N:=by omega
  rcases hm with rfl | rfl | rfl<;>simp [lp,loopsOf,Tryz.f120]
 | n+1,i,p,m,w,es,h,hm,hw,he,hd,hp=>by
  have hI:(i:Int)<N:=by omega
  have hwr:=wrapN i (by omega)
  have h1:(es.length+1)*64≤17592186044416:=by omega
  have h2:es.length+1≤17592186044416:=by omega
  have B:=hw.wb
  have c3:=fun m hm=>ev_l7Copy m hm w B
  obtain ⟨mA,hmA,hx⟩:∃ mA:M,mA.isOwn=false∧((m=.own∧mA=.tn)∨(m=.ro∧mA=.ro)∨(m=.tn∧mA=.tn)):=by
   rcases hm with rfl | rfl | rfl
   ·exact ⟨.tn,rfl,.inl ⟨rfl,rfl⟩⟩
   ·exact ⟨.ro,rfl,.inr (.inl ⟨rfl,rfl⟩)⟩
   ·exact ⟨.tn,rfl,.inr (.inr ⟨rfl,rfl⟩)⟩
  obtain ⟨_,c1,e,p',hed,hp',_,rfl⟩:=ev_l7Ev mA hmA w B bs p ⟨hb,by omega⟩ (by omega)
  have hd2:∀ x∈es++[e],x.data.length≤300:=fun x hx=>by
   rcases List.mem_append.1 hx with h | h
   ·exact hd x h
   ·rw [List.mem_singleton.1 h];exact hed
  cases e1:ltI 0 (w.owns.length:Int)
  ·obtain ⟨m',p2,w',fs,q1,q2,q3,ih⟩:=lp_l7Evs bs hb mn N hN a ha n (i+1) p' m w (es++[e]) (by omega) hm hw (by simp;omega) hd2 (by omega)
   refine ⟨m',p2,w',fs,q1,q2,by omega,?_⟩
   push_cast at ih
   rw [loopC_of _ _ _ _ ha]
   clear ha
   rcases hx with ⟨rfl,rfl⟩ | ⟨rfl,rfl⟩ | ⟨rfl,rfl⟩
   all_goals
    simp [lp,loopsOf,Tryz.f120,hI,hwr,c1,h1,h2,e1]
    simpa using ih
  ·have hwp:WorldP w:=by
    rcases hw with h | h
    ·exact h
    ·rw [h] at e1;simp [noW] at e1
   obtain ⟨mz,hmz,c2⟩:=ev_l7Do w hwp e (by omega)
   obtain ⟨m',p2,w',fs,q1,q2,q3,ih⟩:=lp_l7Evs bs hb mn N hN a ha n (i+1) p' (cln mz) (doW w e).1 (es++[e]) (by omega) (cln_ok hmz) (.inl (doW_ok hwp e)) (by simp;omega) hd2 (by omega)
   refine ⟨m',p2,w',fs,q1,q2,by omega,?_⟩
   push_cast at ih
   simp only [rWS] at c2
   rw [loopC_of _ _ _ _ ha]
   clear ha
   generalize doW w e=z at *
   rcases hx with ⟨rfl,rfl⟩ | ⟨rfl,rfl⟩ | ⟨rfl,rfl⟩<;>rcases hmz with rfl | rfl | rfl
   all_goals
    simp [lp,loopsOf,Tryz.f120,hI,hwr,c1,c2,c3,h1,h2,e1]
    simpa [cln] using ih
theorem newWL_ok (size many:Int):WOk (newWL size many):=by
 unfold newWL
 cases e:layOk size many
 ·exact .inr rfl
 ·exact .inl (newW_ok e)
theorem ev_l7Evs (m mn:M) (bs:Bs) (p:Nat) (b:RdB bs p) (size many:Int) (N:Nat) (hN:N≤1000) (hp:p+300*N+1000≤1099511627776) :
  ∃ (fs:List EvT) (p':Nat),fs.length=N∧(∀ e∈fs,e.data.length≤300)∧p'≤p+300*N∧ev E 120 [rdA bs p,.v m true (layL size many),.v mn false [.int .i64 N]]=some { rs:=[.v .own false [.sl (fs.map evL)]],outs:=[rdO bs p'] }:=by
 have c1:=fun m=>ev_spec_WorldNew m size many
 simp only [rW1] at c1
 have hW:=newWL_ok size many
 generalize newWL size many=w at *
 obtain ⟨m',p',w',fs,q1,q2,q3,l0⟩:=lp_l7Evs bs b.b mn N hN _ rfl N 0 p .own w [] (by omega) (.inl rfl) hW rfl (by simp) (by omega)
 refine ⟨fs,p',q1,q2,by omega,?_⟩
 push_cast at l0
 simp only [List.map_nil] at l0
 rw [ev_fn Tryz.f120 rfl Tryz.func120 rfl rfl rfl (Nat.le_of_ble_eq_true rfl)]
 simp [c1]
 rw [loopC_at ?_ l0]
 ·simp
 ·rfl
set_option maxRecDepth 100000
set_option maxHeartbeats 8000000
theorem own_get {w:WorldT} {i:Nat} (h:i<w.owns.length):w.own i=w.owns[i]:=by simp [WorldT.own,h]
set_option maxRecDepth 100000
theorem cells_u8:Tryz.prog.cellsOf 5=1:=by kernel_rfl
theorem rds_bytes:RdsAs Tryz.prog 22 (fun bs:List UInt8=>[.sl (rowsOfBytes bs)]) (fun bs=>bs.length≤maxLen) :=
 rds_map (rds_slice Tryz.underlying22 (by rw [cells_u8];decide) (rds_int Tryz.underlying5) (fun _=>cells_u8.symm)) (fun zs=>zs.map fun z=>UInt8.ofNat z.toNat)
  (fun zs h=>by
   simp only [rowsOfBytes,List.map_map]
   congr 2
   refine List.map_congr_left fun z hz=>?_
   have:=wf_u8 (h.2 z hz)
   simp only [Function.comp]
   congr 2
   rw [UInt8.toNat_ofNat']
   omega) (fun zs h=>by simpa using h.1)
end Go.Ev

