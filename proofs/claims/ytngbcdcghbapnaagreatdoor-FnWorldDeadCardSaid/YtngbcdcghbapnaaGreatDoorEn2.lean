/- My texts joined: EvS17, EvS18, EvS19, EvS20, EvS21, EvS22, EvS23, EvS24, EvS25, EvS26, EvS27, EvS28, EvS29, EvS38, EvS30, EvS31, EvS32, EvS33, EvS34, EvS35, EvS36, EvS39, EvS37, EvS40. No condition. -/
import Derived.Test.YtngbcdcghbapnaaGreatDoorEn1
import Derived.Laws.StructEq
import Derived.ChangeKeysEq
import Derived.Laws.Cover3
import Derived.DataReads
import Derived.Lib.Repeat
set_option linter.unusedVariables false
set_option linter.unusedSimpArgs false

namespace Go.Ev
section
variable {E:Env} {C:Cf} {s:St} {a:Act} {w:World} {R:Nat→Prop} {loc:Root→Loc} {fp:Root→List Nat} {F:List Nat}
theorem Inv.turn {w':World} {b:Nat} (I:Inv C s a w R loc fp F) (hb:b∈F) (ws:Wst w w' fun k=>k=b) (hf:Free w' b):Inv C s a w' R loc fp F:=by
 have hx:=I.fheld b hb
 have hs:∀ c,c<w.heap.size→c≠b→Same w w' c:=fun c hc hne=>ws.block c hc hne
 have hRB:∀ c,R c∨C.B c→Same w w' c:=fun c hc=>hs c (I.rlt c hc) fun e=>hc.elim (fun q=>hx.1 (e ▸ q)) fun q=>hx.2.1 (e ▸ q)
 have hfp:∀ r h,lookH s.H r=some h→∀ c∈fp r,Same w w' c:=fun r h hr c hc=>hs c (I.held r h hr c hc).2.2.1.lt fun e=>I.fdj r h hr b hb (e ▸ hc)
 have hh:∀ c,Held C w R c→Held C w' R c:=by
  intro c ⟨h1,h2,h3,h4⟩
  refine ⟨h1,h2,?_,h4⟩
  by_cases e:c=b
  ·rw [e];exact hf
  ·exact h3.same (hs c h3.lt e)
 exact
  {kp:=⟨ws.os.trans I.kp.os,ws.tape.trans I.kp.tape,ws.output.trans I.kp.output,Nat.le_trans I.kp.size ws.size,fun k hk hg=>(hs k (by have:=I.kp.size;omega) (by
    rintro rfl
    rcases hx.2.2.2 with q | q
    ·omega
    ·exact hg q)).trans (I.kp.block k hk hg)⟩
   r0:=I.r0,rnew:=I.rnew
   rlt:=fun b hb=>Nat.lt_of_lt_of_le (I.rlt b hb) ws.size
   rep:=fun r h hr=>by
    obtain ⟨x⟩:=I.rep r h hr
    exact (x.frame (fun _ h=>h) fun c hc=>hc.elim (fun q=>hfp r h hr c q) (hRB c)).1
   held:=fun r h hr c hc=>hh c (I.held r h hr c hc)
   nd:=I.nd,dj:=I.dj,fheld:=fun c hc=>hh c (I.fheld c hc),fnd:=I.fnd,fdj:=I.fdj
   av:=fun t=>AVRep.frame (I.av t) I.rep (fun _ h=>h) hRB (fun _=>False) (fun r h hr _=>⟨hr,rfl,fun c hc=>hfp r h hr c hc⟩) fun _ _ _ hb=>hb.elim
   df:=I.df,sz:=I.sz,pl:=I.pl }
theorem joinRows {m:M} {c1 c2:List Value} {l1 l2:List L} {S0 Sy:List Nat} (I:Inv C s a w R loc fp (S0++(if m.isOwn then Sy else []))) (r1:RepLs w true c1 l1 S0) (r2:RepLs w m.isOwn c2 l2 Sy) (al:m.isOwn=true∨∀ b∈Sy,Al R C.B m b) :
  ∃ R',Inv C s a w R' loc fp (if m.isOwn then S0++Sy else [])∧RepLs w m.isOwn (c1++c2) (l1++l2) (S0++Sy)∧(m.isOwn=true∨∀ b∈S0++Sy,Al R' C.B m b):=by
 cases e:m.isOwn with
 | true =>
  rw [e] at I r2
  exact ⟨R,I,r1.append r2,.inl rfl⟩
 | false =>
  rw [e] at I r2
  simp only [if_false,Bool.false_eq_true,List.append_nil] at I
  refine ⟨_,I.freeze S0 [] (by simp) (by simpa using I.fnd),r1.weak.append r2,.inr fun b hb=>?_⟩
  rcases List.mem_append.1 hb with hb | hb
  ·exact Al.ro (.inr hb) e
  ·exact (al.resolve_left (by simp [e]) b hb).mono fun b h=>.inl h
theorem rows_flat_len {sz:Nat} {xs:List (List L)} (h:∀ x∈xs,x.length=sz):xs.flatten.length=xs.length*sz:=flatten_len sz xs h
theorem rowAns {m:M} {v:Value} {rows:List (List L)} {S:List Nat} (I:Inv C s a w R loc fp (if m.isOwn then S else [])) (hr:RepL w m.isOwn v (.sl rows) S) (al:m.isOwn=true∨∀ b∈S,Al R C.B m b) (hag:isAgg v=false) (hc:v.cells.toList=[v]) (r:Root) (d:Option Nat) (hd:∀ y,d=some y→y<C.N) :
  InvX C ((if m.isOwn then s.new r .own false [.sl rows] else (.v m false [.sl rows],s)).2.put d (if m.isOwn then s.new r .own false [.sl rows] else (.v m false [.sl rows],s)).1) (a.put d v) w:=by
 cases e:m.isOwn with
 | true =>
  simp only [if_true]
  rw [e] at I hr
  exact newVal (m:=.own) (ls:=[.sl rows]) (S:=S) (by simpa [M.isOwn] using I) (by rw [hc];exact RepLs.single hr) (.inl rfl) hag r d hd
 | false =>
  simp only [Bool.false_eq_true,if_false]
  rw [e] at I hr
  simp only [Bool.false_eq_true,if_false] at I
  exact InvX.put I hd (mkScal hr (al.resolve_left (by simp [e])) (by simp [e]))
theorem rowTy {t:TypeId} (h:isRowTy E t=true):∃ d,E.P.underlying t=some d∧((∃ e,d=.slice e)∨d=.string):=by
 unfold isRowTy at h
 split at h<;>try (cases h;done)
 rename_i ti ht
 obtain ⟨i0,d,zz,hi,hdd,hz,hzs,hz1,hn,h0,e1,e2,e3,e4,e5⟩:=tiOf_spec ht
 refine ⟨d,hdd,?_⟩
 split at h<;>try (cases h;done)
 ·rename_i e he
  exact .inl ⟨e,elemOf (e5 ▸ he)⟩
 ·rename_i he
  exact .inr (strOf (e5 ▸ he))
theorem run_app_in {P:Program} {t t2 ty e:TypeId} {i:TypeInfo} {d2:TypeDesc} {n m cap:Nat} {vy:Value} {news:Array Value} {b:Option Addr} {w':World} (hdd:P.underlying t=some (.slice e)) (hi:P.info? e=some i) (hd2:P.underlying t2=some d2)
  (hr:(∃ e',d2=.slice e')∨d2=.string) (hlen:(Builtin.lenOf vy).run P w=.ok m w) (hf:(Builtin.firstCells i.size m vy).run P w=.ok news w) (hfit:n+m≤cap)
  (hst:∀ p,b=some p→(storeCells (p.add (n*i.size)) news.toList).run P w=.ok () w') (hnone:b=none→w'=w) :
  (Builtin.append_ #[t,t2] ty #[.slice b n cap,vy]).run P w=.ok (.slice b (n+m) cap) w':=by
 rcases hr with ⟨e',rfl⟩ | rfl<;>cases b with
 | none=>obtain rfl:=hnone rfl;simp [Builtin.append_,run_underlying' w' hdd,run_underlying' w' hd2,run_sizeOf' w' hi,hlen,hf,hfit]
 | some p=>simp [Builtin.append_,run_underlying' w hdd,run_underlying' w hd2,run_sizeOf' w hi,hlen,hf,hfit,hst p rfl]
theorem run_app_grow {P:Program} {t t2 ty e:TypeId} {i:TypeInfo} {zz:Value} {d2:TypeDesc} {n m cap:Nat} {vy:Value} {olds news:Array Value} {b:Option Addr} (hdd:P.underlying t=some (.slice e)) (hi:P.info? e=some i) (hz:i.zero=some zz) (hd2:P.underlying t2=some d2)
  (hr:(∃ e',d2=.slice e')∨d2=.string) (hlen:(Builtin.lenOf vy).run P w=.ok m w) (hf:(Builtin.firstCells i.size m vy).run P w.drew=.ok news w.drew) (hfo:(Builtin.firstCells i.size n (.slice b n cap)).run P w.drew=.ok olds w.drew) (hg:¬ n+m≤cap)
  (h63:¬ 9223372036854775807<(n:Int)+(m:Int)) (h48:¬ 281474976710656<Builtin.nextslicecap (n+m) cap*i.bytes) :
  (Builtin.append_ #[t,t2] ty #[.slice b n cap,vy]).run P w =
   .ok (.slice (some ⟨w.heap.size,0,none⟩) (n+m) (grownCap w (n+m) cap e)) (w.drew.alloc (.cells (olds++news++Builtin.zeroCells zz.cells (grownCap w (n+m) cap e - (n+m))) e)):=by
 rcases hr with ⟨e',rfl⟩ | rfl <;>
  simp [Builtin.append_,run_underlying' w hdd,run_underlying' w hd2,run_sizeOf' w hi,typeInfo,zeroValue,hi,hz,hlen,hf,hfo,hg,h63,h48,Question.forced,newRow,grownCap]
theorem ok_append {o:Oper} {x y:Operand} {z:AV × St} {Q} (gk:GlobOk E C) (I:Inv C s a w R loc fp []) (c:Call) (ho:o.op=.call c) (hc:c.callee=.builtin .append) (hargs:c.args.toList=[x,y]) (hd:∀ y,o.dst=some y→y<C.N) {d:Nat}
  (h:evAppend E c.argTypes.toList (opnd E s x) (opnd E s y) d s=some z):o.wp E.P a w (InvX C (z.2.put o.dst z.1)) Q:=by
 have hx:=opnd_rep gk I x
 have h1:c.args=#[x,y]:=by apply Array.ext';simpa using hargs
 have hrun:∀ v w',(Builtin.append_ c.argTypes o.type #[a.eval x,a.eval y]).run E.P w=.ok v w'→(execOp a.eval o).run E.P w=.ok (.value v) w':=by
  intro v w' hv
  simp [execOp,ho,resolve,hc,h1,invoke,builtin,hv]
 unfold evAppend at h
 split at h<;>try (cases h;done)
 rename_i t t2 hts
 have hts':c.argTypes=#[t,t2]:=by apply Array.ext';simpa using hts
 split at h<;>try (cases h;done)
 rename_i ti ht
 obtain ⟨i0,dd,zz,hi,hdd,hz,hzs,hz1,hn0,h0,e1,e2,e3,e4,e5⟩:=tiOf_spec ht
 split at h<;>try (cases h;done)
 rename_i e he
 obtain rfl:=elemOf (e5 ▸ he)
 split at h<;>try (cases h;done)
 rename_i ei xs s1 hei hem
 obtain ⟨i1,d1,z1,hi1,hdd1,hz1',hzs1,hz11,hn1,h01,f1,f2,f3,f4,f5⟩:=tiOf_spec hei
 obtain ⟨tk⟩:=I.embed hx hem
 have I1':=tk.inv
 simp only [M.isOwn,if_true,List.nil_append] at I1'
 obtain ⟨SX,RX,locX,fpX,I1,hxr,hV⟩:∃ SX RX locX fpX,Inv C s1 a w RX locX fpX SX∧RepL w true (a.eval x) (.sl xs) SX∧s1.V=s.V:=⟨tk.S,tk.R',tk.loc',tk.fp',I1',oneRep tk.rep tk.agg,tk.hV⟩
 split at h<;>try (cases h;done)
 rename_i m ys s2 hsrc
 split at h<;>cases h
 rename_i hcc
 obtain ⟨hrow,hxo,hyo,hsz,hb1,hb2⟩:=hcc
 have hxs:=rows_of_ok hxo
 have hys:=rows_of_ok hyo
 rw [← opnd_V s s1 hV y] at hsrc
 obtain ⟨src⟩:=src_ok gk I1 y hsrc hys hsz
 obtain ⟨d2,hd2,hni⟩:=rowTy hrow
 have hlen:=src.len
 have hrows:∀ q∈xs++ys,q.length=ei.size:=fun q hq=>(List.mem_append.1 hq).elim (hxs q) (hys q)
 obtain ⟨olds,S0,hor,hosub,hond,holen,hofirst⟩:=firstCells_of (P:=E.P) hxr hxs
 have hlr:(xs++ys).length=xs.length+ys.length:=List.length_append
 have hshape:∃ base cap,a.eval x=.slice base xs.length cap:=by
  by_cases hne:xs=[]
  ·subst hne
   obtain ⟨p,cap,hp,_,_⟩:=hxr.slE
   exact ⟨p,cap,hp⟩
  ·obtain ⟨b,off,cap,cs,T,fr,sz',S0,hv,_⟩:=hxr.slCases hne
   exact ⟨_,cap,hv⟩
 obtain ⟨base,cap,hxv⟩:=hshape
 have hbytes:(xs.length+ys.length)*i1.bytes≤17592186044416:=by rw [← f2];exact hb1
 have hsame:∀ b,b<w.heap.size→w.drew.heap[b]?=w.heap[b]?:=fun b _=>rfl
 rw [hxv] at hofirst hxr
 by_cases hfit:xs.length+ys.length≤cap
 ·by_cases hne:xs=[]
  ·subst hne
   obtain ⟨p,cap',hp,hS,hcap⟩:=hxr.slE
   cases hp
   have hcap:=hcap rfl
   subst hcap
   have hy0:ys=[]:=List.length_eq_zero_iff.1 (by simp only [List.length_nil] at hfit;omega)
   subst hy0
   have hvs:src.vs=[]:=List.length_eq_zero_iff.1 (by rw [src.rep.len];rfl)
   have hrunA:=run_app_in (P:=E.P) (w:=w) (w':=w) (ty:=o.type) (b:=base) (n:=0) (m:=0) (cap:=0) (news:=⟨src.vs⟩) hdd hi1 hd2 hni hlen (by rw [← f1];exact src.first w fun _ _=>rfl) (by omega) (fun p _=>by rw [hvs];simp [storeCells]) (fun _=>rfl)
   refine opVal (hrun _ _ (by rw [hts',hxv];exact hrunA)) ?_
   have J:=src.inv.drop [] (by simp) (by simp)
   exact rowAns (m:=m) (rows:=[]) (S:=[]) (by simpa using J) (.sle _ _ _ (by simp)) (.inr (by simp)) rfl rfl (.f d 1) o.dst hd
  ·obtain ⟨b,off,cap',cs,T,fr,sz',S0',hv,hS,hb,hsz',hxl,hcl,hsize,hrr⟩:=hxr.slCases hne
   cases hv
   have hszz:sz'=ei.size:=by
    cases xs with
    | nil=>exact absurd rfl hne
    | cons r rs=>rw [← hxl r (by simp)];exact hxs r (by simp)
   subst hszz
   subst hS
   have hcm:(xs.length+ys.length)*ei.size≤cap*ei.size:=Nat.mul_le_mul_right _ hfit
   rw [Nat.add_mul] at hcm
   have hnl:src.vs.length=ys.length*ei.size:=by rw [src.rep.len,rows_flat_len hys]
   have hbF:b∈(b::S0')++(if m.isOwn then src.S else []):=by simp
   have hheld:=src.inv.fheld b hbF
   have hnd:=List.nodup_append.1 src.inv.fnd
   have hbS0:b ∉ S0':=(List.nodup_cons.1 hnd.1).1
   have hbSy:∀ c∈src.S,c≠b:=by
    intro c hc e
    rcases src.al with ho | al
    ·exact hnd.2.2 b (by simp) c (by rw [if_pos ho];exact hc) e.symm
    ·exact (al c hc).sub.elim (fun q=>hheld.1 (e ▸ q)) fun q=>hheld.2.1 (e ▸ q)
   have hfree:∀ o,o<cs.size→¬ (fr.1≤o∧o<fr.2):=by
    obtain ⟨cs1,T1,fr1,g1,g2⟩:=hheld.2.2.1
    rw [hb] at g1;cases g1
    exact g2
   have hst:=run_storeCells' E.P b (off+xs.length*ei.size) T fr src.vs 0 cs w hb hfree (by omega) src.rep.one
   rw [Nat.add_zero] at hst
   have hrunA:=run_app_in (P:=E.P) (w:=w) (w':=w.setRow b (splice cs.toList (off+xs.length*ei.size) src.vs).toArray) (ty:=o.type) (b:=some ⟨b,off,none⟩) (n:=xs.length) (m:=ys.length) (cap:=cap) (news:=⟨src.vs⟩) hdd hi1 hd2 hni hlen (by rw [← f1];exact src.first w fun _ _=>rfl) (by omega) (fun p hp=>by
    cases hp
    rw [add_at,← f1];exact hst) (by simp)
   refine opVal (hrun _ _ (by rw [hts',hxv];exact hrunA)) ?_
   have hw':(w.setRow b (splice cs.toList (off+xs.length*ei.size) src.vs).toArray).heap[b]?=some (.cells (splice cs.toList (off+xs.length*ei.size) src.vs).toArray T fr):=setRow_heap w b cs _ T fr hb
   have hsl:(splice cs.toList (off+xs.length*ei.size) src.vs).length=cs.size:=by rw [splice_length _ _ _ (by simp;omega)];simp
   have hws:Wst w (w.setRow b (splice cs.toList (off+xs.length*ei.size) src.vs).toArray) fun k=>k=b:=Wst.setRow hb _
   have hoth:∀ c,c≠b→Same w (w.setRow b (splice cs.toList (off+xs.length*ei.size) src.vs).toArray) c:=fun c hc=>setRow_other w b c _ hc
   have hcells:((splice cs.toList (off+xs.length*ei.size) src.vs).drop off).take ((xs.length+ys.length)*ei.size)=(cs.toList.drop off).take (xs.length*ei.size)++src.vs:=by
    have h3:(cs.toList.take (off+xs.length*ei.size)).length=off+xs.length*ei.size:=by simp;omega
    rw [splice,List.append_assoc,List.drop_append_of_le_length (by omega),← List.append_assoc,List.take_append_of_le_length (by simp [hnl,Nat.add_mul];omega),List.take_of_length_le (by simp [hnl,Nat.add_mul];omega),List.drop_take]
    congr 2
    omega
   generalize w.setRow b (splice cs.toList (off+xs.length*ei.size) src.vs).toArray=w' at *
   have J:=src.inv.turn hbF hws ⟨_,_,_,hw',fun o ho=>hfree o (by simpa [hsl] using ho)⟩
   have q1:RepLs w' true ((cs.toList.drop off).take (xs.length*ei.size)) xs.flatten S0':=hrr.frame fun c hc=>hoth c fun e=>hbS0 (e ▸ hc)
   have q2:RepLs w' m.isOwn src.vs ys.flatten src.S:=src.rep.frame fun c hc=>hoth c (hbSy c hc)
   have hcap2:(xs++ys).length≤cap:=by rw [hlr];exact hfit
   have mk:RepLs w' m.isOwn ((cs.toList.drop off).take (xs.length*ei.size)++src.vs) (xs.flatten++ys.flatten) (S0'++src.S)→RepL w' m.isOwn (.slice (some ⟨b,off,none⟩) (xs.length+ys.length) cap) (.sl (xs++ys)) (b::(S0'++src.S)):=by
    intro hh
    have:=RepL.sl m.isOwn b off cap _ T fr (xs++ys) ei.size (S0'++src.S) hw' (by simp [hne]) hsz hrows hcap2 (by simpa [hsl] using hsize) (by rw [hlr,List.flatten_append];simpa [hcells] using hh)
    rwa [hlr] at this
   cases em:m.isOwn with
   | true =>
    rw [em] at J q2 mk
    have:=rowAns (m:=m) (rows:=xs++ys) (S:=b::(S0'++src.S)) (by rw [em];simpa using J) (by rw [em];exact mk (q1.append q2)) (.inl em) rfl rfl (.f d 1) o.dst hd
    rwa [em] at this
   | false =>
    rw [em] at J q2 mk
    have J2:=J.freeze (b::S0') [] (by simp) (by simpa using (List.nodup_append.1 J.fnd).1)
    have:=rowAns (m:=m) (rows:=xs++ys) (S:=b::(S0'++src.S)) (by rw [em];simpa using J2) (by rw [em];exact mk (q1.weak.append q2)) (.inr fun c hc=>by
     have hc':c∈b::S0'∨c∈src.S:=by simpa [or_assoc] using hc
     rcases hc' with hc | hc
     ·exact Al.ro (.inr (List.mem_cons.1 hc)) em
     ·exact (src.al.resolve_left (by simp [em]) c hc).mono fun b h=>.inl h) rfl rfl (.f d 1) o.dst hd
    rwa [em] at this
 ·have hrunA:=run_app_grow (P:=E.P) (w:=w) (ty:=o.type) (olds:=⟨olds⟩) (news:=⟨src.vs⟩) hdd hi1 hz1' hd2 hni hlen (by rw [← f1];exact src.first w.drew hsame) (by rw [← f1];exact hofirst w.drew hsame) hfit (by omega)
   (by have:=growslice_fits (need:=xs.length+ys.length) (old:=cap) (bytes:=i1.bytes) (by omega) (by omega);omega)
  have hge:=grownCap_ge w (xs.length+ys.length) cap e
  generalize grownCap w (xs.length+ys.length) cap e=gc at hrunA hge
  obtain ⟨R2,J,hrr,hal⟩:=joinRows (S0:=S0) (src.inv.drop _ (fun b hb=>by
   rcases List.mem_append.1 hb with hb | hb
   ·exact List.mem_append.2 (.inl (hosub b hb))
   ·exact List.mem_append.2 (.inr hb)) (by
    have h2:=List.nodup_append.1 src.inv.fnd
    exact List.nodup_append.2 ⟨hond h2.1,h2.2.1,fun b hb c hc=>h2.2.2 b (hosub b hb) c hc⟩)) hor src.rep src.al
  have hol:olds.length=xs.length*ei.size:=by rw [hor.len,rows_flat_len hxs]
  have hnl:src.vs.length=ys.length*ei.size:=by rw [src.rep.len,rows_flat_len hys]
  refine opVal (hrun _ _ (by rw [hts',hxv];exact hrunA)) ?_
  have ws:Wst w (w.drew.alloc (.cells ((⟨olds⟩:Array Value)++⟨src.vs⟩++Builtin.zeroCells z1.cells (gc - (xs.length+ys.length))) e (0,0))) fun _=>False:=by
   have q:=Wst.alloc w.drew (.cells ((⟨olds⟩:Array Value)++⟨src.vs⟩++Builtin.zeroCells z1.cells (gc - (xs.length+ys.length))) e (0,0))
   exact ⟨q.os,q.tape,q.output,q.size,q.block⟩
  have hzl:(Builtin.zeroCells z1.cells (gc - (xs.length+ys.length))).size=(gc - (xs.length+ys.length))*ei.size:=by simp [Builtin.zeroCells,hzs1,f1]
  have:=newSlice' (m:=m) (rows:=xs++ys) (S:=S0++src.S) (sz:=ei.size) (T:=e) (fr:=(0,0)) J ws (alloc_get w.drew _) (freeAlloc w.drew _ e) (by
    rw [hlr,List.flatten_append]
    simp only [Array.toList_append]
    rw [List.take_append_of_le_length (by simp [hol,hnl,Nat.add_mul]),List.take_of_length_le (by simp [hol,hnl,Nat.add_mul])]
    exact hrr) hal hsz hrows gc (by rw [hlr];exact hge) (by
     have h3:gc*ei.size=(xs.length+ys.length)*ei.size+(gc - (xs.length+ys.length))*ei.size:=by rw [← Nat.add_mul];congr 1;omega
     rw [Array.size_append,Array.size_append,hzl,h3,Nat.add_mul]
     simp [hol,hnl]) (fun hh=>by
      rw [hh] at hlr
      simp at hlr
      omega) (.f d 1) o.dst hd
  rw [hlr] at this
  exact this
theorem ok_win {o:Oper} {t:TypeId} {x:Operand} {lo hi:Option Operand} {y:AV} {Q} (gk:GlobOk E C) (I:Inv C s a w R loc fp []) (ho:o.op=.slice t x lo hi none) (hd:∀ y,o.dst=some y→y<C.N)
  (h:evWin E t (opnd E s x) (lo.map (opnd E s)) (hi.map (opnd E s)) s=some y):o.wp E.P a w (InvX C (s.put o.dst y)) Q:=by
 have hx:=opnd_rep gk I x
 unfold evWin at h
 split at h<;>try (cases h;done)
 rename_i ti r k0 k1 off ht hq
 obtain ⟨i0,dd,zz,hi0,hdd,hz,hzs,hz1,hn0,h0,e1,e2,e3,e4,e5⟩:=tiOf_spec ht
 split at h<;>try (cases h;done)
 rename_i e hh xs he hg
 obtain rfl:=elemOf (e5 ▸ he)
 split at h<;>try (cases h;done)
 rename_i ei hei
 obtain ⟨i1,d1,z1,hi1,hdd1,hz1',hzs1,hz11,hn1,h01,f1,f2,f3,f4,f5⟩:=tiOf_spec hei
 split at h<;>try (cases h;done)
 rename_i u hu
 split at h<;>try (cases h;done)
 rename_i l hl
 split at h<;>cases h
 rename_i hc
 obtain ⟨hown,hsz1,hlx⟩:=hc
 rw [hq] at hx
 obtain ⟨hr,ln,hlk,hag,hvs⟩:=I.atVal hx hg
 have hrl:RepL w hh.m.isOwn (a.eval x) (.sl xs) ln.Sm:=oneRep (hvs ▸ ln.rep) hag
 have hne:xs≠[]:=by intro e;subst e;simp at hlx
 obtain ⟨b,boff,cap,cs,T,fr,sz,S0,hv,hS,hb,hsz,hxl,hcap,hsize,hrr⟩:=hrl.slCases hne
 obtain ⟨hrun,hl1,hl2⟩:=run_sliceBounds' (isSlice:=true) (cap:=cap) gk I hcap hu hl
 have hrunv:(execOp a.eval o).run E.P w=.ok (.value (.slice (some ⟨b,boff+l*1+0,none⟩) (u - l) (cap - l))) w:=by
  simp only [execOp,ho,Instr.sliceAt,Instr.slice,Option.map_none,Sem.run_bind,run_underlying' w hdd,Result.andThen_ok,hv]
  rw [hrun]
  simp only [Result.andThen_ok,run_sizeOf' w hi1,Sem.run_bind,Option.map_some,add_blk,← f1,hsz1]
  rw [if_neg (by omega)]
  rfl
 refine opVal hrunv (InvX.put I hd ?_)
 obtain ⟨g1,ok,suf,hpl,hnn,hsubl⟩:=getAt_spec hg
 have hcells:(a.eval x).cells.toList=[a.eval x]:=by rw [hv];rfl
 have hcp:=ln.hc
 rw [hvs,hcells] at hcp
 simp only [cpl,Option.map_some,Option.some.injEq] at hcp
 have hv0:((loc r).cells w)[off]?=some (.slice (some ⟨b,boff,none⟩) xs.length cap):=by
  have:((((loc r).cells w).drop off).take 1)[0]?=some (a.eval x):=by rw [hcp];rfl
  rw [List.getElem?_take] at this
  rw [← hv];simpa using this
 exact ⟨hh,g1,Nat.le_refl _,Nat.le_refl _,fun _=>⟨_,_,by simp only [cad,hv0],rfl⟩⟩
theorem ok_copy {o:Oper} {x y:Operand} {z:AV × St} {Q} (gk:GlobOk E C) (I:Inv C s a w R loc fp []) (c:Call) (ho:o.op=.call c) (hc:c.callee=.builtin .copy) (hargs:c.args.toList=[x,y]) (hd:∀ y,o.dst=some y→y<C.N)
  (h:evCopy E c.argTypes.toList (opnd E s x) (opnd E s y) s=some z):o.wp E.P a w (InvX C (z.2.put o.dst z.1)) Q:=by
 have hx:=opnd_rep gk I x
 have hy:=opnd_rep gk I y
 have h1:c.args=#[x,y]:=by apply Array.ext';simpa using hargs
 have hrun:∀ v w',(Builtin.copy_ c.argTypes o.type #[a.eval x,a.eval y]).run E.P w=.ok v w'→(execOp a.eval o).run E.P w=.ok (.value v) w':=by
  intro v w' hv
  simp [execOp,ho,resolve,hc,h1,invoke,builtin,hv]
 unfold evCopy at h
 split at h<;>try (cases h;done)
 rename_i t t2 r k0 k1 off lo n m bs hts hqx hqy
 have hts':c.argTypes=#[t,t2]:=by apply Array.ext';simpa using hts
 split at h<;>try (cases h;done)
 rename_i ti hh ht hlk
 obtain ⟨i0,dd,zz,hi,hdd,hz,hzs,hz1,hn0,h0,e1,e2,e3,e4,e5⟩:=tiOf_spec ht
 split at h<;>try (cases h;done)
 rename_i e xs he hls
 obtain rfl:=elemOf (e5 ▸ he)
 split at h<;>try (cases h;done)
 rename_i ei hei
 obtain ⟨i1,d1,z1,hi1,hdd1,hz1',hzs1,hz11,hn1,h01,f1,f2,f3,f4,f5⟩:=tiOf_spec hei
 split at h<;>cases h
 rename_i hcc
 obtain ⟨hsz1,hk0,hm,hlx,hln,hall,hbig⟩:=hcc
 rw [hqx] at hx
 rw [hqy] at hy
 obtain ⟨S,g1,_⟩:=scal hy
 obtain ⟨B,hyv,rfl,hB⟩:=repStr g1
 obtain ⟨h2,q1,_,_,q4⟩:=hx
 rw [hlk] at q1;cases q1
 obtain ⟨ad,cap,hcad,hxv⟩:=q4 hk0
 have hx1:∀ r∈xs,r.length=1:=by
  rw [List.all_eq_true] at hall
  exact fun r hr=>by simpa using hall r hr
 have hrow:xs[lo]?=some xs[lo]:=List.getElem?_eq_getElem hlx
 have hr1:(xs[lo]).length=1:=hx1 _ (List.getElem_mem hlx)
 have hpl:place hh.ls off [(lo,1,0)]=some xs[lo]:=by simp [place,hls,hrow,hr1]
 obtain ⟨v,⟨q⟩⟩:=I.pointAt (n:=1) hlk hpl (by omega) (by simp)
 have hd2:=(q.deep (by simp)).2
 rw [hcad] at hd2
 simp only [Option.some.injEq] at hd2
 subst hd2
 have hfree:Free w q.b:=by
  refine (I.held r hh hlk q.b ?_).2.2.1
  rw [q.hr.fpe,if_pos hm,q.ln.hS]
  simp [(q.deep (by simp)).1]
 have hfz:∀ o,o<q.ds.size→¬ (q.fr.1≤o∧o<q.fr.2):=by
  obtain ⟨cs,T,fr,hb,hf⟩:=hfree
  rw [q.hb] at hb;cases hb
  exact hf
 obtain ⟨R1,loc1,fp1,J⟩:=Inv.storeRows (r:=r) (off:=off) (B.data.toList.take n) lo s w R loc fp hh xs q.b q.p q.ds q.T q.fr I hlk hm hls hx1 (by simp;omega) hcad q.hb
 have hlenB:Nat.min B.size n=min B.data.toList.length n:=by rw [hB]
 have hcl:(B.extract 0 (min B.data.toList.length n)).data.map (fun b=>Value.int .u8 b.toNat)=⟨(B.data.toList.take n).map fun b=>Value.int .u8 b.toNat⟩:=by
  apply Array.ext'
  have:=extract_list B 0 (min B.data.toList.length n)
  rw [List.drop_zero] at this
  rw [Array.toList_map,this]
  congr 1
  rw [List.take_eq_take_iff]
  omega
 -- the cells that turn all lie in the window's block
 have hsize:q.p+(min B.data.toList.length n)≤q.ds.size:=by
  generalize hmk:min B.data.toList.length n=mk
  have hmk2:mk≤n:=by omega
  clear hlenB hcl hmk
  obtain ⟨hr⟩:=I.rep r hh hlk
  have hp2:place hh.ls off []=some (hh.ls.drop off):=by
   obtain ⟨hoff,_⟩:=List.getElem?_eq_some_iff.1 hls
   simp only [place];rw [if_pos (by omega)]
  by_cases hz:mk=0
  ·rw [hz];have:=q.hp;omega
  ·have hlt:lo+(mk - 1)<xs.length:=by omega
   have hrow2:xs[lo+(mk - 1)]?=some xs[lo+(mk - 1)]:=List.getElem?_eq_getElem hlt
   have hr2:(xs[lo+(mk - 1)]).length=1:=hx1 _ (List.getElem_mem hlt)
   have hpl2:place hh.ls off [(lo+(mk - 1),1,0)]=some xs[lo+(mk - 1)]:=by simp [place,hls,hrow2,hr2]
   obtain ⟨v2,⟨q2⟩⟩:=I.pointAt (n:=1) hlk hpl2 (by omega) (by simp)
   have hcad2:=(q2.deep (by simp)).2
   have hfar:∀ k,cad w ((loc r).cells w) off [(lo+k,1,0)]=some ⟨q.b,q.p+k,none⟩:=fun k=>by
    induction k with
    | zero=>exact hcad
    | succ k ih=>exact cad_next ih
   rw [hfar] at hcad2
   simp only [Option.some.injEq,Addr.mk.injEq] at hcad2
   have hb2:=q2.hb
   rw [← hcad2.1,q.hb] at hb2
   simp only [Option.some.injEq,Obj.cells.injEq] at hb2
   have:=q2.hp
   rw [← hb2.1] at this
   omega
 have hst:=run_storeCells' E.P q.b q.p q.T q.fr ((B.data.toList.take n).map fun b=>Value.int .u8 b.toNat) 0 q.ds w q.hb hfz (by simp;omega) (fun v hv=>by
  obtain ⟨b,_,rfl⟩:=List.mem_map.1 hv
  rfl)
 rw [Nat.add_zero] at hst
 refine opVal (hrun (.int .i64 (min B.data.toList.length n:Nat)) (w.setRow q.b (splice q.ds.toList q.p ((B.data.toList.take n).map fun b=>Value.int .u8 b.toNat)).toArray) ?_) (InvX.put J hd (mkFlat (.int _ _ _) rfl))
 rw [hts',hxv,hyv]
 simp only [Builtin.copy_,List.getElem?_toArray,List.getElem?_cons_zero,List.getElem?_cons_succ,Sem.run_bind,Sem.run_pure,run_underlying' w hdd,Result.andThen_ok,Builtin.lenOf,hlenB,run_sizeOf' w hi1,← f1,hsz1,Builtin.firstCells,hcl,hst]
 rfl
end
end Go.Ev


namespace Go.Ev
def hcOf (box:Bool) (m:M) (ls:List L):HC:={ box,wr:=true,m,ls,e0:=0,e1:=0 }
def ArgRep (w:World) (R B:Nat→Prop) (v:Value) (fp:List Nat):Arg→Prop
 | .v m agg ls=>fp=[]∧∃ S,RepLs w false v.cells.toList ls S∧isAgg v=agg∧(∀ b∈S,Al R B m b)∧(m.isOwn=true→ls.all L.flat=true)
 | .own agg ls=>isAgg v=agg∧Nonempty (HRep w R B (hcOf false .own ls) (.vals v.cells.toList) fp)
 | .ptr m ls=>∃ b,v=.pointer (some ⟨b,0,none⟩)∧Nonempty (HRep w R B (hcOf true m ls) (.blk b) fp)
 | .io agg ls=>isAgg v=agg∧Nonempty (HRep w R B (hcOf false .own ls) (.vals v.cells.toList) fp)
inductive ArgsRep (w:World) (R B:Nat→Prop):List Arg→List Value→List (List Nat)→Prop
 | nil:ArgsRep w R B [] [] []
 | cons {x v fp xs vs fps}:ArgRep w R B v fp x→ArgsRep w R B xs vs fps→ArgsRep w R B (x::xs) (v::vs) (fp::fps)
def RVRep (w:World) (R B:Nat→Prop) (v:Value) (fp:List Nat):RV→Prop
 | .v m agg ls=>isAgg v=agg∧∃ S,RepLs w m.isOwn v.cells.toList ls S∧(m.isOwn=true∨∀ b∈S,Al R B m b)∧fp=(if m.isOwn then S else [])
 | .ptr m ls=>∃ b,v=.pointer (some ⟨b,0,none⟩)∧Nonempty (HRep w R B (hcOf true m ls) (.blk b) fp)
inductive RVsRep (w:World) (R B:Nat→Prop):List RV→List Value→List (List Nat)→Prop
 | nil:RVsRep w R B [] [] []
 | cons {x v fp xs vs fps}:RVRep w R B v fp x→RVsRep w R B xs vs fps→RVsRep w R B (x::xs) (v::vs) (fp::fps)
inductive OutsRep (w:World) (R B:Nat→Prop):List (M × List L)→List Loc→List (List Nat)→Prop
 | nil:OutsRep w R B [] [] []
 | cons {m ls b fp os bs fps}:Nonempty (HRep w R B (hcOf b.isBlk m ls) b fp)→OutsRep w R B os bs fps→OutsRep w R B ((m,ls)::os) (b::bs) (fp::fps)
def boxesOf:List Arg→List Value→List Loc
 | .ptr ..::as,.pointer (some p)::vs=>.blk p.block::boxesOf as vs
 | .io ..::as,v::vs=>.vals v.cells.toList::boxesOf as vs
 | _::as,_::vs=>boxesOf as vs
 | _,_=>[]
def ptrLoc:Option Arg→Option Value→Option Loc
 | some (.ptr ..),some (.pointer (some p))=>some (.blk p.block)
 | some (.io ..),some v=>some (.vals v.cells.toList)
 | _,_=>none
def retVal:List Value→Value
 | [v]=>v
 | vs=>.tuple ⟨vs⟩
structure Ans (w:World) (R B G:Nat→Prop) (out:Out) (bs:List Loc) (v:Value) (w':World) where
 R':Nat→Prop
 vs:List Value
 fps:List (List Nat)
 ofps:List (List Nat)
 hv:v=retVal vs
 kp:Kp w w' G
 mono:∀ b,R b→R' b
 new:∀ b,R' b→R b∨w.heap.size≤b∨G b
 lt:∀ b,R' b→b<w'.heap.size
 rs:RVsRep w' R' B out.rs vs fps
 outs:OutsRep w' R' B out.outs bs ofps
 held:∀ b∈fps.flatten++ofps.flatten,¬ R' b∧¬ B b∧Free w' b∧(w.heap.size≤b∨G b)
 nd:(fps.flatten++ofps.flatten).Nodup
def Runs (P:Program) (f:FuncId) (args:Array Value) (w:World) (K:Value→World→Prop):Prop :=
 ((callFunc f args).run P w=.ok (.enter f args) w∧Calls P f args w fun | .returned v,w'=>K v w' | _,_=>False) ∨
 ∃ v w',(callFunc f args).run P w=.ok (.value v) w'∧K v w'
theorem Runs.mono {P:Program} {f:FuncId} {args:Array Value} {w:World} {K K':Value→World→Prop} (h:Runs P f args w K) (hk:∀ v w',K v w'→K' v w'):Runs P f args w K':=by
 rcases h with ⟨h1,h2⟩ | ⟨v,w',h1,h2⟩
 ·exact .inl ⟨h1,h2.mono fun e w' q=>by cases e<;>first | exact hk _ _ q | exact q.elim⟩
 ·exact .inr ⟨v,w',h1,hk _ _ h2⟩
def GlobAt (E:Env) (w:World) (R:Nat→Prop):Prop :=
 ∀ g ls,E.glob g=some ls→∃ cs T fr S,w.heap[g]?=some (.cells cs T fr)∧ls.length=cs.size∧RepLs w false (cs.toList.take ls.length) ls S∧∀ b∈g::S,R b
def Con (E:Env) (f:FuncId) (args:List Arg) (out:Out):Prop :=
 ∀ (w:World) (R B:Nat→Prop) (vs:List Value) (fps:List (List Nat)),ArgsRep w R B args vs fps→GlobAt E w R→(∀ b,R b∨B b→b<w.heap.size)→(∀ b∈fps.flatten,¬ R b∧¬ B b∧Free w b)→fps.flatten.Nodup →
  Runs E.P f ⟨vs⟩ w fun v w'=>Nonempty (Ans w R B (fun b=>b∈fps.flatten) out (boxesOf args vs) v w')
def Cons' (E:Env) (K:Fns):Prop:=∀ f args out,K f args=some out→Con E f args out
theorem GlobAt.of {E:Env} {C:Cf} {s:St} {a:Act} {w:World} {R:Nat→Prop} {loc:Root→Loc} {fp:Root→List Nat} {F:List Nat} (gk:GlobOk E C) (I:Inv C s a w R loc fp F):GlobAt E w R:=by
 intro g ls hg
 obtain ⟨cs,T,fr,S,h1,h2,h3,h4⟩:=gk.glob g ls hg
 have hs:∀ b∈g::S,Same C.w0 w b:=fun b hb=>I.same0 gk (.inl (h4 b hb))
 exact ⟨cs,T,fr,S,(hs g (by simp)).trans h1,h2,h3.frame fun b hb=>hs b (by simp [hb]),fun b hb=>I.r0 b (h4 b hb)⟩
section
variable {E:Env} {C:Cf} {s:St} {a:Act} {w:World} {R:Nat→Prop} {loc:Root→Loc} {fp:Root→List Nat} {F:List Nat}
theorem HRep.lend {R B Rc Bc:Nat→Prop} {h h':HC} {l:Loc} {f:List Nat} (hr:HRep w R B h l f) (hR:∀ b,R b→Rc b) (hB:h.m.isTn=true→h.ls.all L.flat=false→∀ b,B b→Rc b∨Bc b) (e1:h'.box=h.box) (e2:h'.wr=h.wr) (e3:h'.m=h.m) (e4:h'.ls=h.ls):Nonempty (HRep w Rc Bc h' l f):=by
 have hbx:∀ ob,boxRep w R h l ob→boxRep w Rc h' l ob:=by
  intro ob hb
  unfold boxRep at hb ⊢
  rw [e1,e2]
  rcases hb with ⟨h1,b,cs,T,fr,h2,h3,h4⟩ | h5
  ·exact .inl ⟨h1,b,cs,T,fr,h2,h3,h4.imp id fun ⟨x,y,z⟩=>⟨x,y,hR b z⟩⟩
  ·exact .inr h5
 cases hm:h.m with
 | own =>
  exact ⟨{ S:=hr.S,ob:=hr.ob,rep:=by rw [e3,e4];exact hr.rep,fpe:=by rw [e3];exact hr.fpe,al:=.inl (by rw [e3,hm];rfl),bx:=hbx _ hr.bx }⟩
 | ro =>
  refine ⟨{ S:=hr.S,ob:=hr.ob,rep:=by rw [e3,e4];exact hr.rep,fpe:=by rw [e3];exact hr.fpe,al:=.inr fun b hb=>?_,bx:=hbx _ hr.bx }⟩
  have:=hr.al.resolve_left (by simp [hm,M.isOwn]) b hb
  rw [e3]
  rw [hm] at this ⊢
  exact hR b this
 | tn =>
  cases hf:h.ls.all L.flat with
  | true =>
   have hfp:f=hr.ob:=by have:=hr.fpe;simpa [hm,M.isOwn] using this
   have hrep:=hr.rep
   rw [hm] at hrep
   exact ⟨{ S:=[],ob:=hr.ob,rep:=by rw [e3,e4,hm];exact hrep.flatAny hf w _,fpe:=by rw [e3,hm];simpa [M.isOwn] using hfp,al:=.inr (by simp),bx:=hbx _ hr.bx }⟩
  | false =>
   refine ⟨{ S:=hr.S,ob:=hr.ob,rep:=by rw [e3,e4];exact hr.rep,fpe:=by rw [e3];exact hr.fpe,al:=.inr fun b hb=>?_,bx:=hbx _ hr.bx }⟩
   have:=hr.al.resolve_left (by simp [hm,M.isOwn]) b hb
   rw [e3]
   rw [hm] at this ⊢
   exact this.elim (fun q=>.inl (hR b q)) (hB (by rw [hm];rfl) hf b)
theorem lendV {v:Value} {m:M} {agg:Bool} {ls:List L} {R B Rc Bc:Nat→Prop} {S:List Nat} (h1:RepLs w false v.cells.toList ls S) (h2:isAgg v=agg) (h3:∀ b∈S,Al R B m b) (h4:m.isOwn=true→ls.all L.flat=true) (hR:∀ b,R b→Rc b) (hB:(Arg.v m agg ls).isTn=true→∀ b,B b→Rc b∨Bc b):ArgRep w Rc Bc v [] (.v m agg ls):=by
 cases hf:ls.all L.flat with
 | true=>exact ⟨rfl,[],h1.flatAny hf w _,h2,by simp,fun _=>hf⟩
 | false =>
  refine ⟨rfl,S,h1,h2,fun b hb=>?_,h4⟩
  have:=h3 b hb
  cases m with
  | own=>exact this
  | ro=>exact hR b this
  | tn=>exact this.elim (fun q=>.inl (hR b q)) (hB (by simp [Arg.isTn,M.isTn,hf]) b)
theorem ArgRep.lend {x:Arg} {v:Value} {f:List Nat} {R B Rc Bc:Nat→Prop} (h:ArgRep w R B v f x) (hR:∀ b,R b→Rc b) (hB:x.isTn=true→∀ b,B b→Rc b∨Bc b):ArgRep w Rc Bc v f x:=by
 cases x with
 | v m agg ls =>
  obtain ⟨rfl,S,h1,h2,h3,h4⟩:=h
  exact lendV h1 h2 h3 h4 hR hB
 | own agg ls =>
  obtain ⟨h1,⟨h2⟩⟩:=h
  exact ⟨h1,h2.lend hR (by simp [hcOf,M.isTn]) rfl rfl rfl rfl⟩
 | ptr m ls =>
  obtain ⟨b,h1,⟨h2⟩⟩:=h
  exact ⟨b,h1,h2.lend hR (fun h3 h4=>hB (by simpa [Arg.isTn] using ⟨by simpa [hcOf] using h3,by simpa [hcOf] using h4⟩)) rfl rfl rfl rfl⟩
 | io agg ls =>
  obtain ⟨h1,⟨h2⟩⟩:=h
  exact ⟨h1,h2.lend hR (by simp [hcOf,M.isTn]) rfl rfl rfl rfl⟩
def Stable (C:Cf) (a:Act) (w:World) (s:St) (R:Nat→Prop) (p:Value × AV):Prop :=
 ∀ s' R' loc' fp' F',Inv C s' a w R' loc' fp' F'→s'.V=s.V→(∀ b,R b→R' b)→AVRep w R' C.B s'.H loc' p.1 p.2
theorem Stable.opnd (gk:GlobOk E C) (x:Operand):Stable C a w s R (a.eval x,opnd E s x):=by
 intro s' R' loc' fp' F' I hV hR
 have:=opnd_rep gk I x
 rwa [opnd_V s s' hV x] at this
theorem Stable.v {v:Value} {m:M} {agg:Bool} {ls:List L} (h:AVRep w R C.B s.H loc v (.v m agg ls)):Stable C a w s R (v,.v m agg ls):=by
 intro s' R' loc' fp' F' I hV hR
 obtain ⟨S,h1,h2,h3,h4⟩:=h
 exact ⟨S,h1,h2,fun b hb=>(h3 b hb).mono hR,h4⟩
def Arg.isPtr:Arg→Bool
 | .ptr ..=>true
 | .io ..=>true
 | _=>false
theorem got_ptr (m:M) (agg:Bool) (ls:List L):(gotOf m agg ls).isPtr=false:=by unfold gotOf;split<;>rfl
inductive PreReps (w:World) (R B:Nat→Prop):List (Value × AV)→List Pre→List (List Nat)→Prop
 | nil:PreReps w R B [] [] []
 | got {v x A f xs ps fs}:A.isPtr=false→f.Nodup→ArgRep w R B v f A→PreReps w R B xs ps fs→PreReps w R B ((v,x)::xs) (.got A::ps) (f::fs)
 | raw {v x m xs ps fs}:PreReps w R B xs ps fs→PreReps w R B ((v,x)::xs) (.raw m x::ps) ([]::fs)
theorem got_rep {v:Value} {m:M} {agg:Bool} {ls:List L} {B:Nat→Prop} {S:List Nat} (h1:RepLs w m.isOwn v.cells.toList ls S) (h2:isAgg v=agg) (h3:m.isOwn=true∨∀ b∈S,Al R B m b) :
  ∃ f,ArgRep w R B v f (gotOf m agg ls)∧(∀ b∈f,b∈(if m.isOwn then S else []))∧(S.Nodup→f.Nodup):=by
 unfold gotOf
 cases hm:m.isOwn with
 | false =>
  simp only [Bool.false_and,Bool.false_eq_true,if_false]
  rw [hm] at h1
  exact ⟨[],⟨rfl,S,h1,h2,h3.resolve_left (by simp [hm]),by simp [hm]⟩,by simp,by simp⟩
 | true =>
  rw [hm] at h1
  cases hf:ls.all L.flat with
  | true =>
   simp only [Bool.not_true,Bool.and_false,Bool.false_eq_true,if_false]
   exact ⟨[],⟨rfl,[],h1.flatAny hf w _,h2,by simp,fun _=>hf⟩,by simp,by simp⟩
  | false =>
   simp only [Bool.not_false,Bool.and_true,if_true]
   exact ⟨S,⟨h2,⟨{ S:=S,ob:=[],rep:=h1,fpe:=by simp [hcOf,M.isOwn],al:=.inl rfl,bx:=.inr ⟨rfl,⟨_,rfl⟩,rfl⟩ }⟩⟩,fun b hb=>hb,fun h=>h⟩
theorem move_ok:∀ (xs:List (Value × AV)) (ms:List Mode) (s s0:St) (ps:List Pre) (R:Nat→Prop) (loc:Root→Loc) (fp:Root→List Nat) (F:List Nat),Inv C s a w R loc fp F→(∀ p∈xs,Stable C a w s R p)→moveArgs ms (xs.map (·.2)) s=some (ps,s0) →
  ∃ R' loc' fp' fps,Inv C s0 a w R' loc' fp' (F++fps.flatten)∧s0.V=s.V∧(∀ b,R b→R' b)∧PreReps w R' C.B xs ps fps
 | [],ms,s,s0,ps,R,loc,fp,F,I,hx,h=>by
  simp only [List.map_nil,moveArgs,Option.some.injEq,Prod.mk.injEq] at h
  obtain ⟨rfl,rfl⟩:=h
  exact ⟨R,loc,fp,[],by simpa using I,rfl,fun _ h=>h,.nil⟩
 | (v,x)::xs,ms,s,s0,ps,R,loc,fp,F,I,hx,h=>by
  simp only [List.map_cons,moveArgs] at h
  have step:∀ {s1:St} {R1 loc1 fp1 F1} (I1:Inv C s1 a w R1 loc1 fp1 F1) (hV:s1.V=s.V) (hR:∀ b,R b→R1 b) (q:Pre) (f:List Nat) (hF:∀ b,b∈F∨b∈f→b∈F1) (hnd:(F++f).Nodup)
    (hq:∀ R' fs ps',(∀ b,R1 b→R' b)→PreReps w R' C.B xs ps' fs→PreReps w R' C.B ((v,x)::xs) (q::ps') (f::fs)) (h:(moveArgs ms.tail (xs.map (·.2)) s1).map (fun r=>(q::r.1,r.2))=some (ps,s0)),
    ∃ R' loc' fp' fps,Inv C s0 a w R' loc' fp' (F++fps.flatten)∧s0.V=s.V∧(∀ b,R b→R' b)∧PreReps w R' C.B ((v,x)::xs) ps fps:=by
   intro s1 R1 loc1 fp1 F1 I1 hV hR q f hF hnd hq h
   cases hm:moveArgs ms.tail (xs.map (·.2)) s1 with
   | none=>rw [hm] at h;cases h
   | some r =>
    rw [hm] at h
    simp only [Option.map_some,Option.some.injEq,Prod.mk.injEq] at h
    obtain ⟨rfl,rfl⟩:=h
    have I1':=I1.drop (F++f) (fun b hb=>hF b (List.mem_append.1 hb)) hnd
    obtain ⟨R',loc',fp',fps,J,hV',hR',hp⟩:=move_ok xs ms.tail s1 r.2 r.1 R1 loc1 fp1 (F++f) I1' (fun p hp s' R' loc' fp' F' I' e1 e2=>hx p (List.mem_cons_of_mem _ hp) s' R' loc' fp' F' I' (e1.trans hV) fun b hb=>e2 b (hR b hb)) hm
    exact ⟨R',loc',fp',f::fps,by simpa [List.append_assoc] using J,hV'.trans hV,fun b hb=>hR' b (hR b hb),hq _ _ _ hR' hp⟩
  have hI0:(F++[]).Nodup:=by simpa using I.fnd
  split at h
  ·split at h<;>try (cases h;done)
   rename_i m agg ls s1 he
   obtain ⟨tk⟩:=I.embed (hx (v,x) (by simp) s R loc fp F I rfl fun _ h=>h) he
   obtain ⟨f,hf,hsub,hnd⟩:=got_rep (R:=tk.R') (B:=C.B) tk.rep tk.agg tk.al
   have hn:=List.nodup_append.1 tk.inv.fnd
   have hfn:f.Nodup:=by
    cases hm:m.isOwn with
    | true=>exact hnd (by have:=hn.2.1;rwa [if_pos hm] at this)
    | false =>
     have:f=[]:=List.eq_nil_iff_forall_not_mem.2 fun b hb=>by have:=hsub b hb;simp [hm] at this
     rw [this];simp
   refine step tk.inv tk.hV tk.mono (.got (gotOf m agg ls)) f (fun b hb=>List.mem_append.2 (hb.imp id (hsub b))) ?_ (fun R' fs ps' hR hp=>.got (got_ptr _ _ _) hfn (hf.lend hR fun _ b hb=>.inr hb) hp) h
   exact List.nodup_append.2 ⟨hn.1,hfn,fun b hb c hc=>hn.2.2 b hb c (hsub c hc)⟩
  ·exact step I rfl (fun _ h=>h) _ [] (fun b hb=>by simpa using hb) hI0 (fun R' fs ps' hR hp=>.raw hp) h
end
end Go.Ev


namespace Go.Ev
section
variable {E:Env} {C:Cf} {s:St} {a:Act} {w:World} {R:Nat→Prop} {loc:Root→Loc} {fp:Root→List Nat} {F:List Nat}
theorem Inv.notBlk (I:Inv C s a w R loc fp F) {r:Root} {h:HC} (hh:lookH s.H r=some h) (hr:HRep w R C.B h (loc r) (fp r)) (ho:h.m.isOwn=true) {b:Nat} (hb:b∈hr.S):b∈fp r∧loc r≠.blk b:=by
 have hfp:=hr.fpe
 rw [if_pos ho] at hfp
 have hin:b∈fp r:=by rw [hfp];simp [hb]
 refine ⟨hin,fun e=>?_⟩
 rcases hr.bx with ⟨_,b',cs,T,fr,h2,_,h4⟩ | ⟨_,⟨cs,h2⟩,_⟩
 ·rw [h2] at e;cases e
  rcases h4 with ⟨_,h5⟩ | ⟨_,_,h5⟩
  ·have:=I.nd r h hh
   rw [hfp,h5] at this
   exact (List.nodup_append.1 this).2.2 b (by simp) b hb rfl
  ·exact (I.held r h hh b hin).1 h5
 ·rw [h2] at e;cases e
theorem arg_ok (I:Inv C s a w R loc fp F) {v:Value} {x:AV} (hx:AVRep w R C.B s.H loc v x) {m:Mode} {A:Arg} {bk:List Root} {o:List (Root × Bool)} (h:argOf s (.raw m x)=some (A,bk,o)) (Rc Bc:Nat→Prop) (hR:∀ b,R b→Rc b) (hB:A.isTn=true→∀ b,C.B b→Rc b∨Bc b)
  (hl:∀ r f,(r,f)∈o→∀ b∈fp r,(f=true∨loc r≠.blk b)→Rc b∨Bc b) :
  (bk=[]∧A.isPtr=false∧ArgRep w Rc Bc v [] A)∨∃ r h,bk=[r]∧A.isPtr=true∧lookH s.H r=some h∧h.box=(loc r).isBlk∧h.wr=true∧(∀ as vs,boxesOf (A::as) (v::vs)=loc r::boxesOf as vs)∧ArgRep w Rc Bc v (fp r) A:=by
 unfold argOf at h
 split at h
 ·rename_i heq;cases heq
 ·rename_i m' agg ls heq
  cases heq;cases h
  obtain ⟨S,h1,h2,h3,h4⟩:=hx
  exact .inl ⟨rfl,rfl,lendV h1 h2 h3 h4 hR hB⟩
 ·rename_i heq
  cases heq;cases h
  obtain ⟨a',rfl⟩:=hx
  exact .inl ⟨rfl,rfl,rfl,[],RepLs.single (.sle _ _ _ (by simp)),rfl,by simp,by simp [M.isOwn]⟩
 ·rename_i r k0 k1 off hops n agg heq
  cases heq
  split at h<;>try (cases h;done)
  rename_i hh sub hg
  obtain ⟨hr,ln,hlk,e1,e2⟩:=I.atVal hx hg
  split at h
  ·rename_i ho
   cases h
   left
   refine ⟨rfl,rfl,?_⟩
   have hlent:∀ b∈ln.Sm,Rc b∨Bc b:=fun b hb=>by
    have hbS:b∈hr.S:=by rw [ln.hS];simp [hb]
    obtain ⟨g1,g2⟩:=I.notBlk hlk hr ho hbS
    exact hl r false (by simp) b g1 (.inr g2)
   exact ⟨rfl,ln.Sm,e2 ▸ ln.rep.weak,e1,hlent,by simp [M.isOwn]⟩
  ·rename_i ho
   cases h
   left
   have ho':hh.m.isOwn=false:=by simpa using ho
   have hal:=hr.al.resolve_left (by simp [ho'])
   exact ⟨rfl,rfl,lendV (B:=C.B) (R:=R) (e2 ▸ ln.rep.weak) e1 (fun b hb=>hal b (by rw [ln.hS];simp [hb])) (by simp [ho']) hR hB⟩
 ·rename_i r k0 k1 off hops heq
  cases heq
  split at h<;>try (cases h;done)
  rename_i hh suf hg
  cases h
  have hq:=I.pointed hx hg (Nat.le_refl suf.length)
  rw [List.take_length] at hq
  obtain ⟨q⟩:=hq
  have hrep:=q.ln.rep
  have hin:∀ b,b∈q.hr.S→Rc b∨Bc b:=by
   intro b hb
   rcases q.hr.al with ho | al
   ·exact hl r true (by simp) b (by rw [q.hr.fpe,if_pos ho];simp [hb]) (.inl rfl)
   ·have hBt:∀ b,C.B b→Rc b∨Bc b:=hB (by simp [Arg.isTn,M.isTn,L.flat])
    exact (al b hb).sub.elim (fun q=>.inl (hR b q)) (hBt b)
  have hqb:Rc q.b∨Bc q.b:=by
   cases hops with
   | nil =>
    obtain ⟨g1,_,_⟩:=q.base rfl
    rcases q.hr.bx with ⟨_,b',cs,T,fr,h2,_,h4⟩ | ⟨_,⟨cs,h2⟩,_⟩
    ·rw [g1] at h2;cases h2
     rcases h4 with ⟨_,h5⟩ | ⟨_,_,h5⟩
     ·exact hl r true (by simp) q.b (by rw [q.hr.fpe,h5];simp) (.inl rfl)
     ·exact .inl (hR _ h5)
    ·rw [g1] at h2;cases h2
   | cons h1 hs=>exact hin q.b (by rw [q.ln.hS];simp [(q.deep (by simp)).1])
  left
  have hfin:∀ u,u=v→RepLs w false u.cells.toList [L.ref suf] (q.b::q.ln.Sm)∧isAgg u=false:=by
   intro u hu
   have hu':u=.pointer (some ⟨q.b,q.p,none⟩):=hu.trans q.hv
   rw [hu']
   exact ⟨RepLs.single (.ref q.b q.p q.ds q.T q.fr suf q.ln.Sm q.hb q.hp (by rw [q.hc];exact hrep.weak)),rfl⟩
  refine ⟨rfl,rfl,rfl,q.b::q.ln.Sm,(hfin v rfl).1,(hfin v rfl).2,?_,by simp [M.isOwn]⟩
  ·intro b hb
   rcases List.mem_cons.1 hb with rfl | hb
   ·exact hqb
   ·exact hin b (by rw [q.ln.hS];simp [hb])
 ·rename_i r k0 k1 heq
  cases heq
  split at h<;>try (cases h;done)
  rename_i hh hlk
  split at h<;>cases h
  rename_i hc
  simp only [Bool.and_eq_true] at hc
  obtain ⟨h0,g1,g2,g3,g4⟩:=hx
  rw [hlk] at g1;cases g1
  obtain ⟨b,hlb,hv⟩:=g4 (by simpa [HC.okAd] using hc.1)
  obtain ⟨hr⟩:=I.rep r hh hlk
  refine .inr ⟨r,hh,rfl,rfl,hlk,by rw [hlb];exact hc.1,hc.2,fun as vs=>by rw [hv,hlb];rfl,b,hv,?_⟩
  have:=hr.lend (h':=hcOf true hh.m hh.ls) hR (fun h3 h4=>hB (by simp [Arg.isTn,h3,h4])) (by simp [hcOf,hc.1]) (by simp [hcOf,hc.2]) rfl rfl
  rwa [hlb] at this
 ·rename_i r k0 k1 n agg heq
  cases heq
  split at h<;>try (cases h;done)
  rename_i hh sub hg
  split at h<;>cases h
  rename_i hc
  simp only [Bool.and_eq_true,Bool.not_eq_true',beq_iff_eq] at hc
  obtain ⟨hr,ln,hlk,e1,e2⟩:=I.atVal hx hg
  obtain ⟨hlk2,hok,suf,hp,hle,hsub⟩:=getAt_spec hg
  have hsuf:suf=hh.ls:=by
   simp only [place] at hp
   split at hp<;>simp at hp
   exact hp.symm
  have hs2:sub=hh.ls:=by rw [hsub,hsuf,hc.2,List.take_length]
  have hbx:=hr.bx
  rcases hbx with ⟨hb1,_⟩ | ⟨hb0,⟨cs,hl⟩,hob⟩
  ·rw [hb1] at hc;exact absurd hc.1.1.2 (by simp)
  ·have hcs:v.cells.toList=cs:=by
    obtain ⟨h0,g1,g2,g3,g4⟩:=hx
    rw [hlk] at g1;cases g1
    have:=(g4 hok (by simp [place])).2
    rw [hl] at this
    simp only [Loc.cells,cpl,Option.map_eq_some_iff] at this
    obtain ⟨y,hy,hy2⟩:=this
    have hlen:cs.length=hh.ls.length:=by
     have:=hr.rep.len
     rw [hl] at this
     simpa [Loc.cells] using this
    simp only [List.drop_zero,Option.some.injEq] at hy
    rw [← hy2,← hy,hc.2,← hlen,List.take_length]
   refine .inr ⟨r,hh,rfl,rfl,hlk,by rw [hl];exact hb0,hc.1.2,fun as vs=>by rw [hl,← hcs];rfl,e1,?_⟩
   have hmo:hh.m=.own:=by have:=hc.1.1.1;revert this;cases hh.m<;>simp [M.isOwn]
   have:=hr.lend (h':=hcOf false .own sub) (Rc:=Rc) (Bc:=Bc) hR (fun h3 _=>by rw [hmo] at h3;simp [M.isTn] at h3) (by simp [hcOf,hb0]) (by simp [hcOf,hc.1.2]) (by rw [hmo];rfl) (by simp [hcOf,hs2])
   rw [hl] at this
   rwa [hcs]
 ·cases h
theorem args_ok (I:Inv C s a w R loc fp F):∀ (xs:List (Value × AV)) (ps:List Pre) (fps0:List (List Nat)) (pa:PA),PreReps w R C.B xs ps fps0→(∀ p∈xs,AVRep w R C.B s.H loc p.1 p.2)→argsOf s ps=some pa→pa.backs.Nodup→fps0.flatten.Nodup→(∀ b∈fps0.flatten,b∈F) →
  ∀ (Rc Bc:Nat→Prop),(∀ b,R b→Rc b)→(pa.args.any Arg.isTn=true→∀ b,C.B b→Rc b∨Bc b)→(∀ r f,(r,f)∈pa.bor→∀ b∈fp r,(f=true∨loc r≠.blk b)→Rc b∨Bc b) →
  ∃ fps,ArgsRep w Rc Bc pa.args (xs.map (·.1)) fps∧fps.flatten.Nodup∧(∀ b∈fps.flatten,b∈fps0.flatten∨∃ r∈pa.backs,b∈fp r)∧(∀ r∈pa.backs,∃ h,lookH s.H r=some h∧h.box=(loc r).isBlk∧h.wr=true) ∧
   boxesOf pa.args (xs.map (·.1))=pa.backs.map loc
 | _,_,_,pa,.nil,hx,h,hn,hf,hF,Rc,Bc,hR,hB,hl=>by
  simp only [argsOf,Option.some.injEq] at h
  subst h
  exact ⟨[],.nil,by simp,by simp,by simp,rfl⟩
 | _,_,_,pa,.got (v:=v) (x:=x) (A:=A) (f:=f) (xs:=xs) (ps:=ps) (fs:=fs) hp hfn ha hps,hx,h,hn,hf,hF,Rc,Bc,hR,hB,hl=>by
  simp only [argsOf,argOf] at h
  split at h<;>cases h
  rename_i pa' hpa
  simp only [List.nil_append] at hn hl ⊢
  simp only [List.flatten_cons] at hf hF
  have hf2:=List.nodup_append.1 hf
  obtain ⟨fps,g1,g2,g3,g4,g5⟩:=args_ok I xs ps fs pa' hps (fun p hp=>hx p (List.mem_cons_of_mem _ hp)) hpa hn hf2.2.1 (fun b hb=>hF b (List.mem_append.2 (.inr hb))) Rc Bc hR (fun e=>hB (by simp [e])) hl
  refine ⟨f::fps,.cons (ha.lend hR fun e=>hB (by simp [e])) g1,?_,?_,g4,?_⟩
  ·simp only [List.flatten_cons]
   refine List.nodup_append.2 ⟨hf2.1,g2,fun b hb c hc e=>?_⟩
   subst e
   rcases g3 b hc with q | ⟨r,hr,q⟩
   ·exact hf2.2.2 b hb b q rfl
   ·obtain ⟨h,hlk,_⟩:=g4 r hr
    exact I.fdj r h hlk b (hF b (List.mem_append.2 (.inl hb))) q
  ·intro b hb
   simp only [List.flatten_cons,List.mem_append] at hb ⊢
   rcases hb with hb | hb
   ·exact .inl (.inl hb)
   ·exact (g3 b hb).imp .inr id
  ·cases A<;>first | (simp [Arg.isPtr] at hp;done) | exact g5
 | _,_,_,pa,.raw (v:=v) (x:=x) (m:=m) (xs:=xs) (ps:=ps) (fs:=fs) hps,hx,h,hn,hf,hF,Rc,Bc,hR,hB,hl=>by
  simp only [argsOf] at h
  split at h<;>try (cases h;done)
  rename_i A bk o ho
  split at h<;>cases h
  rename_i pa' hpa
  simp only at hn hl hB
  simp only [List.flatten_cons,List.nil_append] at hf hF
  have hn2:=List.nodup_append.1 hn
  obtain ⟨fps,g1,g2,g3,g4,g5⟩:=args_ok I xs ps fs pa' hps (fun p hp=>hx p (List.mem_cons_of_mem _ hp)) hpa hn2.2.1 hf hF Rc Bc hR (fun e=>hB (by simp [e])) (fun r f hrf=>hl r f (List.mem_append.2 (.inr hrf)))
  rcases arg_ok I (hx (v,x) (by simp)) ho Rc Bc hR (fun e=>hB (by simp [e])) (fun r f hrf=>hl r f (List.mem_append.2 (.inl hrf))) with ⟨rfl,hA,hrep⟩ | ⟨r,h,rfl,hA,hlk,hbx,hwr,hlb,hrep⟩
  ·refine ⟨[]::fps,.cons hrep g1,by simpa using g2,?_,g4,?_⟩
   ·intro b hb
    simp only [List.flatten_cons,List.nil_append] at hb ⊢
    exact g3 b hb
   ·cases A<;>first | (simp [Arg.isPtr] at hA;done) | exact g5
  ·refine ⟨fp r::fps,.cons hrep g1,?_,?_,?_,?_⟩
   ·simp only [List.flatten_cons]
    refine List.nodup_append.2 ⟨I.nd r h hlk,g2,fun c hc d hd e=>?_⟩
    subst e
    rcases g3 c hd with q | ⟨r',hr',q⟩
    ·exact I.fdj r h hlk c (hF c q) hc
    ·obtain ⟨h',hlk',_⟩:=g4 r' hr'
     exact I.dj r h r' h' hlk hlk' (fun e=>hn2.2.2 r (by simp) r' hr' e) c hc q
   ·intro c hc
    simp only [List.flatten_cons,List.mem_append,List.nil_append] at hc ⊢
    rcases hc with hc | hc
    ·exact .inr ⟨r,by simp,hc⟩
    ·exact (g3 c hc).imp id fun ⟨r',q1,q2⟩=>⟨r',by simp [q1],q2⟩
   ·intro r' hr'
    simp only [List.cons_append,List.nil_append,List.mem_cons] at hr'
    rcases hr' with rfl | hr'
    ·exact ⟨h,hlk,hbx,hwr⟩
    ·exact g4 r' hr'
   ·show boxesOf (A::pa'.args) (v::xs.map (·.1))=loc r::pa'.backs.map loc
    rw [hlb,g5]
end
end Go.Ev


namespace Go.Ev
section
variable {E:Env} {C:Cf} {s:St} {a:Act} {w:World} {R:Nat→Prop} {loc:Root→Loc} {fp:Root→List Nat} {F:List Nat}
theorem bor_in:∀ (ps:List Pre) (pa:PA),argsOf s ps=some pa→∀ r f,(r,f)∈pa.bor→∃ h,lookH s.H r=some h
  | [],pa,h,r,f,hr=>by
    simp only [argsOf,Option.some.injEq] at h
    subst h
    simp at hr
  | p::ps,pa,h,r,f,hr=>by
    simp only [argsOf] at h
    split at h<;>try (cases h;done)
    rename_i A bk o ho
    split at h<;>cases h
    rename_i pa' hpa
    have hr':(r,f)∈o∨(r,f)∈pa'.bor:=List.mem_append.1 hr
    clear hr
    rcases hr' with hr | hr
    · unfold argOf at ho
      split at ho
      · cases ho;simp at hr
      · cases ho;simp at hr
      · cases ho;simp at hr
      · split at ho<;>try (cases ho;done)
        rename_i hg
        split at ho
        · cases ho
          simp only [List.mem_singleton,Prod.mk.injEq] at hr
          obtain ⟨rfl,_⟩:=hr
          exact ⟨_,(getAt_spec hg).1⟩
        · cases ho;simp at hr
      · split at ho<;>try (cases ho;done)
        rename_i hg
        cases ho
        simp only [List.mem_singleton,Prod.mk.injEq] at hr
        obtain ⟨rfl,_⟩:=hr
        exact ⟨_,(getAd_spec hg).1⟩
      · split at ho<;>try (cases ho;done)
        split at ho<;>cases ho
        simp at hr
      · split at ho<;>try (cases ho;done)
        split at ho<;>cases ho
        simp at hr
      · cases ho
    · exact bor_in ps pa' hpa r f hr
theorem Inv.freezeRoot (I:Inv C s a w R loc fp F) {r:Root} {h:HC} (hh:lookH s.H r=some h) (isRef:Bool) :
    ∃ R' fp',Inv C (s.putH r { h with m:=h.m.fz,wr:=h.wr&&!isRef }) a w R' loc fp' F∧(∀ b,R b→R' b)∧(∀ b,R' b→R b∨b∈fp r)∧(∀ b∈fp r,(isRef=true∨loc r≠.blk b)→R' b)∧(∀ q,q≠r→fp' q=fp q)∧(∀ b∈fp' r,b∈fp r)∧(∀ q,∀ b∈fp q,b∈fp' q∨R' b):=by
  obtain ⟨hr⟩:=I.rep r h hh
  have hup:upd loc r (loc r)=loc:=by funext q;unfold upd;split<;>simp_all
  let R1:Nat→Prop:=fun b=>R b∨(b∈fp r∧(isRef=true∨loc r≠.blk b))
  have hob:∀ b∈hr.ob,b∈fp r∧loc r=.blk b∧h.wr=true:=by
    intro b hb
    refine ⟨by rw [hr.fpe];simp [hb],?_⟩
    rcases hr.bx with ⟨_,b',cs,T,fr,h2,_,h4⟩ | ⟨_,_,h3⟩
    · rcases h4 with ⟨h6,h5⟩ | ⟨_,h5,_⟩
      · rw [h5] at hb;simp at hb;subst hb;exact ⟨h2,h6⟩
      · rw [h5] at hb;simp at hb
    · rw [h3] at hb;simp at hb
  have hnf:(h.m.fz).isOwn=false:=by cases h.m<;>rfl
  have J:=I.root r { h with m:=h.m.fz,wr:=h.wr&&!isRef } (loc r) (if isRef then [] else hr.ob) (w':=w) (R':=R1) (F':=F) (fun b=>b∈F∨b∈fp r) (fun b hb=>hb.imp id fun q=>⟨⟨h,hh⟩,q⟩) ⟨rfl,rfl,rfl,Nat.le_refl _,fun _ _ _=>rfl⟩ (fun b hb=>.inl hb) (fun b hb=>hb.imp id fun q=>.inl (.inr q.1))
    ⟨{ S:=hr.S,ob:=if isRef then [] else hr.ob,rep:=by
        show RepLs w (h.m.fz).isOwn _ _ _
        rw [hnf];exact hr.rep.weak
       fpe:=by
        show _=_++(if (h.m.fz).isOwn then hr.S else [])
        rw [hnf];simp
       al:=.inr fun b hb=>by
        show Al R1 C.B h.m.fz b
        cases hm:h.m with
        | own =>
          obtain ⟨g1,g2⟩:=I.notBlk hh hr (by rw [hm];rfl) hb
          exact Or.inr ⟨g1,.inr g2⟩
        | ro =>
          have:=hr.al.resolve_left (by simp [hm,M.isOwn]) b hb
          rw [hm] at this
          exact Or.inl this
        | tn =>
          have:=hr.al.resolve_left (by simp [hm,M.isOwn]) b hb
          rw [hm] at this
          exact this.imp .inl id
       bx:=by
        rcases hr.bx with ⟨h1,b,cs,T,fr,h2,h3,h4⟩ | ⟨h1,h2,h3⟩
        · left
          refine ⟨h1,b,cs,T,fr,h2,h3,?_⟩
          rcases h4 with ⟨h5,h6⟩ | ⟨h5,h6,h7⟩
          · cases isRef with
            | false=>left;exact ⟨by simp [h5],by simpa using h6⟩
            | true =>
              right
              refine ⟨by simp,by simp,.inr ⟨(hob b (by rw [h6];simp)).1,.inl rfl⟩⟩
          · right
            exact ⟨by simp [h5],by simp [h6],.inl h7⟩
        · right
          exact ⟨h1,h2,by simp [h3]⟩ }⟩
    (fun b hb=>?_) ?_ (fun _ _ _=>.inr trivial) (fun y u hy hu=>alias_freeze hu hy hh (by simp) rfl rfl rfl rfl rfl) (I.plKeep hh rfl)
  · rw [hup] at J
    refine ⟨R1,_,J,fun b hb=>.inl hb,fun b hb=>hb.imp id fun q=>q.1,fun b hb hc=>.inr ⟨hb,hc⟩,fun q hq=>upd_ne _ _ hq,fun b hb=>?_,fun q b hb=>?_⟩
    · rw [upd_same] at hb
      cases isRef with
      | true=>simp at hb
      | false=>exact (hob b (by simpa using hb)).1
    · by_cases e:q=r
      · subst e
        rw [upd_same]
        cases isRef with
        | true=>exact .inr (.inr ⟨hb,.inl rfl⟩)
        | false =>
          by_cases hbl:loc q=.blk b
          · left
            simp only [Bool.false_eq_true,if_false]
            rcases hr.bx with ⟨_,b',cs,T,fr,h2,_,h4⟩ | ⟨_,⟨cs,h2⟩,_⟩
            · rw [h2] at hbl;cases hbl
              rcases h4 with ⟨_,h5⟩ | ⟨_,_,h5⟩
              · rw [h5];simp
              · exact absurd h5 (I.held q h hh b hb).1
            · rw [h2] at hbl;cases hbl
          · exact .inr (.inr ⟨hb,.inr hbl⟩)
      · rw [upd_ne _ _ e];exact .inl hb
  · rcases List.mem_append.1 hb with hb | hb
    · cases isRef with
      | true=>simp at hb
      | false =>
        simp only [Bool.false_eq_true,if_false] at hb
        obtain ⟨g1,g2,_⟩:=hob b hb
        have hx:=I.held r h hh b g1
        refine ⟨.inl (.inr g1),?_,hx.2.2.1⟩
        rintro (q | ⟨_,q | q⟩)
        · exact hx.1 q
        · cases q
        · exact q g2
    · have hx:=I.fheld b hb
      refine ⟨.inl (.inl hb),?_,hx.2.2.1⟩
      rintro (q | ⟨q,_⟩)
      · exact hx.1 q
      · exact I.fdj r h hh b hb q
  · refine List.nodup_append.2 ⟨?_,I.fnd,fun b hb c hc e=>?_⟩
    · cases isRef with
      | true=>simp
      | false =>
        have:=I.nd r h hh
        rw [hr.fpe] at this
        exact (List.nodup_append.1 this).1
    · subst e
      cases isRef with
      | true=>simp at hb
      | false=>exact I.fdj r h hh b hc (hob b (by simpa using hb)).1
theorem freezeAll_ok:∀ (bor:List (Root × Bool)) (s:St) (R:Nat→Prop) (fp:Root→List Nat),Inv C s a w R loc fp F→(∀ r f,(r,f)∈bor→∃ h,lookH s.H r=some h) →
    ∃ R' fp',Inv C (freezeAll bor s) a w R' loc fp' F∧(freezeAll bor s).V=s.V∧(∀ b,R b→R' b)∧(∀ r f,(r,f)∈bor→∀ b∈fp r,(f=true∨loc r≠.blk b)→R' b)∧(∀ q,(∀ f,(q,f) ∉ bor)→fp' q=fp q∧lookH (freezeAll bor s).H q=lookH s.H q)
  | [],s,R,fp,I,_=>⟨R,fp,I,rfl,fun _ h=>h,by simp,fun q _=>⟨rfl,rfl⟩⟩
  | (r,isRef)::rest,s,R,fp,I,hin=>by
    obtain ⟨h,hh⟩:=hin r isRef (by simp)
    obtain ⟨R1,fp1,J,g1,g2,g3,g4,g5,g6⟩:=I.freezeRoot hh isRef
    obtain ⟨R2,fp2,K,k1,k2,k3,k4⟩:=freezeAll_ok rest _ R1 fp1 J (fun q f hq=>by
      obtain ⟨h',hh'⟩:=hin q f (by simp [hq])
      rw [lookH_put]
      by_cases e:r=q
      · rw [if_pos e];exact ⟨_,rfl⟩
      · rw [if_neg e];exact ⟨h',hh'⟩)
    have hfa:freezeAll ((r,isRef)::rest) s=freezeAll rest (s.putH r { h with m:=h.m.fz,wr:=h.wr&&!isRef }):=by simp only [freezeAll,hh]
    rw [hfa]
    refine ⟨R2,fp2,K,k1,fun b hb=>k2 b (g1 b hb),fun q f hq b hb hc=>?_,fun q hq=>?_⟩
    · rcases List.mem_cons.1 hq with e | hq
      · cases e
        exact k2 b (g3 b hb hc)
      · rcases g6 q b hb with hb' | hb'
        · exact k3 q f hq b hb' hc
        · exact k2 b hb'
    · have hne:q≠r:=fun e=>hq isRef (by rw [e];simp)
      obtain ⟨e1,e2⟩:=k4 q fun f hf=>hq f (by simp [hf])
      refine ⟨e1.trans (g4 q hne),e2.trans ?_⟩
      rw [lookH_put,if_neg fun e=>hne e.symm]
theorem alias_turn {w w':World} {R R' B:Nat→Prop} {H H':List (Root × HC)} {loc loc':Root→Loc} {r:Root} {h h':HC} {y:AV} {u:Value} (hy:AVRep1 w R B H loc u y) (hr:r∈root1 y) (hh:lookH H r=some h) (hh':lookH H' r=some h')
    (hl:loc' r=loc r) (hbox:h'.box=h.box) (he0:h'.e0=h.e0+1) (he1:h.e1≤h'.e1) (hz:h'.lz=none):AVRep1 w' R' B H' loc' u y:=by
  cases y with
  | dead=>trivial
  | nil=>exact hy
  | v m agg ls=>simp [root1] at hr
  | tup xs=>exact hy.elim
  | «at» q k0 k1 off hops n agg =>
    simp only [root1,List.mem_singleton] at hr
    subst hr
    obtain ⟨h0,g1,g2,g3,g4⟩:=hy
    rw [hh] at g1
    cases g1
    refine ⟨h',hh',by omega,by omega,fun ok pl=>?_⟩
    have hno:h'.okAt off n hops k0 k1=false:=by cases hops<;>simp [HC.okAt,HC.keeps,hz]<;>omega
    rw [hno] at ok;cases ok
  | ad q k0 k1 off hops =>
    simp only [root1,List.mem_singleton] at hr
    subst hr
    obtain ⟨h0,g1,g2,g3,g4⟩:=hy
    rw [hh] at g1
    cases g1
    refine ⟨h',hh',by omega,by omega,fun ok=>?_⟩
    cases hops with
    | nil =>
      simp only [HC.okAd] at ok
      obtain ⟨b,e1,e2⟩:=g4 (by simp only [HC.okAd];rw [← hbox];exact ok)
      exact ⟨b,hl.trans e1,e2⟩
    | cons h1 hs =>
      have hno:h'.okAd off (h1::hs) k0 k1=false:=by cases hs<;>simp [HC.okAd,HC.keeps,hz]<;>omega
      rw [hno] at ok;cases ok
  | win q k0 k1 off lo n =>
    simp only [root1,List.mem_singleton] at hr
    subst hr
    obtain ⟨h0,g1,g2,g3,g4⟩:=hy
    rw [hh] at g1
    cases g1
    exact ⟨h',hh',by omega,by omega,fun ok=>by omega⟩
theorem alias_io {w w':World} {R R' B:Nat→Prop} {s:St} {H':List (Root × HC)} {loc loc':Root→Loc} {r:Root} {h h':HC} {y:AV} {u:Value} {cs:List Value} (hy:AVRep1 w R B s.H loc u y) (hr:r∈root1 y) (hh:lookH s.H r=some h) (hh':lookH H' r=some h')
    (hl:loc' r=loc r) (hbox:h'.box=h.box) (hlen:h'.ls.length=h.ls.length) (he0:h'.e0=h.e0) (he1:h'.e1=h.e1+1) (hz:h'.lz=none) (hv:loc r=.vals cs):AVRep1 w' R' B H' loc' u y:=by
  cases y with
  | dead=>trivial
  | nil=>exact hy
  | v m agg ls=>simp [root1] at hr
  | tup xs=>exact hy.elim
  | «at» q k0 k1 off hops n agg =>
    simp only [root1,List.mem_singleton] at hr
    subst hr
    obtain ⟨h0,g1,g2,g3,g4⟩:=hy
    rw [hh] at g1
    cases g1
    refine ⟨h',hh',by omega,by omega,fun ok pl=>?_⟩
    cases hops with
    | nil =>
      simp only [HC.okAt,HC.keeps,hz,Bool.and_false,Bool.or_false,beq_iff_eq] at ok
      have:=g4 (by simp [HC.okAt];omega) (by
        simp only [place] at pl ⊢
        split at pl<;>simp at pl
        rw [if_pos (by omega)];rfl)
      rw [hl,hv]
      rw [hv] at this
      exact this
    | cons h1 hs =>
      simp only [HC.okAt,Bool.and_eq_true,beq_iff_eq] at ok
      omega
  | ad q k0 k1 off hops =>
    simp only [root1,List.mem_singleton] at hr
    subst hr
    obtain ⟨h0,g1,g2,g3,g4⟩:=hy
    rw [hh] at g1
    cases g1
    refine ⟨h',hh',by omega,by omega,fun ok=>?_⟩
    match hops,g4,ok with
    | [],g4,ok =>
      obtain ⟨b,e1,e2⟩:=g4 (by simp only [HC.okAd] at ok ⊢;rw [← hbox];exact ok)
      rw [hv] at e1;cases e1
    | [h1],g4,ok =>
      simp only [HC.okAd,HC.keeps,hz,Bool.and_false,Bool.or_false,beq_iff_eq] at ok
      obtain ⟨a,ha,hva⟩:=g4 (by simp [HC.okAd];omega)
      rw [hv] at ha
      exact ⟨a,by rw [hl,hv];exact (cad_one w' w _ _ _).trans ha,hva⟩
    | h1::h2::hs,g4,ok =>
      simp only [HC.okAd,Bool.and_eq_true,beq_iff_eq] at ok
      omega
  | win q k0 k1 off lo n =>
    simp only [root1,List.mem_singleton] at hr
    subst hr
    obtain ⟨h0,g1,g2,g3,g4⟩:=hy
    rw [hh] at g1
    cases g1
    refine ⟨h',hh',by omega,by omega,fun ok=>?_⟩
    obtain ⟨a,cap,ha,hva⟩:=g4 (by omega)
    rw [hv] at ha
    exact ⟨a,cap,by rw [hl,hv];exact (cad_one w' w _ _ _).trans ha,hva⟩
theorem give_spec {w':World} {R' B:Nat→Prop}:∀ (bs:List Root) (os:List (M × List L)) (s s1:St) (fp:Root→List Nat) (ofps:List (List Nat)),giveBack bs os s=some s1→bs.Nodup→OutsRep w' R' B os (bs.map loc) ofps→ofps.flatten.Nodup →
    ∃ fp':Root→List Nat,(s1.V=s.V∧s1.ps=s.ps)∧(∀ r,r ∉ bs→fp' r=fp r∧lookH s1.H r=lookH s.H r) ∧
      (∀ r∈bs,∃ h m ls,lookH s.H r=some h∧lookH s1.H r=some { h with m,ls,e0:=if h.box then h.e0+1 else h.e0,e1:=h.e1+1,lz:=none }∧ls.length=h.ls.length∧Nonempty (HRep w' R' B (hcOf (loc r).isBlk m ls) (loc r) (fp' r))∧(∀ b∈fp' r,b∈ofps.flatten)∧(fp' r).Nodup∧∀ r'∈bs,r'≠r→∀ b∈fp' r,b ∉ fp' r')
  | [],[],s,s1,fp,_,h,hn,.nil,ho=>by
    simp only [giveBack,Option.some.injEq] at h
    subst h
    exact ⟨fp,⟨rfl,rfl⟩,fun _ _=>⟨rfl,rfl⟩,by simp⟩
  | r::bs,(m,ls)::os,s,s1,fp,_,h,hn,.cons (fp:=f) (fps:=fs) h1 h2,ho=>by
    simp only [giveBack] at h
    split at h<;>try (cases h;done)
    rename_i h0 hh
    split at h<;>try (cases h;done)
    rename_i hlen
    have hn2:=List.nodup_cons.1 hn
    simp only [List.flatten_cons] at ho
    have ho2:=List.nodup_append.1 ho
    obtain ⟨fp',g1,g2,g3⟩:=give_spec bs os _ s1 (upd fp r f) fs h hn2.2 h2 ho2.2.1
    have hfr:fp' r=f:=(g2 r hn2.1).1.trans (upd_same _ _ _)
    refine ⟨fp',g1,fun q hq=>?_,fun q hq=>?_⟩
    · simp only [List.mem_cons,not_or] at hq
      obtain ⟨e1,e2⟩:=g2 q hq.2
      exact ⟨e1.trans (upd_ne _ _ hq.1),e2.trans (by rw [lookH_put,if_neg fun e=>hq.1 e.symm])⟩
    · rcases List.mem_cons.1 hq with rfl | hq
      · refine ⟨h0,m,ls,hh,(g2 q hn2.1).2.trans (by rw [lookH_put,if_pos rfl]),hlen,hfr ▸ h1,fun b hb=>?_,hfr ▸ ho2.1,fun r' hr' hne b hb=>?_⟩
        · rw [hfr] at hb
          simp [hb]
        · rcases List.mem_cons.1 hr' with e | hr'
          · exact absurd e hne
          · obtain ⟨_,_,_,_,_,_,_,q4,_⟩:=g3 r' hr'
            rw [hfr] at hb
            exact fun hb'=>ho2.2.2 b hb b (q4 b hb') rfl
      · have hne:q≠r:=fun e=>hn2.1 (e ▸ hq)
        obtain ⟨h',m',ls',q1,q2,q2',q3,q4,q5,q6⟩:=g3 q hq
        rw [lookH_put,if_neg fun e=>hne e.symm] at q1
        refine ⟨h',m',ls',q1,q2,q2',q3,fun b hb=>by simp only [List.flatten_cons,List.mem_append];exact .inr (q4 b hb),q5,fun r' hr' hner b hb=>?_⟩
        rcases List.mem_cons.1 hr' with rfl | hr'
        · rw [hfr]
          exact fun hb'=>ho2.2.2 b hb' b (q4 b hb) rfl
        · exact q6 r' hr' hner b hb
theorem back_ok {w':World} {R' G:Nat→Prop} {bs:List Root} {os:List (M × List L)} {ofps:List (List Nat)} {F':List Nat} {s1:St} (I:Inv C s a w R loc fp F) (hb:∀ r∈bs,∃ h,lookH s.H r=some h∧h.box=(loc r).isBlk∧h.wr=true) (hn:bs.Nodup)
    (kp:Kp w w' G) (hG:∀ b,G b→b∈F∨∃ r∈bs,b∈fp r) (mono:∀ b,R b→R' b) (new:∀ b,R' b→R b∨w.heap.size≤b∨G b) (lt:∀ b,R' b→b<w'.heap.size)
    (outs:OutsRep w' R' C.B os (bs.map loc) ofps) (held:∀ b∈F'++ofps.flatten,¬ R' b∧¬ C.B b∧Free w' b∧(w.heap.size≤b∨G b)) (nd:(F'++ofps.flatten).Nodup) (h:giveBack bs os s=some s1) :
    ∃ fp',Inv C s1 a w' R' loc fp' F'∧s1.V=s.V:=by
  have nd2:=List.nodup_append.1 nd
  obtain ⟨fp',g1,g2,g3⟩:=give_spec bs os s s1 fp ofps h hn outs nd2.2.1
  have hGh:∀ b,G b→Held C w R b:=fun b hg=>(hG b hg).elim (I.fheld b) fun ⟨r,hr,q⟩=>by
    obtain ⟨h,hh,_⟩:=hb r hr
    exact I.held r h hh b q
  have hsame:∀ b,b<w.heap.size→¬ G b→Same w w' b:=fun b hb hg=>kp.block b hb hg
  have hRB:∀ b,R b∨C.B b→Same w w' b:=fun b hb=>hsame b (I.rlt b hb) fun hg=>hb.elim (hGh b hg).1 (hGh b hg).2.1
  have hoth:∀ r h,lookH s.H r=some h→r ∉ bs→∀ b∈fp r,b<w.heap.size∧¬ G b:=by
    intro r h hh hr b hbb
    refine ⟨(I.held r h hh b hbb).2.2.1.lt,fun hg=>?_⟩
    rcases hG b hg with q | ⟨r',hr',q⟩
    · exact I.fdj r h hh b q hbb
    · obtain ⟨h',hh',_⟩:=hb r' hr'
      exact I.dj r h r' h' hh hh' (fun e=>hr (e ▸ hr')) b hbb q
  have hnew:∀ b∈F'++ofps.flatten,Held C w' R' b:=fun b hbb=>by
    obtain ⟨q1,q2,q3,q4⟩:=held b hbb
    exact ⟨q1,q2,q3,q4.elim (fun q=>.inl (Nat.le_trans I.kp.size q)) fun q=>(hGh b q).2.2.2⟩
  have hfresh:∀ b∈F'++ofps.flatten,w.heap.size≤b∨G b:=fun b hbb=>(held b hbb).2.2.2
  have hcls:∀ r h',lookH s1.H r=some h'→(r ∉ bs∧lookH s.H r=some h'∧fp' r=fp r)∨r∈bs:=by
    intro r h' hr
    by_cases e:r∈bs
    · exact .inr e
    · obtain ⟨e1,e2⟩:=g2 r e
      exact .inl ⟨e,e2 ▸ hr,e1⟩
  have hsepO:∀ r h,lookH s.H r=some h→r ∉ bs→∀ b∈fp r,b ∉ F'++ofps.flatten:=fun r h hh hr b hbb hc=>by
    obtain ⟨q1,q2⟩:=hoth r h hh hr b hbb
    rcases hfresh b hc with q | q
    · omega
    · exact q2 q
  refine ⟨fp',?_,g1.1⟩
  exact
    { kp:=⟨kp.os.trans I.kp.os,kp.tape.trans I.kp.tape,kp.output.trans I.kp.output,Nat.le_trans I.kp.size kp.size,fun k hk hg=>(hsame k (by have:=I.kp.size;omega) (fun q=>by
        rcases (hGh k q).2.2.2 with q | q
        · omega
        · exact hg q)).trans (I.kp.block k hk hg)⟩
      r0:=fun b hb=>mono b (I.r0 b hb)
      rnew:=fun b hb=>by
        rcases new b hb with q | q | q
        · exact I.rnew b q
        · exact .inr (.inl (Nat.le_trans I.kp.size q))
        · exact .inr (hGh b q).2.2.2
      rlt:=fun b hb=>hb.elim (lt b) fun q=>Nat.lt_of_lt_of_le (I.rlt b (.inr q)) kp.size
      rep:=fun r h' hr=>by
        rcases hcls r h' hr with ⟨e,e1,e2⟩ | e
        · obtain ⟨x⟩:=I.rep r h' e1
          rw [e2]
          exact (x.frame mono fun b hb=>hb.elim (fun q=>hsame b (hoth r h' e1 e b q).1 (hoth r h' e1 e b q).2) (hRB b)).1
        · obtain ⟨h0,m,ls,q1,q2,_,⟨q3⟩,_⟩:=g3 r e
          obtain ⟨h1,p1,p2,p3⟩:=hb r e
          rw [q1] at p1;cases p1
          rw [q2] at hr;cases hr
          exact q3.lend (fun _ h=>h) (fun _ _ _ h=>.inr h) (by simp [hcOf,p2]) (by simp [hcOf,p3]) rfl rfl
      held:=fun r h' hr b hbb=>by
        rcases hcls r h' hr with ⟨e,e1,e2⟩ | e
        · rw [e2] at hbb
          obtain ⟨q1,q2⟩:=hoth r h' e1 e b hbb
          obtain ⟨p1,p2,p3,p4⟩:=I.held r h' e1 b hbb
          refine ⟨fun q=>?_,p2,p3.same (hsame b q1 q2),p4⟩
          rcases new b q with q | q | q
          · exact p1 q
          · omega
          · exact q2 q
        · obtain ⟨_,_,_,_,_,_,_,q4,_⟩:=g3 r e
          exact hnew b (List.mem_append.2 (.inr (q4 b hbb)))
      nd:=fun r h' hr=>by
        rcases hcls r h' hr with ⟨e,e1,e2⟩ | e
        · rw [e2];exact I.nd r h' e1
        · obtain ⟨_,_,_,_,_,_,_,_,q5,_⟩:=g3 r e
          exact q5
      dj:=fun r h' r' h'' hr hr' hne b hbb hbb'=>by
        rcases hcls r h' hr with ⟨e,e1,e2⟩ | e<;>rcases hcls r' h'' hr' with ⟨e',e1',e2'⟩ | e'
        · rw [e2] at hbb;rw [e2'] at hbb'
          exact I.dj r h' r' h'' e1 e1' hne b hbb hbb'
        · rw [e2] at hbb
          obtain ⟨_,_,_,_,_,_,_,q4,_⟩:=g3 r' e'
          exact hsepO r h' e1 e b hbb (List.mem_append.2 (.inr (q4 b hbb')))
        · rw [e2'] at hbb'
          obtain ⟨_,_,_,_,_,_,_,q4,_⟩:=g3 r e
          exact hsepO r' h'' e1' e' b hbb' (List.mem_append.2 (.inr (q4 b hbb)))
        · obtain ⟨_,_,_,_,_,_,_,_,_,q6⟩:=g3 r e
          exact q6 r' e' (fun x=>hne x.symm) b hbb hbb'
      fheld:=fun b hbb=>hnew b (List.mem_append.2 (.inl hbb))
      fnd:=nd2.1
      fdj:=fun r h' hr b hbb hbb'=>by
        rcases hcls r h' hr with ⟨e,e1,e2⟩ | e
        · rw [e2] at hbb'
          exact hsepO r h' e1 e b hbb' (List.mem_append.2 (.inl hbb))
        · obtain ⟨_,_,_,_,_,_,_,q4,_⟩:=g3 r e
          exact nd2.2.2 b hbb b (q4 b hbb') rfl
      av:=fun t=>by
        rw [g1.1]
        refine AVRep.frame (I.av t) I.rep mono hRB (fun r=>r∈bs) (fun r h hr hnb=>⟨?_,rfl,fun b hbb=>hsame b (hoth r h hr hnb b hbb).1 (hoth r h hr hnb b hbb).2⟩) fun r y u hbr hr hy=>?_
        · rw [(g2 r hnb).2];exact hr
        · obtain ⟨h0,m,ls,q1,q2,qlen,_⟩:=g3 r hbr
          obtain ⟨h1,p1,p2,p3⟩:=hb r hbr
          rw [q1] at p1;cases p1
          cases hbx:h0.box with
          | true =>
            rw [hbx] at q2
            exact alias_turn hy hr q1 q2 rfl (by simp [hbx]) (by simp) (by simp) rfl
          | false =>
            rw [hbx] at q2
            have hvals:∃ cs,loc r=.vals cs:=by
              rw [hbx] at p2
              cases hl:loc r with
              | blk b=>rw [hl] at p2;simp [Loc.isBlk] at p2
              | vals cs=>exact ⟨cs,rfl⟩
            obtain ⟨cs,hl⟩:=hvals
            exact alias_io hy hr q1 q2 rfl (by simp [hbx]) qlen rfl (by simp) rfl hl
      df:=I.df,sz:=I.sz
      pl:=fun i b hp=>by
        obtain ⟨e1,e2,h0,e3,e4⟩:=I.pl i b hp
        refine ⟨e1,by rw [g1.2];exact e2,?_⟩
        by_cases e:Root.p i∈bs
        · obtain ⟨h1,m,ls,q1,q2,_⟩:=g3 _ e
          rw [e3] at q1;cases q1
          exact ⟨_,q2,e4⟩
        · exact ⟨h0,by rw [(g2 _ e).2];exact e3,e4⟩ }
end
end Go.Ev


namespace Go.Ev
section
variable {E:Env} {C:Cf} {s:St} {a:Act} {w:World} {R:Nat→Prop} {loc:Root→Loc} {fp:Root→List Nat} {F:List Nat}
theorem HRep.clean {R Bc B':Nat→Prop} {m:M} {ls:List L} {l:Loc} {f:List Nat} {box:Bool} (t:Bool) (hr:HRep w R Bc (hcOf box m ls) l f) (h1:t=true→∀ b,Bc b→B' b) (h2:t=false→(m.isTn&&!ls.all L.flat)=false∨∀ b,¬ Bc b) :
  Nonempty (HRep w R B' (hcOf box (if m.isTn&&!t then .ro else m) ls) l f):=by
 cases m with
 | own=>exact hr.lend (fun _ h=>h) (by simp [hcOf,M.isTn]) rfl rfl (by simp [hcOf,M.isTn]) rfl
 | ro=>exact hr.lend (fun _ h=>h) (by simp [hcOf,M.isTn]) rfl rfl (by simp [hcOf,M.isTn]) rfl
 | tn =>
  have hfp:f=hr.ob:=by have:=hr.fpe;simpa [hcOf,M.isOwn] using this
  cases t with
  | true=>exact hr.lend (fun _ h=>h) (fun _ _ b hb=>.inr (h1 rfl b hb)) rfl rfl (by simp [hcOf,M.isTn]) rfl
  | false =>
   simp only [M.isTn,Bool.not_false,Bool.and_self,if_true]
   have hbx:boxRep w R (hcOf box .ro ls) l hr.ob:=hr.bx
   rcases h2 rfl with h | h
   ·have hf:ls.all L.flat=true:=by simpa [M.isTn] using h
    have hrep:=hr.rep
    exact ⟨{ S:=[],ob:=hr.ob,rep:=hrep.flatAny hf w _,fpe:=by simpa [hcOf,M.isOwn] using hfp,al:=.inr (by simp),bx:=hbx }⟩
   ·exact ⟨{ S:=hr.S,ob:=hr.ob,rep:=hr.rep,fpe:=by simpa [hcOf,M.isOwn] using hfp,al:=.inr fun b hb=>(hr.al.resolve_left (by simp [hcOf,M.isOwn]) b hb).elim id fun q=>absurd q (h b),bx:=hbx }⟩
theorem RVRep.clean {R Bc B':Nat→Prop} {v:Value} {f:List Nat} {x:RV} (t:Bool) (h:RVRep w R Bc v f x) (h1:t=true→∀ b,Bc b→B' b) (h2:t=false→x.tainted=false∨∀ b,¬ Bc b):RVRep w R B' v f (x.clean t):=by
 cases x with
 | ptr m ls =>
  obtain ⟨b,e,⟨hr⟩⟩:=h
  exact ⟨b,e,hr.clean t h1 h2⟩
 | v m agg ls =>
  obtain ⟨e,S,g1,g2,g3⟩:=h
  refine ⟨e,?_⟩
  cases m with
  | own=>exact ⟨S,by simpa [M.isTn] using g1,.inl (by simp [M.isTn,M.isOwn]),by simpa [M.isTn] using g3⟩
  | ro =>
   refine ⟨S,by simpa [M.isTn] using g1,.inr fun b hb=>?_,by simpa [M.isTn,M.isOwn] using g3⟩
   simp only [M.isTn,Bool.false_and,Bool.false_eq_true,if_false]
   exact g2.resolve_left (by simp [M.isOwn]) b hb
  | tn =>
   have g2:=g2.resolve_left (by simp [M.isOwn])
   have g3:f=[]:=by simpa [M.isOwn] using g3
   cases t with
   | true =>
    refine ⟨S,by simpa [M.isTn] using g1,.inr fun b hb=>?_,by simpa [M.isTn,M.isOwn] using g3⟩
    simp only [Bool.not_true,Bool.and_false,Bool.false_eq_true,if_false]
    exact (g2 b hb).imp id (h1 rfl b)
   | false =>
    simp only [M.isTn,Bool.not_false,Bool.and_self,if_true]
    rcases h2 rfl with h | h
    ·have hf:ls.all L.flat=true:=by simpa [RV.tainted,M.isTn] using h
     exact ⟨[],g1.flatAny hf w _,.inr (by simp),by simpa [M.isOwn] using g3⟩
    ·exact ⟨S,g1,.inr fun b hb=>(g2 b hb).elim id fun q=>absurd q (h b),by simpa [M.isOwn] using g3⟩
theorem RVsRep.clean {R Bc B':Nat→Prop} (t:Bool) (h1:t=true→∀ b,Bc b→B' b):∀ {rs vs fs},RVsRep w R Bc rs vs fs→(t=false→rs.any RV.tainted=false∨∀ b,¬ Bc b)→RVsRep w R B' (rs.map (RV.clean t)) vs fs
 | _,_,_,.nil,_=>.nil
 | _,_,_,.cons h hs,h2=>.cons (h.clean t h1 fun e=>(h2 e).imp (fun q=>by simp only [List.any_cons,Bool.or_eq_false_iff] at q;exact q.1) id) (RVsRep.clean t h1 hs fun e=>(h2 e).imp (fun q=>by simp only [List.any_cons,Bool.or_eq_false_iff] at q;exact q.2) id)
theorem OutsRep.clean {R Bc B':Nat→Prop} (t:Bool) (h1:t=true→∀ b,Bc b→B' b):∀ {os bs fs},OutsRep w R Bc os bs fs→(t=false→(os.any fun o=>o.1.isTn&&!o.2.all L.flat)=false∨∀ b,¬ Bc b)→OutsRep w R B' (os.map fun o=>(if o.1.isTn&&!t then .ro else o.1,o.2)) bs fs
 | _,_,_,.nil,_=>.nil
 | _,_,_,.cons ⟨h⟩ hs,h2=>.cons (h.clean t h1 fun e=>(h2 e).imp (fun q=>by simp only [List.any_cons,Bool.or_eq_false_iff] at q;exact q.1) id) (OutsRep.clean t h1 hs fun e=>(h2 e).imp (fun q=>by simp only [List.any_cons,Bool.or_eq_false_iff] at q;exact q.2) id)
theorem noClash_spec:∀ (bs:List Root) (bor:List (Root × Bool)),noClash bs bor=true→bs.Nodup∧∀ r f,(r,f)∈bor→r ∉ bs
 | [],_,_=>⟨by simp,by simp⟩
 | b::bs,bor,h=>by
  simp only [noClash,Bool.and_eq_true,List.all_eq_true,decide_eq_true_eq] at h
  obtain ⟨⟨h1,h2⟩,h3⟩:=h
  obtain ⟨g1,g2⟩:=noClash_spec bs bor h3
  refine ⟨List.nodup_cons.2 ⟨fun q=>h1 b q rfl,g1⟩,fun r f hr=>?_⟩
  simp only [List.mem_cons,not_or]
  exact ⟨h2 (r,f) hr,g2 r f hr⟩
theorem Inv.newRoot {F':List Nat} (I:Inv C s a w R loc fp (F'++F)) {r:Root} (hn:lookH s.H r=none) {h:HC} {l:Loc} (hr:HRep w R C.B h l F') :
  ∃ loc' fp',Inv C (s.putH r h) a w R loc' fp' F∧loc' r=l∧∀ u y,AVRep1 w R C.B s.H loc u y→AVRep1 w R C.B (s.putH r h).H loc' u y:=by
 have hd:=List.nodup_append.1 I.fnd
 have hal:∀ y u,r∈root1 y→AVRep1 w R C.B s.H loc u y→AVRep1 w R C.B (s.putH r h).H (upd loc r l) u y:=noAlias hn
 refine ⟨upd loc r l,upd fp r F',?_,upd_same _ _ _,fun u y hy=>AVRep1.frame hy I.rep (fun _ h=>h) (fun _ _=>rfl) (fun q=>q=r) (fun q h' hq hne=>⟨by rw [lookH_put,if_neg fun e=>hne e.symm];exact hq,upd_ne _ _ hne,fun _ _=>rfl⟩) fun q hq hm=>hal y u (hq ▸ hm) hy⟩
 exact I.root r h l F' (w':=w) (R':=R) (F':=F) (fun b=>b∈F'++F) (fun b hb=>.inl hb) ⟨rfl,rfl,rfl,Nat.le_refl _,fun _ _ _=>rfl⟩ (fun _ h=>h) (fun b hb=>.inl hb) ⟨hr⟩
  (fun b hb=>by have:=I.fheld b hb;exact ⟨.inl hb,this.1,this.2.2.1⟩) I.fnd (fun _ _ _=>.inr trivial) hal (I.plNew hn)
theorem mk_ok {v:Value} {f:List Nat} {x:RV} (I:Inv C s a w R loc fp (f++F)) (h:RVRep w R C.B v f x) (r:Root) :
  ∃ loc' fp',Inv C (mkRV r s x).2 a w R loc' fp' F∧(mkRV r s x).2.V=s.V∧AVRep1 w R C.B (mkRV r s x).2.H loc' v (mkRV r s x).1∧∀ u y,AVRep1 w R C.B s.H loc u y→AVRep1 w R C.B (mkRV r s x).2.H loc' u y:=by
 have hnd:=List.nodup_append.1 I.fnd
 have I':Inv C s a w R loc fp F:=I.drop F (fun b hb=>List.mem_append.2 (.inr hb)) hnd.2.1
 cases x with
 | ptr m ls =>
  obtain ⟨b,e,⟨hr⟩⟩:=h
  simp only [mkRV,St.mkBox]
  cases hl:lookH s.H r with
  | some h=>exact ⟨loc,fp,I',rfl,trivial,fun _ _ h=>h⟩
  | none =>
   obtain ⟨loc',fp',J,e1,e2⟩:=I.newRoot hl hr
   exact ⟨loc',fp',J,rfl,⟨_,by rw [lookH_put,if_pos rfl],Nat.le_refl _,Nat.le_refl _,fun _=>⟨b,e1,e⟩⟩,e2⟩
 | v m agg ls =>
  obtain ⟨e,S,g1,g2,g3⟩:=h
  simp only [mkRV,St.new]
  by_cases hc:(m.isOwn&&!ls.all L.flat)=true
  ·rw [if_pos hc]
   simp only [Bool.and_eq_true] at hc
   obtain ⟨hm,hf⟩:=hc
   rw [if_pos hm] at g3
   subst g3
   cases hl:lookH s.H r with
   | some h=>exact ⟨loc,fp,I',rfl,trivial,fun _ _ h=>h⟩
   | none =>
    have hr:HRep w R C.B { box:=false,wr:=true,m:=.own,ls,e0:=0,e1:=0 } (.vals v.cells.toList) f:={ S:=f,ob:=[],rep:=by rw [hm] at g1;exact g1,fpe:=by simp [M.isOwn],al:=.inl rfl,bx:=.inr ⟨rfl,⟨_,rfl⟩,rfl⟩ }
    obtain ⟨loc',fp',J,e1,e2⟩:=I.newRoot hl hr
    refine ⟨loc',fp',J,rfl,⟨_,by rw [lookH_put,if_pos rfl],Nat.le_refl _,Nat.le_refl _,fun _ _=>⟨e,?_⟩⟩,e2⟩
    have:=g1.len
    simp only [cpl,List.drop_zero,Option.map_some,e1,Loc.cells]
    rw [List.take_of_length_le (by omega)]
  ·rw [if_neg hc]
   refine ⟨loc,fp,I',rfl,?_,fun _ _ h=>h⟩
   cases hm:m.isOwn with
   | true =>
    have hf:ls.all L.flat=true:=by simpa [hm] using hc
    exact ⟨[],g1.flatAny hf w _,e,by simp,fun _=>hf⟩
   | false=>exact ⟨S,by rw [hm] at g1;exact g1,e,g2.resolve_left (by simp [hm]),by simp [hm]⟩
theorem mks_ok (d:Nat):∀ (rs:List RV) (k:Nat) (s:St) (loc:Root→Loc) (fp:Root→List Nat) (vs:List Value) (fs:List (List Nat)) (F:List Nat),Inv C s a w R loc fp (fs.flatten++F)→RVsRep w R C.B rs vs fs →
  ∃ loc' fp',Inv C (mkRVs d k rs s).2 a w R loc' fp' F∧(mkRVs d k rs s).2.V=s.V∧vs.length=(mkRVs d k rs s).1.length∧(∀ (i:Nat) (u:Value) (x:AV),vs[i]?=some u→(mkRVs d k rs s).1[i]?=some x→AVRep1 w R C.B (mkRVs d k rs s).2.H loc' u x)∧∀ u y,AVRep1 w R C.B s.H loc u y→AVRep1 w R C.B (mkRVs d k rs s).2.H loc' u y
 | [],k,s,loc,fp,[],[],F,I,.nil=>⟨loc,fp,by simpa [mkRVs] using I,rfl,rfl,by simp [mkRVs],fun _ _ h=>h⟩
 | x::rs,k,s,loc,fp,v::vs,f::fs,F,I,.cons h hs=>by
  obtain ⟨loc1,fp1,J,e1,e2,e3⟩:=mk_ok (F:=fs.flatten++F) (by simpa [List.append_assoc] using I) h (.f d k)
  obtain ⟨loc2,fp2,K,g1,g2,g3,g4⟩:=mks_ok d rs (k+1) _ loc1 fp1 vs fs F J hs
  simp only [mkRVs]
  refine ⟨loc2,fp2,K,g1.trans e1,by simp [g2],fun i u y hu hy=>?_,fun u y hy=>g4 u y (e3 u y hy)⟩
  cases i with
  | zero =>
   simp only [List.getElem?_cons_zero,Option.some.injEq] at hu hy
   subst hu;subst hy
   exact g4 _ _ e2
  | succ i =>
   simp only [List.getElem?_cons_succ] at hu hy
   exact g3 i u y hu hy
theorem RVsRep.len {R B:Nat→Prop}:∀ {rs vs fs},RVsRep w R B rs vs fs→vs.length=rs.length
 | _,_,_,.nil=>rfl
 | _,_,_,.cons _ h=>by simp [h.len]
theorem AVRep.of1 {R B:Nat→Prop} {H:List (Root × HC)} {v:Value} {x:AV} (h:AVRep1 w R B H loc v x):AVRep w R B H loc v x:=by
 cases x with
 | tup xs=>exact h.elim
 | _=>exact h
theorem ans_ok {rs:List RV} {vs:List Value} {fs:List (List Nat)} {dst:Option Nat} (I:Inv C s a w R loc fp fs.flatten) (h:RVsRep w R C.B rs vs fs) (hd:∀ y,dst=some y→y<C.N) {z:St}
  (hz:putAns dst rs s=some z):InvX C z (a.put dst (retVal vs)) w:=by
 have multi:∀ bs s2,mkRVs (dst.getD 0) 1 rs s=(bs,s2)→retVal vs=.tuple ⟨vs⟩→InvX C (s2.put dst (.tup bs)) (a.put dst (retVal vs)) w:=by
  intro bs s2 hm hv
  obtain ⟨loc',fp',J,e1,e2,e3,_⟩:=mks_ok (dst.getD 0) rs 1 s loc fp vs fs [] (by simpa using I) h
  rw [hm] at J e1 e2 e3
  exact ⟨R,loc',fp',J.put hd ⟨vs,hv,e2,e3⟩⟩
 cases h with
 | nil =>
  simp only [putAns,Option.some.injEq] at hz
  subst hz
  exact multi _ _ rfl rfl
 | cons h1 hs =>
  rename_i x v f xs vs fs
  cases hs with
  | nil =>
   simp only [putAns,Option.some.injEq] at hz
   subst hz
   obtain ⟨loc',fp',J,e1,e2,_⟩:=mk_ok (F:=[]) (by simpa using I) h1 (.f (dst.getD 0) 1)
   exact ⟨R,loc',fp',J.put hd (AVRep.of1 e2)⟩
  | cons h2 hs =>
   simp only [putAns,Option.some.injEq] at hz
   subst hz
   exact multi _ _ rfl rfl
end
end Go.Ev


namespace Go.Ev
section
variable {E:Env} {C:Cf} {s:St} {a:Act} {w:World} {R:Nat→Prop} {loc:Root→Loc} {fp:Root→List Nat} {F:List Nat}
theorem call_core {K:Fns} (gk:GlobOk E C) (hc:Cons' E K) {f:FuncId} {vs:List Value} {pa:PA} {out:Out} {sp z:St} {dst:Option Nat} {Rp Bc:Nat→Prop} {fpp:Root→List Nat} {fps:List (List Nat)} {t:Bool}
  (I:Inv C sp a w Rp loc fpp F) (hk:K f pa.args=some out) (hn:pa.backs.Nodup) (hargs:ArgsRep w Rp Bc pa.args vs fps) (hnd:fps.flatten.Nodup)
  (hfps:∀ b∈fps.flatten,b∈F∨∃ r∈pa.backs,b∈fpp r) (hb:∀ r∈pa.backs,∃ h,lookH sp.H r=some h∧h.box=(loc r).isBlk∧h.wr=true) (hbox:boxesOf pa.args vs=pa.backs.map loc)
  (hBlt:∀ b,Bc b→b<w.heap.size) (hBh:∀ b∈fps.flatten,¬ Bc b)
  (h1:t=true→∀ b,Bc b→C.B b) (h2:t=false→(out.rs.any RV.tainted=false∧(out.outs.any fun o=>o.1.isTn&&!o.2.all L.flat)=false)∨∀ b,¬ Bc b) (hd:∀ y,dst=some y→y<C.N)
  (hz:(match giveBack pa.backs (out.outs.map fun o=>(if o.1.isTn&&!t then .ro else o.1,o.2)) sp with
   | some s1=>putAns dst (out.rs.map (RV.clean t)) s1
   | none=>none)=some z) :
  Runs E.P f ⟨vs⟩ w fun v w'=>InvX C z (a.put dst v) w':=by
 have hG:∀ b∈fps.flatten,Held C w Rp b:=fun b hb'=>(hfps b hb').elim (I.fheld b) fun ⟨r,hr,q⟩=>by
  obtain ⟨h,hh,_⟩:=hb r hr
  exact I.held r h hh b q
 refine (hc f pa.args out hk w Rp Bc vs fps hargs (GlobAt.of gk I) (fun b hb'=>hb'.elim (fun q=>I.rlt b (.inl q)) (hBlt b)) (fun b hb'=>⟨(hG b hb').1,hBh b hb',(hG b hb').2.2.1⟩) hnd).mono fun v w' hA=>?_
 rw [hbox] at hA
 obtain ⟨A⟩:=hA
 split at hz<;>try (cases hz;done)
 rename_i s1 hgb
 have hrs:=RVsRep.clean (B':=C.B) t h1 A.rs fun e=>(h2 e).imp And.left id
 have houts:=OutsRep.clean (B':=C.B) t h1 A.outs fun e=>(h2 e).imp And.right id
 obtain ⟨fp',J,hV⟩:=back_ok I hb hn A.kp (fun b hb'=>hfps b hb') A.mono A.new A.lt houts (fun b hb'=>by
  obtain ⟨q1,q2,q3,q4⟩:=A.held b hb'
  refine ⟨q1,fun q=>?_,q3,q4⟩
  rcases q4 with q4 | q4
  ·have:=I.rlt b (.inr q);omega
  ·exact (hG b q4).2.1 q) A.nd hgb
 rw [A.hv]
 exact ans_ok J hrs hd hz
theorem callWith_ok {K:Fns} (gk:GlobOk E C) (hc:Cons' E K) {lax:Bool} {ms:List Mode} {f:FuncId} {xs:List (Value × AV)} {dst:Option Nat} {z:St} (I:Inv C s a w R loc fp []) (hx:∀ p∈xs,Stable C a w s R p) (hd:∀ y,dst=some y→y<C.N) (h:callWith E K lax ms f (xs.map (·.2)) dst s=some z) :
  Runs E.P f ⟨xs.map (·.1)⟩ w fun v w'=>InvX C z (a.put dst v) w':=by
 unfold callWith at h
 split at h<;>try (cases h;done)
 rename_i ps s0 hmv
 split at h<;>try (cases h;done)
 rename_i pa hpa
 split at h<;>try (cases h;done)
 rename_i hcl
 split at h<;>try (cases h;done)
 rename_i out hk
 obtain ⟨hnb,hbb⟩:=noClash_spec _ _ hcl
 obtain ⟨R0,loc0,fp0,fps0,I0,hV0,hR0,hpre⟩:=move_ok xs ms s s0 ps R loc fp [] I hx hmv
 simp only [List.nil_append] at I0
 have hav:∀ p∈xs,AVRep w R0 C.B s0.H loc0 p.1 p.2:=fun p hp=>hx p hp s0 R0 loc0 fp0 _ I0 hV0 hR0
 have hargs:=args_ok I0 xs ps fps0 pa hpre hav hpa hnb I0.fnd fun b hb=>hb
 simp only at h
 split at h<;>try (cases h;done)
 generalize hdy:(out.rs.any RV.tainted || out.outs.any fun o=>o.1.isTn&&!o.2.all L.flat)=dirty at h
 cases dirty with
 | false =>
  simp only [Bool.and_false,Bool.false_eq_true,if_false] at h
  simp only [Bool.or_eq_false_iff] at hdy
  let Bc:Nat→Prop:=fun b=>C.B b∨∃ r f,(r,f)∈pa.bor∧b∈fp0 r∧(f=true∨loc0 r≠.blk b)
  obtain ⟨fps,g1,g2,g3,g4,g5⟩:=hargs R0 Bc (fun _ h=>h) (fun _ b hb=>.inr (.inl hb)) (fun r f hrf b hb hc=>.inr (.inr ⟨r,f,hrf,hb,hc⟩))
  refine call_core gk hc I0 hk hnb g1 g2 g3 g4 g5 ?_ ?_ (t:=false) (by simp) (fun _=>.inl hdy) hd h
  ·rintro b (hb | ⟨r,f,hrf,hb,_⟩)
   ·exact I0.rlt b (.inr hb)
   ·obtain ⟨h',hh'⟩:=bor_in ps pa hpa r f hrf
    exact (I0.held r h' hh' b hb).2.2.1.lt
  ·intro b hb hB
   rcases g3 b hb with q | ⟨r',hr',q⟩
   ·rcases hB with hB | ⟨r,f,hrf,hbr,_⟩
    ·exact (I0.fheld b q).2.1 hB
    ·obtain ⟨h',hh'⟩:=bor_in ps pa hpa r f hrf
     exact I0.fdj r h' hh' b q hbr
   ·obtain ⟨h1,hh1,_⟩:=g4 r' hr'
    rcases hB with hB | ⟨r,f,hrf,hbr,_⟩
    ·exact (I0.held r' h1 hh1 b q).2.1 hB
    ·obtain ⟨h',hh'⟩:=bor_in ps pa hpa r f hrf
     exact I0.dj r' h1 r h' hh1 hh' (fun e=>hbb r f hrf (e ▸ hr')) b q hbr
 | true =>
  simp only [Bool.and_true,if_true] at h
  obtain ⟨R2,fp2,I2,hV2,hR2,hl2,ho2⟩:=freezeAll_ok pa.bor s0 R0 fp0 I0 (bor_in ps pa hpa)
  have hno:∀ r∈pa.backs,fp2 r=fp0 r∧lookH (freezeAll pa.bor s0).H r=lookH s0.H r:=fun r hr=>ho2 r fun f hrf=>hbb r f hrf hr
  obtain ⟨fps,g1,g2,g3,g4,g5⟩:=hargs R2 (fun b=>pa.args.any Arg.isTn=true∧C.B b) hR2 (fun e b hb=>.inr ⟨e,hb⟩) (fun r f hrf b hb hc=>.inl (hl2 r f hrf b hb hc))
  have g3':∀ b∈fps.flatten,b∈fps0.flatten∨∃ r∈pa.backs,b∈fp2 r:=fun b hb=>(g3 b hb).imp id fun ⟨r,hr,q⟩=>⟨r,hr,by rw [(hno r hr).1];exact q⟩
  have g4':∀ r∈pa.backs,∃ h,lookH (freezeAll pa.bor s0).H r=some h∧h.box=(loc0 r).isBlk∧h.wr=true:=fun r hr=>by
   obtain ⟨h,q⟩:=g4 r hr
   exact ⟨h,by rw [(hno r hr).2];exact q⟩
  refine call_core gk hc I2 hk hnb g1 g2 g3' g4' g5 (fun b hb=>I2.rlt b (.inr hb.2)) ?_ (t:=pa.args.any Arg.isTn) (fun _ b hb=>hb.2) (fun e=>.inr fun b hb=>by rw [e] at hb;simp at hb) hd h
  intro b hb hB
  rcases g3' b hb with q | ⟨r',hr',q⟩
  ·exact (I2.fheld b q).2.1 hB.2
  ·obtain ⟨h1,hh1,_⟩:=g4' r' hr'
   exact (I2.held r' h1 hh1 b q).2.1 hB.2
theorem callFn_ok {K:Fns} (gk:GlobOk E C) (hc:Cons' E K) {f:FuncId} {xs:List (Value × AV)} {dst:Option Nat} {z:St} (I:Inv C s a w R loc fp []) (hx:∀ p∈xs,Stable C a w s R p) (hd:∀ y,dst=some y→y<C.N) (h:callFn E K f (xs.map (·.2)) dst s=some z) :
  Runs E.P f ⟨xs.map (·.1)⟩ w fun v w'=>InvX C z (a.put dst v) w':=by
 unfold callFn at h
 split at h
 ·exact callWith_ok gk hc I hx hd h
 ·cases hp:probe E K f (xs.map (·.2)) s with
  | none=>rw [hp] at h;cases h
  | some o =>
   rw [hp,Option.bind_some] at h
   split at h
   ·exact callWith_ok gk hc I hx hd h
   ·exact callWith_ok gk hc I hx hd h
end
end Go.Ev


namespace Go.Ev
def EqOk (P:Program):Prop :=
 ∀ (w:World) (t:TypeId) (u v:Value) (as bs:List L) (S S':List Nat) (b:Bool),(eqAgg P t&&shapeT P 8 t as)=true→isAgg u=true→isAgg v=true→RepLs w false u.cells.toList as S→RepLs w false v.cells.toList bs S'→cellsEq as bs=some b →
  ∀ x y:Operand,(do eqGuard .eql t x y u v;binOp .eql t u v:Sem Value).run P w=.ok (.bool b) w∧(do eqGuard .neq t x y u v;binOp .neq t u v:Sem Value).run P w=.ok (.bool (!b)) w
section
variable {E:Env} {C:Cf} {s:St} {a:Act} {w:World} {R:Nat→Prop} {loc:Root→Loc} {fp:Root→List Nat} {F:List Nat}
theorem Runs.wp {o:Oper} {f:FuncId} {args:Array Value} {next:Act→World→Prop} {Q:Exit→Act→World→Prop} {P:Program} (h:Runs P f args w fun v w'=>next (a.put o.dst v) w') (he:(execOp a.eval o).run P w=(callFunc f args).run P w):o.wp P a w next Q:=by
 unfold Oper.wp
 rcases h with ⟨h1,h2⟩ | ⟨v,w',h1,h2⟩
 ·rw [he,h1]
  exact h2.mono fun e w' q=>by cases e<;>first | exact q | exact q.elim
 ·rw [he,h1]
  exact h2
theorem ok_callV {K:Fns} {o:Oper} {c:Call} {g:Operand} {s':St} {Q} (gk:GlobOk E C) (hc:Cons' E K) (I:Inv C s a w R loc fp []) (ho:o.op=.call c) (hg:c.callee=.value g) (hd:∀ y,o.dst=some y→y<C.N)
  {m:M} {f:FuncId} {caps:List L} (hf:opnd E s g=.v m false [.fn f caps]) (h:callFn E K f (c.args.toList.map (opnd E s)++caps.map fun l=>.v m false [l]) o.dst s=some s'):o.wp E.P a w (InvX C s') Q:=by
 have hv:=opnd_rep gk I g
 rw [hf] at hv
 obtain ⟨S,g1,g2,g3⟩:=scal hv
 have hfn:∃ cvs,a.eval g=.func (.func f) #[] ⟨cvs⟩∧RepLs w false cvs caps S:=by
  generalize a.eval g=v at g1
  cases g1 with
  | fn _ _ vs _ hr=>exact ⟨vs,rfl,hr⟩
 obtain ⟨cvs,hev,hcr⟩:=hfn
 have hmo:m.isOwn=false:=by cases h:m.isOwn with | false=>rfl | true=>exact absurd (g3 h) (by simp [L.flat])
 let xs:List (Value × AV):=c.args.toList.map (fun x=>(a.eval x,opnd E s x))++(cvs.zip caps).map fun p=>(p.1,AV.v m false [p.2])
 have hlen:cvs.length=caps.length:=hcr.len
 have hx2:xs.map (·.2)=c.args.toList.map (opnd E s)++caps.map fun l=>.v m false [l]:=by
  simp only [xs,List.map_append,List.map_map]
  congr 1
  rw [show ((fun x:Value × AV=>x.2) ∘ fun p:Value × L=>(p.1,AV.v m false [p.2]))=(fun l=>AV.v m false [l]) ∘ Prod.snd from rfl,← List.map_map,List.map_snd_zip (by omega)]
 have hx1:xs.map (·.1)=c.args.toList.map a.eval++cvs:=by
  simp only [xs,List.map_append,List.map_map]
  congr 1
  rw [show ((fun x:Value × AV=>x.1) ∘ fun p:Value × L=>(p.1,AV.v m false [p.2]))=Prod.fst from rfl,List.map_fst_zip (by omega)]
 have hcap:∀ (cvs:List Value) (caps:List L) (S:List Nat),RepLs w false cvs caps S→(∀ b∈S,Al R C.B m b)→∀ p∈cvs.zip caps,AVRep w R C.B s.H loc p.1 (.v m false [p.2]):=by
  intro cvs caps S h
  induction caps generalizing cvs S with
  | nil=>intro _ p hp;simp at hp
  | cons l ls ih =>
   cases h with
   | cons _ v _ vs _ S1 S2 q1 q2 =>
    intro hal p hp
    simp only [List.zip_cons_cons,List.mem_cons] at hp
    rcases hp with rfl | hp
    ·exact mkScal q1 (fun b hb=>hal b (by simp [hb])) (by simp [hmo])
    ·exact ih vs S2 q2 (fun b hb=>hal b (by simp [hb])) p hp
 have hst:∀ p∈xs,Stable C a w s R p:=by
  intro p hp
  rcases List.mem_append.1 hp with hp | hp
  ·obtain ⟨x,_,rfl⟩:=List.mem_map.1 hp
   exact Stable.opnd gk x
  ·obtain ⟨q,hq,rfl⟩:=List.mem_map.1 hp
   exact Stable.v (hcap cvs caps S hcr g2 q hq)
 have hr:=callFn_ok gk hc I hst hd (by rw [hx2];exact h)
 rw [hx1] at hr
 refine Runs.wp hr ?_
 have e1:(⟨c.args.toList.map a.eval++cvs⟩:Array Value)=c.args.map a.eval++⟨cvs⟩:=by
  apply Array.ext'
  simp
 simp [execOp,ho,resolve,hg,hev,Deferred.ofValue,invoke,e1]
theorem two_of {α β:Type} {f:α→β} {l:List α} {y1 y2:β} (h:l.map f=[y1,y2]):∃ x1 x2,l=[x1,x2]∧f x1=y1∧f x2=y2:=by
 match l,h with
 | [x1,x2],h=>simp at h;exact ⟨x1,x2,rfl,h.1,h.2⟩
theorem minMax_two {b:Bool} {as:List AV} {z:AV} (h:minMax b as=some z):∃ y1 y2,as=[y1,y2]:=by
 unfold minMax at h
 split at h
 ·exact ⟨_,_,rfl⟩
 ·cases h
theorem op_ok {K:Fns} {o:Oper} {fz:List Nat} {s':St} {Q} (gk:GlobOk E C) (hc:Cons' E K) (he:EqOk E.P) (I:Inv C s a w R loc fp []) (hd:∀ y,o.dst=some y→y<C.N) (h:evOp E K fz o s=some s'):o.wp E.P a w (InvX C s') Q:=by
 unfold evOp at h
 simp only at h
 split at h
 ·rename_i x ho
  exact ok_move (fz:=fz) gk I (.inl ho) hd h
 ·rename_i x ho
  exact ok_move (fz:=fz) gk I (.inr ho) hd h
 ·rename_i c x y ho
  exact ok_pick gk I ho hd h
 ·rename_i t ho
  simp only [Option.map_eq_some_iff] at h
  obtain ⟨ti,ht,rfl⟩:=h
  exact ok_alloc I ho hd ht _
 ·rename_i t x ho
  split at h<;>try (cases h;done)
  rename_i ti m agg ls s1 ht hem
  split at h<;>try (cases h;done)
  split at h
  ·rename_i hbf
   simp only [Option.map_eq_some_iff] at h
   obtain ⟨⟨l,s3⟩,hc,rfl⟩:=h
   cases hdst:o.dst with
   | none=>rw [hdst] at hbf;simp [boxFz] at hbf
   | some y =>
    have:=ok_boxFz (Q:=Q) gk I ho hdst (hd y hdst) ht hem _ hc
    rw [hdst] at this
    exact this
  ·cases h
   exact ok_box gk I ho hd ht hem _
 ·rename_i t parts ho
  split at h<;>try (cases h;done)
  rename_i ti ht
  split at h<;>cases h
  rename_i m ls s1 hf
  exact ok_build gk I ho hd ht _ hf
 ·rename_i t n parts ho
  split at h<;>try (cases h;done)
  rename_i ti ht
  split at h<;>try (cases h;done)
  rename_i e htd
  split at h<;>try (cases h;done)
  rename_i ei hei
  split at h<;>try (cases h;done)
  rename_i hn
  split at h<;>cases h
  rename_i m ls s1 hf
  exact ok_buildSlice gk I ho hd ht htd hei hn _ hf
 ·rename_i t x ho
  simp only [Option.map_eq_some_iff] at h
  obtain ⟨y,hy,rfl⟩:=h
  exact ok_load (fz:=fz) gk I ho hd hy
 ·rename_i t x y ho
  simp only [Option.map_eq_some_iff] at h
  obtain ⟨z,hz,rfl⟩:=h
  exact ok_store gk I ho hd hz
 ·rename_i x ho
  exact ok_nilCheck gk I ho hd h
 ·rename_i op t x y t' ho
  simp only [Option.map_eq_some_iff] at h
  obtain ⟨z,hz,rfl⟩:=h
  exact ok_binOp gk I ho hd (fun op u v as bs S S' b h1 h2 h3 h4 h5 h6=>he w t u v as bs S S' b h1 h2 h3 h4 h5 h6 x y) hz
 ·rename_i op t x ho
  simp only [Option.map_eq_some_iff] at h
  obtain ⟨z,hz,rfl⟩:=h
  exact ok_unOp gk I ho hd hz
 ·rename_i t t' x ho
  simp only [Option.map_eq_some_iff] at h
  obtain ⟨z,hz,rfl⟩:=h
  exact ok_conv gk I ho hd hz
 ·rename_i f first cs ho
  split at h<;>try (cases h;done)
  rename_i hf
  simp only [Option.map_eq_some_iff] at h
  obtain ⟨z,hz,rfl⟩:=h
  exact ok_makeFunc gk I ho hf hd hz
 ·rename_i t l c ho
  simp only [Option.map_eq_some_iff] at h
  obtain ⟨z,hz,rfl⟩:=h
  exact ok_makeSlice gk I ho hd hz
 ·rename_i t x lo hi ho
  split at h
  ·simp only [Option.map_eq_some_iff] at h
   obtain ⟨z,hz,rfl⟩:=h
   exact ok_win gk I ho hd hz
  ·simp only [Option.map_eq_some_iff] at h
   obtain ⟨z,hz,rfl⟩:=h
   exact ok_slice gk I ho hd hz
 ·rename_i t x i ho
  simp only [Option.map_eq_some_iff] at h
  obtain ⟨z,hz,rfl⟩:=h
  exact ok_fieldAddr gk I ho hd hz
 ·rename_i t x i ho
  simp only [Option.map_eq_some_iff] at h
  obtain ⟨z,hz,rfl⟩:=h
  exact ok_field gk I ho hd hz
 ·rename_i t x i ho
  simp only [Option.map_eq_some_iff] at h
  obtain ⟨z,hz,rfl⟩:=h
  exact ok_indexAddr gk I ho hd hz
 ·rename_i t x i ho
  simp only [Option.map_eq_some_iff] at h
  obtain ⟨z,hz,rfl⟩:=h
  exact ok_index gk I ho hd hz
 ·rename_i x k ho
  exact ok_extract gk I ho hd h
 ·rename_i c ho
  unfold evCallOp at h
  simp only at h
  split at h
  ·rename_i g hg
   split at h<;>try (cases h;done)
   rename_i m f caps hf
   exact ok_callV gk hc I ho hg hd hf h
  ·rename_i hg
   split at h<;>try (cases h;done)
   rename_i y t ts hargs hts
   obtain ⟨x,hx,rfl⟩:=List.map_eq_singleton_iff.1 hargs
   simp only [Option.map_eq_some_iff] at h
   obtain ⟨z,hz,rfl⟩:=h
   exact ok_len (P:=E.P) (ts:=ts) gk I c ho hg hx (by rw [hts];rfl) (by rw [hts];simp) hd hz
  ·rename_i hg
   split at h<;>try (cases h;done)
   rename_i y1 y2 hargs
   obtain ⟨x1,x2,hx,rfl,rfl⟩:=two_of hargs
   simp only [Option.map_eq_some_iff] at h
   obtain ⟨z,hz,rfl⟩:=h
   exact ok_append gk I c ho hg hx hd hz
  ·rename_i hg
   split at h<;>try (cases h;done)
   rename_i y1 y2 hargs
   obtain ⟨x1,x2,hx,rfl,rfl⟩:=two_of hargs
   simp only [Option.map_eq_some_iff] at h
   obtain ⟨z,hz,rfl⟩:=h
   exact ok_copy gk I c ho hg hx hd hz
  ·rename_i hg
   simp only [Option.map_eq_some_iff] at h
   obtain ⟨z,hz,rfl⟩:=h
   obtain ⟨y1,y2,hargs⟩:=minMax_two hz
   obtain ⟨x1,x2,hx,rfl,rfl⟩:=two_of hargs
   rw [hargs] at hz
   exact ok_minMax false gk I c ho (by simpa using hg) hx hd hz
  ·rename_i hg
   simp only [Option.map_eq_some_iff] at h
   obtain ⟨z,hz,rfl⟩:=h
   obtain ⟨y1,y2,hargs⟩:=minMax_two hz
   obtain ⟨x1,x2,hx,rfl,rfl⟩:=two_of hargs
   rw [hargs] at hz
   exact ok_minMax true gk I c ho (by simpa using hg) hx hd hz
  ·cases h
 ·cases h
end
end Go.Ev


namespace Go.Ev
section
variable {E:Env} {C:Cf} {s:St} {a:Act} {w:World} {R:Nat→Prop} {loc:Root→Loc} {fp:Root→List Nat} {F:List Nat}
theorem yielded_of {ops:Array Oper} {j t:Nat} {b:Bool} (h:(ops[j]?).bind (·.dst)=some t) (hv:a.tmps.getD t undef=.bool b):yielded ops a.tmps j=some b:=by
 have:a.tmps[t]?=some (.bool b):=by
  rw [Array.getD_eq_getD_getElem?] at hv
  cases hq:a.tmps[t]? with
  | none=>rw [hq] at hv;simp [undef] at hv
  | some v=>rw [hq] at hv;simp at hv;rw [hv]
 simp only [yielded]
 rw [h]
 simp only [Option.bind_some,this]
theorem g_ok {K:Fns} {o:Oper} {fz:List Nat} {s':St} {Q} {ops:Array Oper} {i:Nat} {next:Act→World→Prop} (gk:GlobOk E C) (hc:Cons' E K) (he:EqOk E.P) (I:InvX C s a w) (hi:ops[i]?=some o) (hd:∀ y,o.dst=some y→y<C.N) (h:evG E K ops fz o s=some s') (hn:∀ a w,InvX C s' a w→next a w) :
  wpOp E.P ops Q i next a w:=by
 obtain ⟨R,loc,fp,I⟩:=I
 unfold wpOp
 rw [hi]
 simp only
 unfold evG at h
 split at h
 ·rename_i hg
  rw [if_pos (by simp [Region.wanted,hg])]
  exact .inl (Oper.wp_mono hn (op_ok gk hc he I hd h))
 ·rename_i j want hg
  split at h<;>try (cases h;done)
  rename_i t ht
  have hun:AVRep w R C.B s.H loc undef (.tup []):=⟨[],rfl,rfl,by simp⟩
  split at h<;>try (cases h;done)
  rotate_left
  ·rename_i hl
   have hv:=I.av t
   rw [hl] at hv
   obtain ⟨vs,hv,hlen,_⟩:=hv
   have hvs:vs=[]:=by simpa using hlen
   subst hvs
   have hy:yielded ops a.tmps j=none:=by
    simp only [yielded]
    rw [ht]
    simp only [Option.bind_some]
    have:a.tmps.getD t undef=.tuple ⟨[]⟩:=hv
    rw [Array.getD_eq_getD_getElem?] at this
    cases hq:a.tmps[t]? with
    | none=>rfl
    | some v=>rw [hq] at this;simp at this;rw [this]
   cases h
   rw [if_neg (by simp [Region.wanted,hg,hy])]
   exact hn _ _ (InvX.put I hd hun)
  rename_i m b hl
  have hv:=I.av t
  rw [hl] at hv
  obtain ⟨S,g1,_⟩:=scal hv
  have hb:a.tmps.getD t undef=.bool b:=by
   generalize a.tmps.getD t undef=v at g1
   cases g1
   rfl
  have hy:=yielded_of ht hb
  split at h
  ·rename_i hw
   rw [if_pos (by simp [Region.wanted,hg,hy,hw])]
   exact .inl (Oper.wp_mono hn (op_ok gk hc he I hd h))
  ·rename_i hw
   cases h
   rw [if_neg (by simp [Region.wanted,hg,hy,hw])]
   exact hn _ _ (InvX.put I hd hun)
theorem ops_ok {K:Fns} {fz:List Nat} {s':St} {Q:Exit→Act→World→Prop} {ops:Array Oper} (gk:GlobOk E C) (hc:Cons' E K) (he:EqOk E.P) (hd:∀ o∈ops.toList,∀ y,o.dst=some y→y<C.N) (hn:∀ a w,InvX C s' a w→Q .normal a w) :
  ∀ (n k:Nat) (s:St) (a:Act) (w:World),n+k=ops.size→InvX C s a w→evOps E K ops fz (ops.toList.drop k) s=some s'→wpOps E.P ops Q (List.range' k n) a w
 | 0,k,s,a,w,hk,I,h=>by
  rw [List.drop_eq_nil_of_le (by simp;omega)] at h
  simp only [evOps,Option.some.injEq] at h
  subst h
  simp only [List.range'_zero,wpOps]
  exact hn a w I
 | n+1,k,s,a,w,hk,I,h=>by
  have hlt:k<ops.toList.length:=by simp;omega
  rw [List.drop_eq_getElem_cons hlt] at h
  simp only [evOps] at h
  split at h<;>try (cases h;done)
  rename_i s1 hg
  rw [List.range'_succ,wpOps_cons]
  have hi:ops[k]?=some ops.toList[k]:=by rw [← Array.getElem?_toList];exact List.getElem?_eq_getElem hlt
  exact g_ok gk hc he I hi (hd _ (List.getElem_mem hlt)) hg fun a w J=>ops_ok gk hc he hd hn n (k+1) s1 a w (by omega) J h
theorem region_ok {K:Fns} {fz:List Nat} {s':St} {Q:Exit→Act→World→Prop} {ops:Array Oper} {id:Nat} (gk:GlobOk E C) (hc:Cons' E K) (he:EqOk E.P) (hd:∀ o∈ops.toList,∀ y,o.dst=some y→y<C.N) (I:InvX C s a w) (h:evOps E K ops fz ops.toList s=some s') (hn:∀ a w,InvX C s' a w→Q .normal a w) :
  (Code.region id ops false).wp E.P Q a w:=by
 refine wp_region ?_
 rw [List.range_eq_range']
 exact ops_ok gk hc he hd hn ops.size 0 s a w (by omega) I h
end
end Go.Ev


namespace Go.Ev
def rootOf:AV→Option Root
 | .at r ..=>some r
 | .ad r ..=>some r
 | _=>none
def Root.isP:Root→Bool
 | .p _=>true
 | _=>false
theorem addRen_eq (t:Nat) (ren:List (Root × Root)) (r:Root):addRen t ren r=if r.isP || ren.any (fun x=>decide (x.1=r)) then ren else ren++[(r,.c t)]:=by
 cases r with
 | p i=>rfl
 | c u=>simp only [addRen,Root.isP,Bool.false_or]
 | f d k=>simp only [addRen,Root.isP,Bool.false_or]
theorem renOf_cons (t:Nat) (x:AV) (rest:List (Nat × AV)) (ren:List (Root × Root)):renOf ((t,x)::rest) ren=renOf rest (match rootOf x with | some r=>addRen t ren r | none=>ren):=by
 cases x<;>rfl
structure RenOk (f:Nat→AV) (ren:List (Root × Root)):Prop where
 dst:∀ r q,(r,q)∈ren→r.isP=false∧∃ t,q=.c t∧rootOf (f t)=some r
 key:∀ r q q',(r,q)∈ren→(r,q')∈ren→q=q'
theorem RenOk.add {f:Nat→AV} {ren:List (Root × Root)} (h:RenOk f ren) {t:Nat} {r:Root} (hr:rootOf (f t)=some r):RenOk f (addRen t ren r)∧(r.isP=true∨∃ q,(r,q)∈addRen t ren r)∧∀ x∈ren,x∈addRen t ren r:=by
 rw [addRen_eq]
 split
 ·rename_i hc
  refine ⟨h,?_,fun _ h=>h⟩
  simp only [Bool.or_eq_true,List.any_eq_true,decide_eq_true_eq] at hc
  exact hc.imp id fun ⟨x,hx,e⟩=>⟨x.2,by rw [← e];exact hx⟩
 ·rename_i hc
  simp only [Bool.or_eq_true,List.any_eq_true,decide_eq_true_eq,not_or,not_exists,not_and] at hc
  obtain ⟨h1,h2⟩:=hc
  refine ⟨⟨fun u q hu=>?_,fun u q q' hu hu'=>?_⟩,.inr ⟨.c t,by simp⟩,fun x hx=>List.mem_append.2 (.inl hx)⟩
  ·rcases List.mem_append.1 hu with hu | hu
   ·exact h.dst u q hu
   ·simp only [List.mem_singleton,Prod.mk.injEq] at hu
    obtain ⟨rfl,rfl⟩:=hu
    exact ⟨by simpa using h1,t,rfl,hr⟩
  ·rcases List.mem_append.1 hu with hu | hu<;>rcases List.mem_append.1 hu' with hu' | hu'
   ·exact h.key u q q' hu hu'
   ·simp only [List.mem_singleton,Prod.mk.injEq] at hu'
    exact absurd hu'.1 (h2 _ hu)
   ·simp only [List.mem_singleton,Prod.mk.injEq] at hu
    exact absurd hu.1 (h2 _ hu')
   ·simp only [List.mem_singleton,Prod.mk.injEq] at hu hu'
    rw [hu.2,hu'.2]
theorem renOf_ok {f:Nat→AV}:∀ (live:List Nat) (ren:List (Root × Root)),RenOk f ren→RenOk f (renOf (live.map fun t=>(t,f t)) ren)∧(∀ t∈live,∀ r,rootOf (f t)=some r→r.isP=true∨∃ q,(r,q)∈renOf (live.map fun t=>(t,f t)) ren)∧∀ x∈ren,x∈renOf (live.map fun t=>(t,f t)) ren
 | [],ren,h=>⟨h,by simp,fun _ h=>h⟩
 | t::live,ren,h=>by
  rw [List.map_cons,renOf_cons]
  cases hr:rootOf (f t) with
  | none =>
   obtain ⟨g1,g2,g3⟩:=renOf_ok live ren h
   refine ⟨g1,fun u hu r hr'=>?_,g3⟩
   rcases List.mem_cons.1 hu with rfl | hu
   ·rw [hr] at hr';cases hr'
   ·exact g2 u hu r hr'
  | some r =>
   obtain ⟨a1,a2,a3⟩:=h.add hr
   obtain ⟨g1,g2,g3⟩:=renOf_ok live _ a1
   refine ⟨g1,fun u hu r' hr'=>?_,fun x hx=>g3 x (a3 x hx)⟩
   rcases List.mem_cons.1 hu with rfl | hu
   ·rw [hr] at hr';cases hr'
    exact a2.imp id fun ⟨q,hq⟩=>⟨q,g3 _ hq⟩
   ·exact g2 u hu r' hr'
theorem ren1_of {ren:List (Root × Root)} (hk:∀ r q q',(r,q)∈ren→(r,q')∈ren→q=q') {r q:Root} (h:(r,q)∈ren):ren1 ren r=q:=by
 induction ren with
 | nil=>simp at h
 | cons x rest ih =>
  obtain ⟨u,v⟩:=x
  simp only [ren1]
  split
  ·rename_i e
   subst e
   exact hk u v q (by simp) h
  ·rename_i e
   rcases List.mem_cons.1 h with h | h
   ·cases h;exact absurd rfl e
   ·exact ih (fun r q q' h1 h2=>hk r q q' (List.mem_cons_of_mem _ h1) (List.mem_cons_of_mem _ h2)) h
theorem ren1_not {ren:List (Root × Root)} {r:Root} (h:∀ q,(r,q) ∉ ren):ren1 ren r=r:=by
 induction ren with
 | nil=>rfl
 | cons x rest ih =>
  obtain ⟨u,v⟩:=x
  simp only [ren1]
  split
  ·rename_i e;subst e;exact absurd (List.mem_cons_self) (h v)
  ·exact ih fun q hq=>h q (List.mem_cons_of_mem _ hq)
def srcOf (s:St):List (Root × Root)→Root→Option Root
 | [],_=>none
 | (r,r')::rest,q=>if r'=q∧(lookH s.H r).isSome then some r else srcOf s rest q
theorem keepH_look (s:St):∀ (l:List (Root × Root)) (q:Root),lookH (keepH s l) q=(srcOf s l q).bind fun r=>(lookH s.H r).map HC.reset
 | [],q=>rfl
 | (r,r')::rest,q=>by
  have ih:=keepH_look s rest q
  simp only [keepH,srcOf]
  cases hl:lookH s.H r with
  | none=>simpa using ih
  | some h =>
   simp only [lookH,Option.isSome_some,and_true]
   split
   ·simp [hl]
   ·exact ih
theorem srcOf_spec {s:St}:∀ {l:List (Root × Root)} {q r:Root},srcOf s l q=some r→(r,q)∈l∧∃ h,lookH s.H r=some h
 | (u,v)::rest,q,r,h=>by
  simp only [srcOf] at h
  split at h
  ·rename_i hc
   cases h
   exact ⟨by rw [hc.1];simp,Option.isSome_iff_exists.1 hc.2⟩
  ·obtain ⟨h1,h2⟩:=srcOf_spec h
   exact ⟨List.mem_cons_of_mem _ h1,h2⟩
theorem srcOf_of {s:St} {l:List (Root × Root)} {q r:Root} (hi:∀ u,(u,q)∈l→u=r) (hm:(r,q)∈l) (hl:∃ h,lookH s.H r=some h):srcOf s l q=some r:=by
 induction l with
 | nil=>simp at hm
 | cons x rest ih =>
  obtain ⟨u,v⟩:=x
  simp only [srcOf]
  split
  ·rename_i hc
   rw [hi u (by rw [← hc.1];simp)]
  ·rename_i hc
   rcases List.mem_cons.1 hm with hm | hm
   ·cases hm
    exact absurd ⟨rfl,Option.isSome_iff_exists.2 hl⟩ hc
   ·exact ih (fun u hu=>hi u (List.mem_cons_of_mem _ hu)) hm
section
variable {E:Env} {C:Cf} {s:St} {a:Act} {w:World} {R:Nat→Prop} {loc:Root→Loc} {fp:Root→List Nat} {F:List Nat}
theorem look_map (live:List Nat) (f:Nat→AV) (t:Nat):look (live.map fun u=>(u,f u)) t=f t∨look (live.map fun u=>(u,f u)) t=.dead:=by
 induction live with
 | nil=>exact .inr rfl
 | cons u live ih =>
  simp only [List.map_cons,look]
  split
  ·rename_i e;subst e;exact .inl rfl
  ·exact ih
theorem look_map' (live:List Nat) (f:Nat→AV) (t:Nat) (h:t ∉ live):look (live.map fun u=>(u,f u)) t=.dead:=by
 induction live with
 | nil=>rfl
 | cons u live ih =>
  simp only [List.mem_cons,not_or] at h
  simp only [List.map_cons,look]
  rw [if_neg fun e=>h.1 e.symm]
  exact ih h.2
theorem norm_root {x:AV} {r:Root} (h:rootOf (s.norm x)=some r):(∃ h,lookH s.H r=some h)∧inPs s.ps r=true:=by
 cases x with
 | «at» q k0 k1 off hops n agg =>
  simp only [St.norm] at h
  split at h
  ·rename_i hh hl
   split at h
   ·rename_i hc
    simp only [rootOf,Option.some.injEq] at h
    subst h
    exact ⟨⟨hh,hl⟩,by simp only [Bool.and_eq_true] at hc;exact hc.2⟩
   ·simp [rootOf] at h
  ·simp [rootOf] at h
 | ad q k0 k1 off hops =>
  simp only [St.norm] at h
  split at h
  ·rename_i hh hl
   split at h
   ·rename_i hc
    simp only [rootOf,Option.some.injEq] at h
    subst h
    exact ⟨⟨hh,hl⟩,by simp only [Bool.and_eq_true] at hc;exact hc.2⟩
   ·simp [rootOf] at h
  ·simp [rootOf] at h
 | _=>simp [St.norm,rootOf] at h
theorem canon_ok (live:List Nat) (I:InvX C s a w):InvX C (canon live s) a w:=by
 obtain ⟨R,loc,fp,I⟩:=I
 let f:Nat→AV:=fun t=>s.norm (look s.V t)
 obtain ⟨hro,hcm,_⟩:=renOf_ok (f:=f) live [] ⟨by simp,by simp⟩
 generalize hren:renOf (live.map fun t=>(t,f t)) []=ren at hro hcm
 let L:List (Root × Root):=s.ps.map (fun i=>(Root.p i,Root.p i))++ren
 have hcan:canon live s={ V:=live.map fun t=>(t,(f t).ren ren),H:=keepH s L,ps:=s.ps }:=by
  simp only [canon]
  rw [show (live.map fun t=>(t,s.norm (look s.V t)))=live.map fun t=>(t,f t) from rfl,hren]
  simp only [List.map_map]
  rfl
 have hLp:∀ r q,(r,q)∈L→(∃ i,r=.p i∧q=.p i)∨(r,q)∈ren:=by
  intro r q h
  rcases List.mem_append.1 h with h | h
  ·obtain ⟨i,_,e⟩:=List.mem_map.1 h
   cases e
   exact .inl ⟨i,rfl,rfl⟩
  ·exact .inr h
 have hfun:∀ r q q',(r,q)∈L→(r,q')∈L→q=q':=by
  intro r q q' h h'
  rcases hLp r q h with ⟨i,rfl,rfl⟩ | h<;>rcases hLp _ q' h' with ⟨j,e,e'⟩ | h'
  ·rw [e'];exact e
  ·exact absurd (hro.dst _ _ h').1 (by simp [Root.isP])
  ·exact absurd (hro.dst _ _ h).1 (by rw [e];simp [Root.isP])
  ·exact hro.key r q q' h h'
 have hinj:∀ r r' q,(r,q)∈L→(r',q)∈L→r=r':=by
  intro r r' q h h'
  rcases hLp r q h with ⟨i,rfl,rfl⟩ | h<;>rcases hLp r' _ h' with ⟨j,e,e'⟩ | h'
  ·rw [e];exact e'
  ·obtain ⟨_,t,e,_⟩:=hro.dst _ _ h';cases e
  ·obtain ⟨_,t,e2,_⟩:=hro.dst _ _ h;rw [e'] at e2;cases e2
  ·obtain ⟨_,t,e1,e2⟩:=hro.dst _ _ h
   obtain ⟨_,t',e1',e2'⟩:=hro.dst _ _ h'
   rw [e1] at e1';cases e1'
   rw [e2] at e2';cases e2';rfl
 let σ:Root→Root:=fun q=>(srcOf s L q).getD q
 have hlook:∀ q h',lookH (keepH s L) q=some h'→∃ h,srcOf s L q=some (σ q)∧lookH s.H (σ q)=some h∧h'=h.reset:=by
  intro q h' hq
  rw [keepH_look] at hq
  cases hs:srcOf s L q with
  | none=>rw [hs] at hq;cases hq
  | some r =>
   rw [hs] at hq
   simp only [Option.bind_some,Option.map_eq_some_iff] at hq
   obtain ⟨h,h1,h2⟩:=hq
   have:σ q=r:=by simp [σ,hs]
   exact ⟨h,by rw [this],by rw [this];exact h1,h2.symm⟩
 have hne:∀ q q' h h',lookH (keepH s L) q=some h→lookH (keepH s L) q'=some h'→q≠q'→σ q≠σ q':=by
  intro q q' h h' h1 h2 hqq e
  obtain ⟨_,e1,_⟩:=hlook q h h1
  obtain ⟨_,e2,_⟩:=hlook q' h' h2
  rw [← e] at e2
  exact hqq (hfun _ _ _ (srcOf_spec e1).1 (srcOf_spec e2).1)
 have hreset:∀ h:HC,h.reset.box=h.box∧h.reset.wr=h.wr∧h.reset.m=h.m∧h.reset.ls=h.ls:=fun h=>⟨rfl,rfl,rfl,rfl⟩
 rw [hcan]
 refine ⟨R,fun q=>loc (σ q),fun q=>fp (σ q),?_⟩
 -- roots that live are kept
 have hroot:∀ t∈live,∀ r,rootOf (f t)=some r→∃ q h,ren1 ren r=q∧lookH (keepH s L) q=some (HC.reset h)∧lookH s.H r=some h∧σ q=r:=by
  intro t ht r hr
  obtain ⟨⟨h,hh⟩,hp⟩:=norm_root hr
  have hmem:∃ q,ren1 ren r=q∧(r,q)∈L:=by
   rcases hcm t ht r hr with hP | ⟨q,hq⟩
   ·cases r with
    | p i =>
     refine ⟨.p i,ren1_not fun q hq=>?_,List.mem_append.2 (.inl (List.mem_map.2 ⟨i,by simpa [inPs] using hp,rfl⟩))⟩
     exact absurd (hro.dst _ _ hq).1 (by simp [Root.isP])
    | c t=>simp [Root.isP] at hP
    | f d k=>simp [Root.isP] at hP
   ·exact ⟨q,ren1_of hro.key hq,List.mem_append.2 (.inr hq)⟩
  obtain ⟨q,h1,h2⟩:=hmem
  have hs:srcOf s L q=some r:=srcOf_of (fun u hu=>hinj u r q hu h2) h2 ⟨h,hh⟩
  refine ⟨q,h,h1,?_,hh,by simp [σ,hs]⟩
  rw [keepH_look,hs]
  simp [hh]
 exact
  {kp:=I.kp,r0:=I.r0,rnew:=I.rnew,rlt:=I.rlt
   rep:=fun q h' hq=>by
    obtain ⟨h,_,h2,rfl⟩:=hlook q h' hq
    obtain ⟨x⟩:=I.rep (σ q) h h2
    exact x.lend (fun _ h=>h) (fun _ _ _ h=>.inr h) rfl rfl rfl rfl
   held:=fun q h' hq b hb=>by
    obtain ⟨h,_,h2,rfl⟩:=hlook q h' hq
    exact I.held (σ q) h h2 b hb
   nd:=fun q h' hq=>by
    obtain ⟨h,_,h2,rfl⟩:=hlook q h' hq
    exact I.nd (σ q) h h2
   dj:=fun q h1 q' h2 hq hq' hqq b hb=>by
    have hn:=hne q q' h1 h2 hq hq' hqq
    obtain ⟨u1,_,g1,rfl⟩:=hlook q h1 hq
    obtain ⟨u2,_,g2,rfl⟩:=hlook q' h2 hq'
    exact I.dj (σ q) u1 (σ q') u2 g1 g2 hn b hb
   fheld:=by simp
   fnd:=by simp
   fdj:=by simp
   av:=fun t=>by
    show AVRep w R C.B (keepH s L) _ _ (look (live.map fun t=>(t,(f t).ren ren)) t)
    by_cases ht:t∈live
    case neg=>rw [look_map' live (fun t=>(f t).ren ren) t ht];trivial
    rcases look_map live (fun t=>(f t).ren ren) t with e | e
    case inr=>rw [e];trivial
    rw [e]
    have hv:=I.av t
    have hrt:=hroot t ht
    simp only [f] at hrt ⊢
    generalize look s.V t=x at hv hrt
    cases x with
    | dead=>trivial
    | nil=>exact hv
    | v m agg ls=>exact hv
    | tup xs=>trivial
    | win r k0 k1 off lo n=>trivial
    | «at» r k0 k1 off hops n agg =>
     simp only [St.norm] at hrt ⊢
     cases hl:lookH s.H r with
     | none=>simp only [hl];trivial
     | some h0 =>
      simp only [hl] at hrt ⊢
      by_cases hc:(h0.okAt off n hops k0 k1&&inPs s.ps r)=true
      ·rw [if_pos hc] at hrt ⊢
       simp only [Bool.and_eq_true] at hc
       obtain ⟨q,h,h1,h2,h3,h4⟩:=hrt r rfl
       rw [hl] at h3;cases h3
       obtain ⟨h,g1,g2,g3,g4⟩:=hv
       rw [hl] at g1;cases g1
       simp only [AV.ren,h1]
       refine ⟨_,h2,Nat.zero_le _,Nat.zero_le _,fun _ hp=>?_⟩
       show _∧(cpl w ((loc (σ q)).cells w) off hops).map _=_
       rw [h4]
       exact g4 hc.1 hp
      ·rw [if_neg hc];trivial
    | ad r k0 k1 off hops =>
     simp only [St.norm] at hrt ⊢
     cases hl:lookH s.H r with
     | none=>simp only [hl];trivial
     | some h0 =>
      simp only [hl] at hrt ⊢
      by_cases hc:(h0.okAd off hops k0 k1&&inPs s.ps r)=true
      ·rw [if_pos hc] at hrt ⊢
       simp only [Bool.and_eq_true] at hc
       obtain ⟨q,h,h1,h2,h3,h4⟩:=hrt r rfl
       rw [hl] at h3;cases h3
       obtain ⟨h,g1,g2,g3,g4⟩:=hv
       rw [hl] at g1;cases g1
       simp only [AV.ren,h1]
       refine ⟨_,h2,Nat.zero_le _,Nat.zero_le _,fun _=>?_⟩
       have:=g4 hc.1
       rw [← h4] at this
       exact this
      ·rw [if_neg hc];trivial
   df:=I.df,sz:=I.sz
   pl:=fun i b hp=>by
    obtain ⟨e1,e2,h0,e3,e4⟩:=I.pl i b hp
    have hm:(Root.p i,Root.p i)∈L:=List.mem_append.2 (.inl (List.mem_map.2 ⟨i,e2,rfl⟩))
    have hs:srcOf s L (.p i)=some (.p i):=srcOf_of (fun u hu=>hinj u _ _ hu hm) hm ⟨h0,e3⟩
    have hσ:σ (.p i)=.p i:=by simp [σ,hs]
    refine ⟨by rw [hσ];exact e1,e2,h0.reset,?_,e4⟩
    show lookH (keepH s L) (.p i)=_
    rw [keepH_look,hs]
    simp [e3] }
end
end Go.Ev


namespace Go.Ev
theorem leastN {p:Nat→Prop} (h:∃ n,p n):∃ n,p n∧∀ m,p m→n≤m:=by
 obtain ⟨n,hn⟩:=h
 induction n using Nat.strongRecOn with
 | _ n ih =>
  by_cases hx:∃ m,m<n∧p m
  ·obtain ⟨m,h1,h2⟩:=hx
   exact ih m h1 h2
  ·exact ⟨n,hn,fun m hm=>Nat.le_of_not_lt fun hlt=>hx ⟨m,hlt,hm⟩⟩
def exitOf:Ex→Exit
 | .normal=>.normal
 | .exit id=>.exit id
 | .ret=>.ret
def codeOk (N:Nat) (d:Nat→Array Oper→Bool):Code→Bool
 | .region id ops draw=>(ops.toList.all fun o=>match o.dst with | some y=>decide (y<N) | none=>true)&&(!draw || d id ops)
 | .seq a b=>codeOk N d a&&codeOk N d b
 | .cond _ a b=>codeOk N d a&&codeOk N d b
 | .block _ a=>codeOk N d a
 | .loop a=>codeOk N d a
 | _=>true
def DrawOk (E:Env) (K:Fns) (fz:List Nat) (conf:List (Nat × Nat)) (id:Nat) (ops:Array Oper):Prop :=
 ∀ (C:Cf) (s s':St) (a:Act) (w:World) (Q:Exit→Act→World→Prop),GlobOk E C→(∀ o∈ops.toList,∀ y,o.dst=some y→y<C.N)→InvX C s a w→evDraw E K ops fz conf s=some s'→(∀ a w,InvX C s' a w→Q .normal a w)→(Code.region id ops true).wp E.P Q a w
section
variable {E:Env} {C:Cf} {s:St} {a:Act} {w:World} {R:Nat→Prop} {loc:Root→Loc} {fp:Root→List Nat} {F:List Nat}
theorem InvX.drawn (I:InvX C s a w):InvX C s a { w with drawn:=w.drawn+1 }:=by
 obtain ⟨R,loc,fp,I⟩:=I
 exact ⟨R,loc,fp,I.grow ⟨rfl,rfl,rfl,Nat.le_refl _,fun _ _ _=>rfl⟩⟩
theorem dst_of {ops:Array Oper} {N:Nat} (h:(ops.toList.all fun o=>match o.dst with | some y=>decide (y<N) | none=>true)=true):∀ o∈ops.toList,∀ y,o.dst=some y→y<N:=by
 intro o ho y hy
 have:=List.all_eq_true.1 h o ho
 simp only [hy,decide_eq_true_eq] at this
 exact this
theorem code_ok {K:Fns} {f:FuncId} {d:Nat→Array Oper→Bool} (gk:GlobOk E C) (hc:Cons' E K) (he:EqOk E.P) (hdr:∀ id ops,d id ops=true→DrawOk E K (E.fz f) (E.conf f id) id ops) :
  ∀ (c:Code) (s:St) (a:Act) (w:World) (e:Ex) (s':St) (Q:Exit→Act→World→Prop),codeOk C.N d c=true→evCode E K f c s=some (e,s')→InvX C s a w→(∀ a w,InvX C s' a w→Q (exitOf e) a w)→c.wp E.P Q a w:=by
 intro c
 induction c with
 | skip =>
  intro s a w e s' Q _ h I hq
  simp only [evCode,Option.some.injEq,Prod.mk.injEq] at h
  obtain ⟨rfl,rfl⟩:=h
  exact wp_skip (hq a w I)
 | label l =>
  intro s a w e s' Q _ h I hq
  simp only [evCode,Option.some.injEq,Prod.mk.injEq] at h
  obtain ⟨rfl,rfl⟩:=h
  exact wp_label (hq a w I)
 | exit id =>
  intro s a w e s' Q _ h I hq
  simp only [evCode,Option.some.injEq,Prod.mk.injEq] at h
  obtain ⟨rfl,rfl⟩:=h
  exact wp_exit (hq a w I)
 | ret =>
  intro s a w e s' Q _ h I hq
  simp only [evCode,Option.some.injEq,Prod.mk.injEq] at h
  obtain ⟨rfl,rfl⟩:=h
  exact wp_ret (hq a w I)
 | region id ops draw =>
  intro s a w e s' Q hk h I hq
  simp only [codeOk,Bool.and_eq_true] at hk
  have hd:=dst_of hk.1
  cases draw with
  | false =>
   simp only [evCode,Option.map_eq_some_iff] at h
   obtain ⟨s1,h1,h2⟩:=h
   cases h2
   exact region_ok gk hc he hd I h1 fun a w J=>hq a w (canon_ok _ J)
  | true =>
   simp only [evCode,Option.map_eq_some_iff] at h
   obtain ⟨s1,h1,h2⟩:=h
   cases h2
   exact hdr id ops (by simpa using hk.2) C s s1 a w Q gk hd I h1 fun a w J=>hq a w (canon_ok _ J)
 | seq x y ihx ihy =>
  intro s a w e s' Q hk h I hq
  simp only [codeOk,Bool.and_eq_true] at hk
  simp only [evCode] at h
  refine wp_seq ?_
  cases hx:evCode E K f x s with
  | none=>rw [hx] at h;cases h
  | some r =>
   obtain ⟨e1,s1⟩:=r
   rw [hx] at h
   refine ihx s a w e1 s1 _ hk.1 hx I fun a w J=>?_
   cases e1 with
   | normal=>exact ihy s1 a w e s' Q hk.2 h J hq
   | exit id=>cases h;exact hq a w J
   | ret=>cases h;exact hq a w J
 | cond c x y ihx ihy =>
  intro s a w e s' Q hk h I hq
  simp only [codeOk,Bool.and_eq_true] at hk
  simp only [evCode] at h
  split at h<;>try (cases h;done)
  rename_i m b hb
  obtain ⟨R,loc,fp,J⟩:=I
  have hv:=opnd_rep gk J c
  rw [hb] at hv
  obtain ⟨S,g1,_⟩:=scal hv
  have hcv:a.eval c=.bool b:=by
   generalize a.eval c=v at g1
   cases g1
   rfl
  refine wp_cond hcv ?_
  cases b with
  | true=>exact ihx s a w e s' Q hk.1 h ⟨R,loc,fp,J⟩ hq
  | false=>exact ihy s a w e s' Q hk.2 h ⟨R,loc,fp,J⟩ hq
 | block id x ih =>
  intro s a w e s' Q hk h I hq
  simp only [codeOk] at hk
  simp only [evCode] at h
  refine wp_block ?_
  cases hx:evCode E K f x s with
  | none=>rw [hx] at h;cases h
  | some r =>
   obtain ⟨e1,s1⟩:=r
   rw [hx] at h
   refine ih s a w e1 s1 _ hk hx I fun a w J=>?_
   cases e1 with
   | normal=>cases h;exact hq a w J
   | exit id' =>
    simp only at h
    show (if id'=id then Q .normal a w else Q (.exit id') a w)
    split at h<;>rename_i hid
    ·cases h;rw [if_pos hid];exact hq a w J
    ·cases h;rw [if_neg hid];exact hq a w J
   | ret=>cases h;exact hq a w J
 | loop x ih =>
  intro s a w e s' Q hk h I hq
  simp only [codeOk] at hk
  simp only [evCode] at h
  obtain ⟨n,hn⟩:=loopLim_iff.1 h
  let Pn:Act→World→Nat→Prop:=fun a w n=>∃ s,InvX C s a w∧loopN (evCode E K f x) n s=some (e,s')
  classical
  let μ:Act→World→Nat:=fun a w=>if h:∃ n,Pn a w n then (leastN h).choose else 0
  refine wp_loop (fun a w=>∃ n,Pn a w n) μ ⟨n,s,I,hn⟩ fun a w hI=>?_
  have hμ:μ a w=(leastN hI).choose:=dif_pos hI
  obtain ⟨⟨s0,I0,h0⟩,_⟩:=(leastN hI).choose_spec
  rw [← hμ] at h0
  cases hm:μ a w with
  | zero=>rw [hm] at h0;simp [loopN] at h0
  | succ m =>
   rw [hm] at h0
   simp only [loopN] at h0
   cases hx:evCode E K f x s0 with
   | none=>rw [hx] at h0;cases h0
   | some r =>
    obtain ⟨e1,s1⟩:=r
    rw [hx] at h0
    refine ih s0 a w e1 s1 _ hk hx I0 fun a' w' J=>?_
    cases e1 with
    | normal =>
     have hP:Pn a' w' m:=⟨s1,J,h0⟩
     refine ⟨⟨m,hP⟩,?_⟩
     have hE:∃ n,Pn a' w' n:=⟨m,hP⟩
     have h1:μ a' w'=(leastN hE).choose:=dif_pos hE
     rw [h1]
     exact Nat.lt_succ_of_le ((leastN hE).choose_spec.2 m hP)
    | exit id=>cases h0;exact hq a' w' J
    | ret=>cases h0;exact hq a' w' J
 | _ =>
  intro s a w e s' Q hk h I hq
  simp [evCode] at h
end
end Go.Ev


namespace Go.Ev
section
variable {E:Env} {C:Cf} {s:St} {a:Act} {w:World} {R:Nat→Prop} {loc:Root→Loc} {fp:Root→List Nat} {F:List Nat}
theorem load_core {t:TypeId} {v:Value} {x y:AV} (I:Inv C s a w R loc fp F) (hx:AVRep w R C.B s.H loc v x) (h:evLoad E t x s=some y) :
  ∃ b p u,v=.pointer (some ⟨b,p,none⟩)∧(loadVar t ⟨b,p,none⟩).run E.P w=.ok u w∧AVRep w R C.B s.H loc u y:=by
 unfold evLoad at h
 split at h<;>try (cases h;done)
 rename_i ti ht
 split at h
 ·rename_i m ls
  split at h<;>cases h
  rename_i hn
  obtain ⟨S,h1,h2,h3⟩:=scal hx
  cases h1 with
  | ref b p cs T fr _ S hb hl hr =>
   have hr':=(hr.split ti.size)
   obtain ⟨S1,S2,rfl,hr1,hr2⟩:=hr'
   have hcut:((cs.toList.drop p).take ls.length).take ti.size=(cs.toList.drop p).take ti.size:=by rw [List.take_take,Nat.min_eq_left hn]
   rw [hcut] at hr1
   obtain ⟨v,hrun,hcells,hagg⟩:=run_loadVar' ht hb (by omega) hr1.one
   exact ⟨b,p,v,rfl,hrun,S1,by rw [hcells];exact hr1,hagg,fun c hc=>h2 c (by simp [hc]),fun hm=>absurd (h3 hm) (by simp [L.flat])⟩
 ·rename_i r k0 k1 off hops
  split at h<;>try (cases h;done)
  rename_i hh suf hg
  split at h<;>try (cases h;done)
  rename_i hn
  obtain ⟨q⟩:=I.pointed hx hg hn
  obtain ⟨v,hrun,hcells,hagg⟩:=run_loadVar' ht q.hb q.hp (by rw [q.hc];exact q.ln.rep.one)
  rw [q.hc] at hcells
  refine ⟨q.b,q.p,v,q.hv,hrun,?_⟩
  split at h
  ·rename_i hf
   cases h
   exact ⟨[],by rw [hcells];exact q.ln.rep.flatAny hf w false,hagg,by simp,by simp [M.isOwn]⟩
  ·split at h
   ·cases h
    refine ⟨hh,q.hh,Nat.le_refl _,Nat.le_refl _,fun _ _=>⟨hagg,?_⟩⟩
    rw [hcells];exact q.ln.hc
   ·rename_i hm
    cases h
    exact ⟨q.ln.Sm,by rw [hcells];exact q.ln.rep.weak,hagg,q.al (by simpa using hm),fun h=>absurd h hm⟩
 ·cases h
def stepRV (a:Act):ResultVar→Sem Value
 | .tmp t=>pure (a.tmps.getD t undef)
 | .cell d t=>do loadVar t (← asAddr (a.tmps.getD d undef))
theorem RVRep.mono {R R' B:Nat→Prop} {v:Value} {f:List Nat} {x:RV} (h:RVRep w R B v f x) (hR:∀ b,R b→R' b):RVRep w R' B v f x:=by
 cases x with
 | ptr m ls =>
  obtain ⟨b,e,⟨hr⟩⟩:=h
  exact ⟨b,e,hr.lend hR (fun _ _ _ h=>.inr h) rfl rfl rfl rfl⟩
 | v m agg ls =>
  obtain ⟨e,S,g1,g2,g3⟩:=h
  exact ⟨e,S,g1,g2.imp id fun h b hb=>(h b hb).mono hR,g3⟩
theorem embed_rv {v:Value} {x:AV} {fz:Bool} {q:M × Bool × List L × St} (I:Inv C s a w R loc fp F) (hx:AVRep w R C.B s.H loc v x) (h:s.embed fz x=some q) :
  ∃ R' loc' fp' f,Inv C q.2.2.2 a w R' loc' fp' (F++f)∧RVRep w R' C.B v f (.v q.1 q.2.1 q.2.2.1)∧(∀ b,R b→R' b)∧q.2.2.2.V=s.V:=by
 obtain ⟨m,agg,ls,s'⟩:=q
 obtain ⟨tk⟩:=I.embed hx h
 exact ⟨tk.R',tk.loc',tk.fp',_,tk.inv,⟨tk.agg,tk.S,tk.rep,tk.al,rfl⟩,tk.mono,tk.hV⟩
theorem alias_kill {w w':World} {R R' B:Nat→Prop} {H H':List (Root × HC)} {loc loc':Root→Loc} {r:Root} {h h':HC} {y:AV} {u:Value} (hy:AVRep1 w R B H loc u y) (hr:r∈root1 y) (hh:lookH H r=some h) (hh':lookH H' r=some h')
  (hbox:h'.box=false) (he0:h'.e0=h.e0+1) (he1:h.e1≤h'.e1) (hz:h'.lz=none):AVRep1 w' R' B H' loc' u y:=by
 cases y with
 | dead=>trivial
 | nil=>exact hy
 | v m agg ls=>simp [root1] at hr
 | tup xs=>exact hy.elim
 | «at» q k0 k1 off hops n agg =>
  simp only [root1,List.mem_singleton] at hr
  subst hr
  obtain ⟨h0,g1,g2,g3,g4⟩:=hy
  rw [hh] at g1
  cases g1
  refine ⟨h',hh',by omega,by omega,fun ok pl=>?_⟩
  have hno:h'.okAt off n hops k0 k1=false:=by cases hops<;>simp [HC.okAt,HC.keeps,hz]<;>omega
  rw [hno] at ok;cases ok
 | ad q k0 k1 off hops =>
  simp only [root1,List.mem_singleton] at hr
  subst hr
  obtain ⟨h0,g1,g2,g3,g4⟩:=hy
  rw [hh] at g1
  cases g1
  refine ⟨h',hh',by omega,by omega,fun ok=>?_⟩
  have hno:h'.okAd off hops k0 k1=false:=by
   cases hops with
   | nil=>exact hbox
   | cons h1 hs=>cases hs<;>simp [HC.okAd,HC.keeps,hz]<;>omega
  rw [hno] at ok;cases ok
 | win q k0 k1 off lo n =>
  simp only [root1,List.mem_singleton] at hr
  subst hr
  obtain ⟨h0,g1,g2,g3,g4⟩:=hy
  rw [hh] at g1
  cases g1
  exact ⟨h',hh',by omega,by omega,fun ok=>by omega⟩
theorem result_ok {fz:List Nat} {rv:ResultVar} {x:RV} {s':St} (I:Inv C s a w R loc fp F) (h:evResult E fz s rv=some (x,s')) :
  ∃ R' loc' fp' v f,(stepRV a rv).run E.P w=.ok v w∧Inv C s' a w R' loc' fp' (F++f)∧RVRep w R' C.B v f x∧(∀ b,R b→R' b)∧s'.V=s.V:=by
 cases rv with
 | tmp t =>
  simp only [evResult] at h
  have hv:=I.av t
  have viaEmbed:∀ y,look s.V t=y→(s.embed (fz.contains t) y).map (fun q=>(RV.v q.1 q.2.1 q.2.2.1,q.2.2.2))=some (x,s')→∃ R' loc' fp' v f,(stepRV a (.tmp t)).run E.P w=.ok v w∧Inv C s' a w R' loc' fp' (F++f)∧RVRep w R' C.B v f x∧(∀ b,R b→R' b)∧s'.V=s.V:=by
   intro y hy h
   simp only [Option.map_eq_some_iff] at h
   obtain ⟨q,hq,e⟩:=h
   cases e
   rw [hy] at hv
   obtain ⟨R',loc',fp',f,g1,g2,g3,g4⟩:=embed_rv I hv hq
   exact ⟨R',loc',fp',_,f,rfl,g1,g2,g3,g4⟩
  split at h
  ·rename_i r k0 k1 hl
   rw [hl] at hv
   split at h<;>try (cases h;done)
   rename_i r _ _ h0 hnp hlk
   split at h<;>cases h
   rename_i hc
   simp only [Bool.and_eq_true] at hc
   obtain ⟨h1,g1,g2,g3,g4⟩:=hv
   rw [hlk] at g1;cases g1
   obtain ⟨b,hlb,hvb⟩:=g4 (by simpa [HC.okAd] using hc.1)
   obtain ⟨hr⟩:=I.rep _ _ hlk
   have hr':=hr.lend (h':=hcOf true h0.m h0.ls) (Rc:=R) (Bc:=C.B) (fun _ h=>h) (fun _ _ _ h=>.inr h) (by simp [hcOf,hc.1]) (by simp [hcOf,hc.2]) rfl rfl
   rw [hlb] at hr'
   have J:=I.root r { box:=false,wr:=false,m:=.own,ls:=[],e0:=h0.e0+1,e1:=h0.e1+1 } (.vals []) [] (w':=w) (R':=R) (F':=F++fp r) (fun b=>b∈F∨b∈fp r) (fun b hb=>hb.imp id fun q=>⟨⟨h0,hlk⟩,q⟩)
    ⟨rfl,rfl,rfl,Nat.le_refl _,fun _ _ _=>rfl⟩ (fun _ h=>h) (fun b hb=>.inl hb) ⟨{ S:=[],ob:=[],rep:=.nil _,fpe:=by simp [M.isOwn],al:=.inl rfl,bx:=.inr ⟨rfl,⟨_,rfl⟩,rfl⟩ }⟩
    (fun b hb=>by
     simp only [List.nil_append,List.mem_append] at hb
     have hx:Held C w R b:=hb.elim (I.fheld b) (I.held r h0 hlk b)
     exact ⟨.inl hb,hx.1,hx.2.2.1⟩)
    (by simp only [List.nil_append];exact List.nodup_append.2 ⟨I.fnd,I.nd r h0 hlk,fun b hb c hc e=>I.fdj r h0 hlk b hb (e ▸ hc)⟩) (fun _ _ _=>.inr trivial)
    (fun y u hy hu=>alias_kill hu hy hlk (by rw [lookH_put,if_pos rfl]) rfl rfl (by simp) rfl)
    (fun i b e hp=>(hnp i e).elim)
   exact ⟨R,_,_,_,fp r,rfl,J,⟨b,hvb,hr'⟩,fun _ h=>h,rfl⟩
  ·exact viaEmbed _ rfl h
 | cell d t =>
  simp only [evResult] at h
  split at h<;>try (cases h;done)
  rename_i y hy
  simp only [Option.map_eq_some_iff] at h
  obtain ⟨q,hq,e⟩:=h
  cases e
  obtain ⟨b,p,u,e1,e2,e3⟩:=load_core I (I.av d) hy
  obtain ⟨R',loc',fp',f,g1,g2,g3,g4⟩:=embed_rv I e3 hq
  exact ⟨R',loc',fp',u,f,by simp [stepRV,e1,asAddr,e2],g1,g2,g3,g4⟩
theorem results_ok {fz:List Nat}:∀ (rvs:List ResultVar) (s s':St) (xs:List RV) (R:Nat→Prop) (loc:Root→Loc) (fp:Root→List Nat) (F:List Nat),Inv C s a w R loc fp F→evResults E fz rvs s=some (xs,s') →
  ∃ R' loc' fp' vs fs,(rvs.mapM (stepRV a)).run E.P w=.ok vs w∧Inv C s' a w R' loc' fp' (F++fs.flatten)∧RVsRep w R' C.B xs vs fs∧(∀ b,R b→R' b)
 | [],s,s',xs,R,loc,fp,F,I,h=>by
  simp only [evResults,Option.some.injEq,Prod.mk.injEq] at h
  obtain ⟨rfl,rfl⟩:=h
  exact ⟨R,loc,fp,[],[],by simp,by simpa using I,.nil,fun _ h=>h⟩
 | rv::rvs,s,s',xs,R,loc,fp,F,I,h=>by
  simp only [evResults] at h
  split at h<;>try (cases h;done)
  rename_i x s1 h1
  split at h<;>try (cases h;done)
  rename_i xs2 s2 h2
  simp only [Option.some.injEq,Prod.mk.injEq] at h
  obtain ⟨rfl,rfl⟩:=h
  obtain ⟨R1,loc1,fp1,v,f,g1,g2,g3,g4,_⟩:=result_ok I h1
  obtain ⟨R2,loc2,fp2,vs,fs,k1,k2,k3,k4⟩:=results_ok rvs s1 _ xs2 R1 loc1 fp1 (F++f) g2 h2
  exact ⟨R2,loc2,fp2,v::vs,f::fs,by simp [List.mapM_cons,g1,k1],by simpa [List.append_assoc] using k2,.cons (g3.mono k4) k3,fun b hb=>k4 b (g4 b hb)⟩
theorem retVal_of (vs:List Value):(if h:(⟨vs⟩:Array Value).size=1 then (⟨vs⟩:Array Value)[0] else .tuple ⟨vs⟩)=retVal vs:=by
 match vs with
 | []=>rfl
 | [v]=>rfl
 | _::_::_=>simp [retVal]
theorem run_results {fn:Func} {vs:List Value} (h:(fn.results.toList.mapM (stepRV a)).run E.P w=.ok vs w):(results fn a.tmps).run E.P w=.ok (retVal vs) w:=by
 have e:fn.results.mapM (stepRV a)=(do pure (← fn.results.toList.mapM (stepRV a)).toArray):=by
  rw [Array.mapM_eq_mapM_toList]
  rfl
 have e2:results fn a.tmps=(do let vs ← fn.results.mapM (stepRV a);pure (if h:vs.size=1 then vs[0] else .tuple vs):Sem Value):=by
  unfold results
  refine congrArg (fun g:ResultVar→Sem Value=>(do let vs ← fn.results.mapM g;pure (if h:vs.size=1 then vs[0] else .tuple vs):Sem Value)) (?_:_=stepRV a)
  funext x
  cases x<;>rfl
 rw [e2,e]
 simp only [Sem.run_bind,h,Result.andThen_ok,Sem.run_pure]
 rw [← retVal_of]
theorem outs_ok (I:Inv C s a w R loc fp F):∀ (args:List Arg) (vs:List Value) (i:Nat) (outs:List (M × List L)),outsOf s args i=some outs→args.length=vs.length→(∀ j m ls,args[j]?=some (.ptr m ls)→∃ b,vs[j]?=some (.pointer (some ⟨b,0,none⟩))∧loc (.p (i+j))=.blk b)→(∀ j agg ls,args[j]?=some (.io agg ls)→∃ v,vs[j]?=some v∧loc (.p (i+j))=.vals v.cells.toList) →
  ∃ rs:List Nat,OutsRep w R C.B outs (boxesOf args vs) (rs.map fun j=>fp (.p j))∧rs.Nodup∧∀ j∈rs,i≤j∧∃ h,lookH s.H (.p j)=some h
 | [],[],i,outs,h,_,_,_=>by
  simp only [outsOf,Option.some.injEq] at h
  subst h
  exact ⟨[],.nil,by simp,by simp⟩
 | x::args,v::vs,i,outs,h,hl,hp,hio=>by
  have hio':∀ j agg ls,args[j]?=some (.io agg ls)→∃ v,vs[j]?=some v∧loc (.p (i+1+j))=.vals v.cells.toList:=fun j agg ls hj=>by
   have:=hio (j+1) agg ls (by simpa using hj)
   rwa [show i+(j+1)=i+1+j by omega] at this
  have hp':∀ j m ls,args[j]?=some (.ptr m ls)→∃ b,vs[j]?=some (.pointer (some ⟨b,0,none⟩))∧loc (.p (i+1+j))=.blk b:=fun j m ls hj=>by
   have:=hp (j+1) m ls (by simpa using hj)
   rwa [show i+(j+1)=i+1+j by omega] at this
  have hl':args.length=vs.length:=by simpa using hl
  have skip:outsOf s args (i+1)=some outs→boxesOf (x::args) (v::vs)=boxesOf args vs→∃ rs:List Nat,OutsRep w R C.B outs (boxesOf (x::args) (v::vs)) (rs.map fun j=>fp (.p j))∧rs.Nodup∧∀ j∈rs,i≤j∧∃ h,lookH s.H (.p j)=some h:=by
   intro h e
   obtain ⟨rs,g1,g2,g3⟩:=outs_ok I args vs (i+1) outs h hl' hp' hio'
   exact ⟨rs,by rw [e];exact g1,g2,fun j hj=>⟨by have:=(g3 j hj).1;omega,(g3 j hj).2⟩⟩
  cases x with
  | v m agg ls=>exact skip (by simpa [outsOf] using h) rfl
  | own agg ls=>exact skip (by simpa [outsOf] using h) rfl
  | ptr m ls =>
   simp only [outsOf] at h
   split at h<;>try (cases h;done)
   rename_i h0 r hlk hr
   split at h<;>cases h
   rename_i hc
   simp only [Bool.and_eq_true] at hc
   obtain ⟨b,hv,hlb⟩:=hp 0 m ls rfl
   simp only [List.getElem?_cons_zero,Option.some.injEq] at hv
   subst hv
   obtain ⟨rs,g1,g2,g3⟩:=outs_ok I args vs (i+1) r hr hl' hp' hio'
   obtain ⟨hrep⟩:=I.rep _ _ hlk
   have hr':=hrep.lend (h':=hcOf true h0.m h0.ls) (Rc:=R) (Bc:=C.B) (fun _ h=>h) (fun _ _ _ h=>.inr h) (by simp [hcOf,hc.1]) (by simp [hcOf,hc.2]) rfl rfl
   rw [show loc (.p i)=.blk b from hlb] at hr'
   refine ⟨i::rs,.cons hr' g1,List.nodup_cons.2 ⟨fun hm=>by have:=(g3 i hm).1;omega,g2⟩,fun j hj=>?_⟩
   rcases List.mem_cons.1 hj with rfl | hj
   ·exact ⟨Nat.le_refl _,h0,hlk⟩
   ·exact ⟨by have:=(g3 j hj).1;omega,(g3 j hj).2⟩
  | io agg ls =>
   simp only [outsOf] at h
   split at h<;>try (cases h;done)
   rename_i h0 r hlk hr
   split at h<;>cases h
   rename_i hc
   simp only [Bool.and_eq_true,Bool.not_eq_true'] at hc
   obtain ⟨v',hv,hlb⟩:=hio 0 agg ls rfl
   simp only [List.getElem?_cons_zero,Option.some.injEq] at hv
   subst hv
   obtain ⟨rs,g1,g2,g3⟩:=outs_ok I args vs (i+1) r hr hl' hp' hio'
   obtain ⟨hrep⟩:=I.rep _ _ hlk
   have hr':=hrep.lend (h':=hcOf false h0.m h0.ls) (Rc:=R) (Bc:=C.B) (fun _ h=>h) (fun _ _ _ h=>.inr h) (by simp [hcOf,hc.1]) (by simp [hcOf,hc.2]) rfl rfl
   rw [show loc (.p i)=.vals v.cells.toList from hlb] at hr'
   refine ⟨i::rs,.cons (b:=.vals v.cells.toList) hr' g1,List.nodup_cons.2 ⟨fun hm=>by have:=(g3 i hm).1;omega,g2⟩,fun j hj=>?_⟩
   rcases List.mem_cons.1 hj with rfl | hj
   ·exact ⟨Nat.le_refl _,h0,hlk⟩
   ·exact ⟨by have:=(g3 j hj).1;omega,(g3 j hj).2⟩
end
end Go.Ev


namespace Go.Ev
theorem look_enter:∀ (args:List Arg) (i t:Nat),look (enter i args).V t=if i≤t then (match args[t - i]? with | some x=>(enterArg t x).1 | none=>.dead) else .dead
 | [],i,t=>by simp [enter,look]
 | x::args,i,t=>by
  have ih:=look_enter args (i+1) t
  have hV:(enter i (x::args)).V=(i,(enterArg i x).1)::(enter (i+1) args).V:=by
   simp only [enter]
   split<;>simp_all
  rw [hV]
  simp only [look]
  by_cases h:i=t
  ·subst h;simp
  ·rw [if_neg h,ih]
   by_cases h2:i≤t
   ·rw [if_pos h2,if_pos (by omega),show t - i=(t - (i+1))+1 by omega,List.getElem?_cons_succ]
   ·rw [if_neg h2,if_neg (by omega)]
theorem lookH_enter:∀ (args:List Arg) (i:Nat) (r:Root) (h:HC),lookH (enter i args).H r=some h↔∃ t x,r=.p t∧i≤t∧args[t - i]?=some x∧(enterArg t x).2=some h
 | [],i,r,h=>by simp [enter,lookH]
 | x::args,i,r,h=>by
  have ih:=lookH_enter args (i+1) r h
  cases hx:(enterArg i x).2 with
  | none =>
   have hH:(enter i (x::args)).H=(enter (i+1) args).H:=by
    simp only [enter]
    split<;>simp_all
   rw [hH,ih]
   constructor
   ·rintro ⟨t,y,rfl,h1,h2,h3⟩
    exact ⟨t,y,rfl,by omega,by rw [show t - i=(t - (i+1))+1 by omega,List.getElem?_cons_succ];exact h2,h3⟩
   ·rintro ⟨t,y,rfl,h1,h2,h3⟩
    by_cases e:i=t
    ·subst e;simp at h2;subst h2;rw [hx] at h3;cases h3
    ·exact ⟨t,y,rfl,by omega,by rw [show t - i=(t - (i+1))+1 by omega,List.getElem?_cons_succ] at h2;exact h2,h3⟩
  | some h0 =>
   have hH:(enter i (x::args)).H=(.p i,h0)::(enter (i+1) args).H:=by
    simp only [enter]
    split<;>simp_all
   rw [hH]
   simp only [lookH]
   by_cases e:Root.p i=r
   ·subst e
    rw [if_pos rfl]
    constructor
    ·intro q;cases q
     exact ⟨i,x,rfl,Nat.le_refl _,by simp,hx⟩
    ·rintro ⟨t,y,e,h1,h2,h3⟩
     cases e
     simp at h2;subst h2;rw [hx] at h3;exact h3
   ·rw [if_neg e,ih]
    constructor
    ·rintro ⟨t,y,rfl,h1,h2,h3⟩
     exact ⟨t,y,rfl,by omega,by rw [show t - i=(t - (i+1))+1 by omega,List.getElem?_cons_succ];exact h2,h3⟩
    ·rintro ⟨t,y,rfl,h1,h2,h3⟩
     have hne:i≠t:=fun q=>e (by rw [q])
     exact ⟨t,y,rfl,by omega,by rw [show t - i=(t - (i+1))+1 by omega,List.getElem?_cons_succ] at h2;exact h2,h3⟩
theorem ps_enter:∀ (args:List Arg) (i t:Nat) (x:Arg) (h:HC),i≤t→args[t - i]?=some x→(enterArg t x).2=some h→t∈(enter i args).ps
 | [],i,t,x,h,_,hx,_=>by simp at hx
 | y::args,i,t,x,h,hi,hx,hh=>by
  by_cases e:i=t
  ·subst e
   simp at hx
   subst hx
   simp only [enter]
   split
   ·simp
   ·simp_all
  ·have ih:=ps_enter args (i+1) t x h (by omega) (by rw [show t - i=(t - (i+1))+1 by omega,List.getElem?_cons_succ] at hx;exact hx) hh
   simp only [enter]
   split
   ·simp [ih]
   ·exact ih
theorem ArgsRep.get {w:World} {R B:Nat→Prop}:∀ {xs vs fps},ArgsRep w R B xs vs fps→∀ (i:Nat) (x:Arg),xs[i]?=some x→∃ v f,vs[i]?=some v∧fps[i]?=some f∧ArgRep w R B v f x
 | _,_,_,.nil,i,x,h=>by simp at h
 | _,_,_,.cons h1 h2,0,x,h=>by
  simp only [List.getElem?_cons_zero,Option.some.injEq] at h
  subst h
  exact ⟨_,_,rfl,rfl,h1⟩
 | _,_,_,.cons h1 h2,i+1,x,h=>by
  simp only [List.getElem?_cons_succ] at h ⊢
  exact h2.get i x h
theorem ArgsRep.len {w:World} {R B:Nat→Prop}:∀ {xs vs fps},ArgsRep w R B xs vs fps→xs.length=vs.length
 | _,_,_,.nil=>rfl
 | _,_,_,.cons _ h=>by simp [h.len]
theorem flat_nodup:∀ {fps:List (List Nat)},fps.flatten.Nodup→∀ (i:Nat) (f:List Nat),fps[i]?=some f→f.Nodup∧(∀ b∈f,b∈fps.flatten)∧∀ (j:Nat) (g:List Nat),fps[j]?=some g→i≠j→∀ b∈f,b ∉ g
 | [],_,i,f,h=>by simp at h
 | a::fps,hn,i,f,h=>by
  simp only [List.flatten_cons] at hn
  have hn2:=List.nodup_append.1 hn
  have hmem:∀ (j:Nat) (g:List Nat),fps[j]?=some g→∀ b∈g,b∈fps.flatten:=fun j g hg b hb=>List.mem_flatten.2 ⟨g,List.mem_of_getElem? hg,hb⟩
  cases i with
  | zero =>
   simp only [List.getElem?_cons_zero,Option.some.injEq] at h
   subst h
   refine ⟨hn2.1,fun b hb=>by simp [hb],fun j g hg hne b hb hb'=>?_⟩
   cases j with
   | zero=>exact hne rfl
   | succ j=>exact hn2.2.2 b hb b (hmem j g (by simpa using hg) b hb') rfl
  | succ i =>
   simp only [List.getElem?_cons_succ] at h
   obtain ⟨h1,h2,h3⟩:=flat_nodup hn2.2.1 i f h
   refine ⟨h1,fun b hb=>by simp only [List.flatten_cons,List.mem_append];exact .inr (h2 b hb),fun j g hg hne b hb hb'=>?_⟩
   cases j with
   | zero =>
    simp only [List.getElem?_cons_zero,Option.some.injEq] at hg
    subst hg
    exact hn2.2.2 b hb' b (h2 b hb) rfl
   | succ j=>exact h3 j g (by simpa using hg) (by omega) b hb hb'
def locArg:Option Arg→Option Value→Loc
 | some (.own ..),some v=>.vals v.cells.toList
 | some (.io ..),some v=>.vals v.cells.toList
 | some (.ptr ..),some (.pointer (some p))=>.blk p.block
 | _,_=>.vals []
def entryCf (w:World) (R B:Nat→Prop) (args:List Arg) (vs:List Value) (fps:List (List Nat)) (N:Nat):Cf :=
 { w0:=w,G:=fun b=>b∈fps.flatten,R0:=R,B,N,PL:=fun i=>ptrLoc args[i]? vs[i]? }
theorem enter_ok {w:World} {R B:Nat→Prop} {args:List Arg} {vs:List Value} {fps:List (List Nat)} {N:Nat} (h:ArgsRep w R B args vs fps) (hlt:∀ b,R b∨B b→b<w.heap.size) (hh:∀ b∈fps.flatten,¬ R b∧¬ B b∧Free w b) (hn:fps.flatten.Nodup) (hN:vs.length≤N) :
  Inv (entryCf w R B args vs fps N) (enter 0 args) { tmps:=(⟨vs⟩:Array Value)++Array.replicate (N - vs.length) undef,defers:=[] } w R (fun | .p i=>locArg args[i]? vs[i]? | _=>.vals []) (fun | .p i=>fps.getD i [] | _=>[]) []:=by
 have hcls:∀ r hc,lookH (enter 0 args).H r=some hc→∃ t x v f,r=.p t∧args[t]?=some x∧(enterArg t x).2=some hc∧vs[t]?=some v∧fps[t]?=some f∧ArgRep w R B v f x:=by
  intro r hc hr
  obtain ⟨t,x,rfl,_,h2,h3⟩:=(lookH_enter args 0 r hc).1 hr
  obtain ⟨v,f,g1,g2,g3⟩:=h.get t x h2
  exact ⟨t,x,v,f,rfl,h2,h3,g1,g2,g3⟩
 have hfp:∀ (t:Nat) f,fps[t]?=some f→fps.getD t []=f:=fun t f hf=>by rw [List.getD_eq_getElem?_getD,hf];rfl
 have hget:∀ t v,vs[t]?=some v→((⟨vs⟩:Array Value)++Array.replicate (N - vs.length) undef).getD t undef=v:=by
  intro t v hv
  obtain ⟨hl,_⟩:=List.getElem?_eq_some_iff.1 hv
  rw [Array.getD_eq_getD_getElem?,Array.getElem?_append_left (by simpa using hl)]
  simp [hv]
 exact
  {kp:=⟨rfl,rfl,rfl,Nat.le_refl _,fun _ _ _=>rfl⟩
   r0:=fun _ h=>h,rnew:=fun b hb=>.inl hb,rlt:=hlt
   rep:=fun r hc hr=>by
    obtain ⟨t,x,v,f,rfl,h1,h2,h3,h4,h5⟩:=hcls r hc hr
    show Nonempty (HRep w R B hc (locArg args[t]? vs[t]?) (fps.getD t []))
    rw [hfp t f h4,h1,h3]
    cases x with
    | v m agg ls=>simp [enterArg] at h2
    | own agg ls =>
     simp only [enterArg,Option.some.injEq] at h2
     subst h2
     exact h5.2
    | io agg ls =>
     simp only [enterArg,Option.some.injEq] at h2
     subst h2
     exact h5.2
    | ptr m ls =>
     simp only [enterArg,Option.some.injEq] at h2
     subst h2
     obtain ⟨b,rfl,h6⟩:=h5
     exact h6
   held:=fun r hc hr b hb=>by
    obtain ⟨t,x,v,f,rfl,h1,h2,h3,h4,h5⟩:=hcls r hc hr
    have hb:b∈fps.getD t []:=hb
    rw [hfp t f h4] at hb
    have hm:=(flat_nodup hn t f h4).2.1 b hb
    obtain ⟨q1,q2,q3⟩:=hh b hm
    exact ⟨q1,q2,q3,.inr hm⟩
   nd:=fun r hc hr=>by
    obtain ⟨t,x,v,f,rfl,h1,h2,h3,h4,h5⟩:=hcls r hc hr
    show (fps.getD t []).Nodup
    rw [hfp t f h4]
    exact (flat_nodup hn t f h4).1
   dj:=fun r hc r' hc' hr hr' hne b hb hb'=>by
    obtain ⟨t,x,v,f,rfl,h1,h2,h3,h4,h5⟩:=hcls r hc hr
    obtain ⟨t',x',v',f',rfl,h1',h2',h3',h4',h5'⟩:=hcls r' hc' hr'
    have hb:b∈fps.getD t []:=hb
    have hb':b∈fps.getD t' []:=hb'
    rw [hfp t f h4] at hb
    rw [hfp t' f' h4'] at hb'
    exact (flat_nodup hn t f h4).2.2 t' f' h4' (fun e=>hne (by rw [e])) b hb hb'
   fheld:=by simp
   fnd:=by simp
   fdj:=by simp
   av:=fun t=>by
    rw [look_enter]
    simp only [Nat.zero_le,if_true,Nat.sub_zero]
    cases hx:args[t]? with
    | none=>trivial
    | some x =>
     obtain ⟨v,f,g1,g2,g3⟩:=h.get t x hx
     rw [hget t v g1]
     cases x with
     | v m agg ls=>exact g3.2
     | own agg ls =>
      obtain ⟨ha,⟨hr⟩⟩:=g3
      refine ⟨hcOf false .own ls,(lookH_enter args 0 _ _).2 ⟨t,_,rfl,Nat.zero_le _,by simpa using hx,rfl⟩,Nat.le_refl _,Nat.le_refl _,fun _ _=>⟨ha,?_⟩⟩
      have:=hr.rep.len
      show (cpl w ((locArg args[t]? vs[t]?).cells w) 0 []).map _=_
      rw [hx,g1]
      simp only [locArg,Loc.cells,cpl,List.drop_zero,Option.map_some,Option.some.injEq]
      exact List.take_of_length_le (by simp only [Loc.cells,hcOf] at this;omega)
     | io agg ls =>
      obtain ⟨ha,⟨hr⟩⟩:=g3
      refine ⟨hcOf false .own ls,(lookH_enter args 0 _ _).2 ⟨t,_,rfl,Nat.zero_le _,by simpa using hx,rfl⟩,Nat.le_refl _,Nat.le_refl _,fun _ _=>⟨ha,?_⟩⟩
      have:=hr.rep.len
      show (cpl w ((locArg args[t]? vs[t]?).cells w) 0 []).map _=_
      rw [hx,g1]
      simp only [locArg,Loc.cells,cpl,List.drop_zero,Option.map_some,Option.some.injEq]
      exact List.take_of_length_le (by simp only [Loc.cells,hcOf] at this;omega)
     | ptr m ls =>
      obtain ⟨b,rfl,⟨hr⟩⟩:=g3
      refine ⟨hcOf true m ls,(lookH_enter args 0 _ _).2 ⟨t,_,rfl,Nat.zero_le _,by simpa using hx,rfl⟩,Nat.le_refl _,Nat.le_refl _,fun _=>⟨b,?_,rfl⟩⟩
      show locArg args[t]? vs[t]?=_
      rw [hx,g1]
      rfl
   df:=rfl
   sz:=by
    show ((⟨vs⟩:Array Value)++Array.replicate (N - vs.length) undef).size=N
    simp;omega
   pl:=fun t b hb=>by
    have hb:ptrLoc args[t]? vs[t]?=some b:=hb
    cases hx:args[t]? with
    | none=>rw [hx] at hb;simp [ptrLoc] at hb
    | some x =>
     obtain ⟨v,f,g1,g2,g3⟩:=h.get t x hx
     rw [hx,g1] at hb
     cases x with
     | v m agg ls=>simp [ptrLoc] at hb
     | own agg ls=>simp [ptrLoc] at hb
     | ptr m ls =>
      obtain ⟨b',rfl,hr⟩:=g3
      simp only [ptrLoc,Option.some.injEq] at hb
      subst hb
      refine ⟨?_,ps_enter args 0 t _ (hcOf true m ls) (Nat.zero_le _) (by simpa using hx) rfl,hcOf true m ls,(lookH_enter args 0 _ _).2 ⟨t,_,rfl,Nat.zero_le _,by simpa using hx,rfl⟩,rfl⟩
      show locArg args[t]? vs[t]?=_
      rw [hx,g1]
      rfl
     | io agg ls =>
      simp only [ptrLoc,Option.some.injEq] at hb
      subst hb
      refine ⟨?_,ps_enter args 0 t _ (hcOf false .own ls) (Nat.zero_le _) (by simpa using hx) rfl,hcOf false .own ls,(lookH_enter args 0 _ _).2 ⟨t,_,rfl,Nat.zero_le _,by simpa using hx,rfl⟩,rfl⟩
      show locArg args[t]? vs[t]?=_
      rw [hx,g1]
      rfl }
end Go.Ev


namespace Go.Ev
theorem flatten_nodup_map {f:Nat→List Nat}:∀ (rs:List Nat),rs.Nodup→(∀ j∈rs,(f j).Nodup)→(∀ i∈rs,∀ j∈rs,i≠j→∀ b∈f i,b ∉ f j)→(rs.map f).flatten.Nodup
 | [],_,_,_=>by simp
 | r::rs,h1,h2,h3=>by
  have h1':=List.nodup_cons.1 h1
  simp only [List.map_cons,List.flatten_cons]
  refine List.nodup_append.2 ⟨h2 r (by simp),flatten_nodup_map rs h1'.2 (fun j hj=>h2 j (by simp [hj])) (fun i hi j hj=>h3 i (by simp [hi]) j (by simp [hj])),fun b hb c hc e=>?_⟩
  subst e
  obtain ⟨l,hl,hbl⟩:=List.mem_flatten.1 hc
  obtain ⟨j,hj,rfl⟩:=List.mem_map.1 hl
  exact h3 r (by simp) j (by simp [hj]) (fun e=>h1'.1 (e ▸ hj)) b hb hbl
theorem body_con {E:Env} {K:Fns} {d:Nat→Array Oper→Bool} (hc:Cons' E K) (he:EqOk E.P) {f:FuncId} {args:List Arg} {out:Out} (hdr:∀ id ops,d id ops=true→DrawOk E K (E.fz f) (E.conf f id) id ops)
  (hst : ∀ fn c, E.P.funcs[f]? = some fn → fn.body = some c → (fn.name == "runtime.NumGoroutine") = false ∧ codeOk fn.ntmps d c = true) (h : evBody E K f args = some out) : Con E f args out := by
 unfold evBody at h
 split at h<;>try (cases h;done)
 rename_i fn hf
 split at h<;>try (cases h;done)
 rename_i c hb
 split at h<;>try (cases h;done)
 rename_i hl
 obtain ⟨hname,hk⟩:=hst fn c hf hb
 intro w R B vs fps ha hg hlt hh hn
 have hlen:=ha.len
 left
 have hne : ¬ fn.name = "runtime.NumGoroutine" := by simpa using hname
 refine ⟨by simp [callFunc,hf,hne,hb],?_⟩
 have hI:=enter_ok ha hlt hh hn (N:=fn.ntmps) (by omega)
 have gk:GlobOk E (entryCf w R B args vs fps fn.ntmps):=⟨hg,fun b hb=>⟨hlt b hb,fun hG=>hb.elim (hh b hG).1 (hh b hG).2.1⟩⟩
 refine calls_of_wp hf hb ?_
 have fin:∀ (e:Ex) (s:St),evCode E K f c (enter 0 args)=some (e,s)→(e=.normal∨e=.ret)→(match evResults E (E.fz f) fn.results.toList s with | some (rs,s')=>(outsOf s' args 0).map fun outs=>({ rs,outs }:Out) | none=>none)=some out →
   c.wp E.P (bodyPost E.P fn fun | .returned v,w'=>Nonempty (Ans w R B (fun b=>b∈fps.flatten) out (boxesOf args vs) v w') | _,_=>False) { tmps:=(⟨vs⟩:Array Value)++Array.replicate (fn.ntmps - vs.length) undef,defers:=[] } w:=by
  intro e s hev hee hr
  refine code_ok gk hc he hdr c (enter 0 args) _ w e s _ hk hev ⟨_,_,_,hI⟩ fun a w' J=>?_
  have goal:a.defers=[]∧∃ v,(results fn a.tmps).run E.P w'=.ok v w'∧Nonempty (Ans w R B (fun b=>b∈fps.flatten) out (boxesOf args vs) v w'):=by
   obtain ⟨R1,loc1,fp1,J⟩:=J
   split at hr<;>try (cases hr;done)
   rename_i rs s2 hres
   simp only [Option.map_eq_some_iff] at hr
   obtain ⟨outs,ho,rfl⟩:=hr
   obtain ⟨R2,loc2,fp2,vs',fs,g1,g2,g3,g4⟩:=results_ok (a:=a) (w:=w') fn.results.toList s s2 rs R1 loc1 fp1 [] J hres
   simp only [List.nil_append] at g2
   refine ⟨J.df,_,run_results g1,?_⟩
   obtain ⟨is,o1,o2,o3⟩:=outs_ok g2 args vs 0 outs ho hlen (fun j m ls hj=>by
    obtain ⟨v,f0,q1,q2,q3⟩:=ha.get j _ hj
    obtain ⟨b,rfl,_⟩:=q3
    refine ⟨b,q1,?_⟩
    rw [Nat.zero_add]
    exact (g2.pl j (.blk b) (by show ptrLoc args[j]? vs[j]?=some (.blk b);rw [hj,q1];rfl)).1) (fun j agg ls hj=>by
    obtain ⟨v,f0,q1,q2,q3⟩:=ha.get j _ hj
    refine ⟨v,q1,?_⟩
    rw [Nat.zero_add]
    exact (g2.pl j (.vals v.cells.toList) (by show ptrLoc args[j]? vs[j]?=some _;rw [hj,q1];rfl)).1)
   refine ⟨{ R':=R2,vs:=vs',fps:=fs,ofps:=is.map fun j=>fp2 (.p j),hv:=rfl,kp:=g2.kp,mono:=g2.r0,new:=g2.rnew,lt:=fun b hb=>g2.rlt b (.inl hb),rs:=g3,outs:=o1,held:=fun b hb=>?_,nd:=?_ }⟩
   ·rcases List.mem_append.1 hb with hb | hb
    ·exact g2.fheld b hb
    ·obtain ⟨l,hl,hbl⟩:=List.mem_flatten.1 hb
     obtain ⟨j,hj,rfl⟩:=List.mem_map.1 hl
     obtain ⟨h0,hlk⟩:=(o3 j hj).2
     exact g2.held _ h0 hlk b hbl
   ·refine List.nodup_append.2 ⟨g2.fnd,flatten_nodup_map is o2 (fun j hj=>?_) (fun i hi j hj hne b hb=>?_),fun b hb c hc e=>?_⟩
    ·obtain ⟨h0,hlk⟩:=(o3 j hj).2
     exact g2.nd _ h0 hlk
    ·obtain ⟨h0,hlk⟩:=(o3 i hi).2
     obtain ⟨h1,hlk1⟩:=(o3 j hj).2
     exact g2.dj _ h0 _ h1 hlk hlk1 (fun e=>hne (by cases e;rfl)) b hb
    ·subst e
     obtain ⟨l,hl,hbl⟩:=List.mem_flatten.1 hc
     obtain ⟨j,hj,rfl⟩:=List.mem_map.1 hl
     obtain ⟨h0,hlk⟩:=(o3 j hj).2
     exact g2.fdj _ h0 hlk b hb hbl
  rcases hee with rfl | rfl
  ·exact goal
  ·exact goal
 split at h
 ·rename_i s hev
  exact fin _ s hev (.inl rfl) h
 ·rename_i s hev
  exact fin _ s hev (.inr rfl) h
 ·cases h
structure EnvOk (E:Env) (d:FuncId→Nat→Array Oper→Bool):Prop where
 eq:EqOk E.P
 draw:∀ K,Cons' E K→∀ f id ops,d f id ops=true→DrawOk E K (E.fz f) (E.conf f id) id ops
 body : ∀ f fn c, E.ext f = none → E.P.funcs[f]? = some fn → fn.body = some c → (fn.name == "runtime.NumGoroutine") = false ∧ codeOk fn.ntmps (d f) c = true
 ext:∀ f k args out,E.ext f=some k→k args=some out→Con E f args out
theorem evN_sound {E:Env} {d:FuncId→Nat→Array Oper→Bool} (h:EnvOk E d):∀ n,Cons' E (evN E n)
 | 0=>fun f args out h=>by simp [evN] at h
 | n+1=>fun f args out hx=>by
  rw [evN] at hx
  split at hx
  ·rename_i k hk
   exact h.ext f k args out hk hx
  ·rename_i hk
   exact body_con (evN_sound h n) h.eq (h.draw _ (evN_sound h n) f) (fun fn c hf hb=>h.body f fn c hk hf hb) hx
theorem ev_sound {E:Env} {d:FuncId→Nat→Array Oper→Bool} (h:EnvOk E d):Cons' E (ev E):=fun f args out hx=>by
 obtain ⟨n,hn⟩:=(ev_iff E).1 hx
 exact evN_sound h n f args out hn
end Go.Ev


namespace Go.Ev
theorem body_con2 {E : Env} {f : FuncId} {args : List Arg} {out : Out} {fn : Func} {c : Code} (hf : E.P.funcs[f]? = some fn) (hb : fn.body = some c) (hname : (fn.name == "runtime.NumGoroutine") = false)
  (hl1:args.length=fn.params.size+fn.nfree) (hl2:args.length≤fn.ntmps) (Good:Ex→St→Prop)
  (hgood:∀ e s,Good e s→(e=.normal∨e=.ret)∧(match evResults E (E.fz f) fn.results.toList s with | some (rs,s')=>(outsOf s' args 0).map fun outs=>({ rs,outs }:Out) | none=>none)=some out)
  (hrun:∀ (C:Cf) (a:Act) (w:World) (vs:List Value) (Q:Exit→Act→World→Prop),GlobOk E C→C.N=fn.ntmps→a.tmps=(⟨vs⟩:Array Value)++Array.replicate (fn.ntmps - vs.length) undef→vs.length=args.length→InvX C (enter 0 args) a w→(∀ e s a w,Good e s→InvX C s a w→Q (exitOf e) a w)→c.wp E.P Q a w):Con E f args out:=by
 intro w R B vs fps ha hg hlt hh hn
 have hlen:=ha.len
 left
 have hne : ¬ fn.name = "runtime.NumGoroutine" := by simpa using hname
 refine ⟨by simp [callFunc,hf,hne,hb],?_⟩
 have hI:=enter_ok ha hlt hh hn (N:=fn.ntmps) (by omega)
 have gk:GlobOk E (entryCf w R B args vs fps fn.ntmps):=⟨hg,fun b hb=>⟨hlt b hb,fun hG=>hb.elim (hh b hG).1 (hh b hG).2.1⟩⟩
 refine calls_of_wp hf hb ?_
 refine hrun (entryCf w R B args vs fps fn.ntmps) _ w vs _ gk rfl rfl (by omega) ⟨_,_,_,hI⟩ fun e s a w' hGood J=>?_
 obtain ⟨hee,hr⟩:=hgood e s hGood
 have goal:a.defers=[]∧∃ v,(results fn a.tmps).run E.P w'=.ok v w'∧Nonempty (Ans w R B (fun b=>b∈fps.flatten) out (boxesOf args vs) v w'):=by
  obtain ⟨R1,loc1,fp1,J⟩:=J
  split at hr<;>try (cases hr;done)
  rename_i rs s2 hres
  simp only [Option.map_eq_some_iff] at hr
  obtain ⟨outs,ho,rfl⟩:=hr
  obtain ⟨R2,loc2,fp2,vs',fs,g1,g2,g3,g4⟩:=results_ok (a:=a) (w:=w') fn.results.toList s s2 rs R1 loc1 fp1 [] J hres
  simp only [List.nil_append] at g2
  refine ⟨J.df,_,run_results g1,?_⟩
  obtain ⟨is,o1,o2,o3⟩:=outs_ok g2 args vs 0 outs ho hlen (fun j m ls hj=>by
   obtain ⟨v,f0,q1,q2,q3⟩:=ha.get j _ hj
   obtain ⟨b,rfl,_⟩:=q3
   refine ⟨b,q1,?_⟩
   rw [Nat.zero_add]
   exact (g2.pl j (.blk b) (by show ptrLoc args[j]? vs[j]?=some (.blk b);rw [hj,q1];rfl)).1) (fun j agg ls hj=>by
    obtain ⟨v,f0,q1,q2,q3⟩:=ha.get j _ hj
    refine ⟨v,q1,?_⟩
    rw [Nat.zero_add]
    exact (g2.pl j (.vals v.cells.toList) (by show ptrLoc args[j]? vs[j]?=some _;rw [hj,q1];rfl)).1)
  refine ⟨{ R':=R2,vs:=vs',fps:=fs,ofps:=is.map fun j=>fp2 (.p j),hv:=rfl,kp:=g2.kp,mono:=g2.r0,new:=g2.rnew,lt:=fun b hb=>g2.rlt b (.inl hb),rs:=g3,outs:=o1,held:=fun b hb=>?_,nd:=?_ }⟩
  ·rcases List.mem_append.1 hb with hb | hb
   ·exact g2.fheld b hb
   ·obtain ⟨l,hl,hbl⟩:=List.mem_flatten.1 hb
    obtain ⟨j,hj,rfl⟩:=List.mem_map.1 hl
    obtain ⟨h0,hlk⟩:=(o3 j hj).2
    exact g2.held _ h0 hlk b hbl
  ·refine List.nodup_append.2 ⟨g2.fnd,flatten_nodup_map is o2 (fun j hj=>?_) (fun i hi j hj hne b hb=>?_),fun b hb c hc e=>?_⟩
   ·obtain ⟨h0,hlk⟩:=(o3 j hj).2
    exact g2.nd _ h0 hlk
   ·obtain ⟨h0,hlk⟩:=(o3 i hi).2
    obtain ⟨h1,hlk1⟩:=(o3 j hj).2
    exact g2.dj _ h0 _ h1 hlk hlk1 (fun e=>hne (by cases e;rfl)) b hb
   ·subst e
    obtain ⟨l,hl,hbl⟩:=List.mem_flatten.1 hc
    obtain ⟨j,hj,rfl⟩:=List.mem_map.1 hl
    obtain ⟨h0,hlk⟩:=(o3 j hj).2
    exact g2.fdj _ h0 hlk b hb hbl
 rcases hee with rfl | rfl
 ·exact goal
 ·exact goal
end Go.Ev


namespace Go.Ev
theorem cellsEq_len:∀ {as bs:List L} {b:Bool},cellsEq as bs=some b→as.length=bs.length
  | [],[],_,_=>rfl
  | [],_::_,_,h=>by simp [cellsEq] at h
  | _::_,[],_,h=>by simp [cellsEq] at h
  | a::as,b::bs,q,h=>by
    simp only [cellsEq] at h
    split at h
    · rename_i h1 h2
      simp [cellsEq_len h2]
    · cases h
theorem cellsEq_split:∀ (n:Nat) {as bs:List L} {b:Bool},n≤as.length→cellsEq as bs=some b→∃ x y,cellsEq (as.take n) (bs.take n)=some x∧cellsEq (as.drop n) (bs.drop n)=some y∧b=(x&&y)
  | 0,as,bs,b,_,h=>⟨true,b,by simp [cellsEq],by simpa using h,by simp⟩
  | n+1,[],bs,b,hn,h=>by simp at hn
  | n+1,a::as,[],b,hn,h=>by simp [cellsEq] at h
  | n+1,a::as,c::bs,b,hn,h=>by
    simp only [cellsEq] at h
    split at h<;>try (cases h;done)
    rename_i x0 y0 h1 h2
    obtain ⟨x,y,e1,e2,e3⟩:=cellsEq_split n (by simpa using hn) h2
    cases h
    refine ⟨x0&&x,y,by simp only [List.take_succ_cons,cellsEq,h1,e1],by simpa using e2,by rw [e3,Bool.and_assoc]⟩
theorem eq_leaf {P:Program} {w:World} {d:Nat} {t:TypeId} {dd:TypeDesc} {u v:Value} {l l':L} {S S':List Nat} {b:Bool} (hd:P.underlying t=some dd) (hf:leafFits (tdOf dd) l=true) (hu:RepL w false u l S) (hv:RepL w false v l' S') (h:leafEq l l'=some b):(Op.equalIn (d+1) t u v).run P w=.ok b w:=by
  unfold leafEq at h
  split at h
  · rename_i k a k' a'
    split at h<;>cases h
    rename_i hk
    subst hk
    cases hu;cases hv
    cases dd<;>simp [tdOf,leafFits] at hf
    exact run_equalIn_int w d t k _ a a' hd
  · cases h
    cases hu;cases hv
    cases dd<;>simp [tdOf,leafFits] at hf
    exact run_equalIn_bool' w d t _ _ hd
  · cases h
    obtain ⟨B,rfl,rfl,_⟩:=repStr hu
    obtain ⟨B',rfl,rfl,_⟩:=repStr hv
    cases dd<;>simp [tdOf,leafFits] at hf
    rw [run_equalIn_string w d t B B' hd,ByteArray.toList_eq,ByteArray.toList_eq]
  · cases h
def EqIH (E:Env) (w:World) (n:Nat):Prop :=
  ∀ (d:Nat) (t:TypeId) (ti:TI) (u v:Value) (as bs:List L) (S S':List Nat) (b:Bool),n≤d→eqType E.P n t=true→shapeT E.P n t as=true→tiOf E.P t=some ti→isAgg u=ti.agg→isAgg v=ti.agg →
    RepLs w false u.cells.toList as S→RepLs w false v.cells.toList bs S'→cellsEq as bs=some b→(Op.equalIn d t u v).run E.P w=.ok b w
theorem eqFields_ok {E:Env} {w:World} {n d:Nat} (ih:EqIH E w n) (hnd:n≤d) {xs ys:Array Value}:∀ (fs:List Field) (off:Nat) (as bs:List L) (S S':List Nat) (b:Bool),packed E.P off fs=true→(fs.all fun f=>eqType E.P n f.type)=true→shapeFs E.P (shapeT E.P n) (fs.map fun f=>(f.offset,f.type)) as=true →
    RepLs w false (xs.toList.drop off) as S→RepLs w false (ys.toList.drop off) bs S'→cellsEq as bs=some b→(Op.eqFields d xs ys fs).run E.P w=.ok b w
  | [],off,as,bs,S,S',b,hp,he,hs,h1,h2,h=>by
    simp only [List.map_nil,shapeFs,List.isEmpty_iff] at hs
    subst hs
    cases bs with
    | nil=>simp only [cellsEq,Option.some.injEq] at h;subst h;simp [Op.eqFields]
    | cons _ _=>simp [cellsEq] at h
  | f::fs,off,as,bs,S,S',b,hp,he,hs,h1,h2,h=>by
    simp only [packed,Bool.and_eq_true,decide_eq_true_eq] at hp
    obtain ⟨⟨ho,hname⟩,hp⟩:=hp
    simp only [List.all_cons,Bool.and_eq_true] at he
    simp only [List.map_cons,shapeFs] at hs
    split at hs<;>try (cases hs;done)
    rename_i fi hfi
    rw [hfi] at hp
    simp only at hp
    simp only [Bool.and_eq_true,decide_eq_true_eq] at hs
    obtain ⟨⟨hle,hsh⟩,hs⟩:=hs
    obtain ⟨x,y,e1,e2,e3⟩:=cellsEq_split fi.size hle h
    obtain ⟨S1,S2,rfl,p1,p2⟩:=h1.split fi.size
    obtain ⟨S3,S4,rfl,q1,q2⟩:=h2.split fi.size
    have hpos:0<fi.size:=by obtain ⟨_,_,_,_,_,_,_,_,_,h0,_⟩:=tiOf_spec hfi;exact h0
    have l1:=h1.len
    have l2:=h2.len
    have l3:=cellsEq_len h
    simp at l1 l2
    obtain ⟨u,r1,c1,g1⟩:=run_part (w:=w) hfi (cs:=xs) (off:=off) (by omega) p1.one
    obtain ⟨v,r2,c2,g2⟩:=run_part (w:=w) hfi (cs:=ys) (off:=off) (by omega) q1.one
    have hx:=ih d f.type fi u v _ _ _ _ x hnd he.1 hsh hfi g1 g2 (c1 ▸ p1) (c2 ▸ q1) e1
    have hrest:=eqFields_ok ih hnd fs (off+fi.size) _ _ _ _ y hp he.2 hs (by rw [← List.drop_drop];exact p2) (by rw [← List.drop_drop];exact q2) e2
    have hn' : f.name ≠ "_" := by simpa using hname
    rw [Op.eqFields,if_pos hn',ho]
    simp only [Sem.run_bind,r1,r2,hx,Result.andThen_ok]
    cases x with
    | false=>simp [e3]
    | true=>simp [e3,hrest]
theorem fits_basic {d:TypeDesc} {l:L} (h:leafFits (tdOf d) l=true):(tdOf d).agg=false:=by
  cases d<;>first | rfl | (cases l<;>simp [tdOf,leafFits] at h)
theorem eqItems_ok {E:Env} {w:World} {d:Nat} {e:TypeId} {ei:TI} (hei:tiOf E.P e=some ei) {xs ys:Array Value}:∀ (m k:Nat) (as bs:List L) (S S':List Nat) (b:Bool),as.length=m→as.all (leafFits ei.td)=true→ei.size=1→ei.agg=false →
    RepLs w false (xs.toList.drop k) as S→RepLs w false (ys.toList.drop k) bs S'→cellsEq as bs=some b→(Op.eqItems (d+1) e 1 xs ys (List.range' k m)).run E.P w=.ok b w
  | 0,k,as,bs,S,S',b,hl,ha,hsz,hag,h1,h2,h=>by
    have:=List.length_eq_zero_iff.1 hl
    subst this
    cases bs with
    | nil=>simp only [cellsEq,Option.some.injEq] at h;subst h;simp [Op.eqItems]
    | cons _ _=>simp [cellsEq] at h
  | m+1,k,as,bs,S,S',b,hl,ha,hsz,hag,h1,h2,h=>by
    cases as with
    | nil=>simp at hl
    | cons l as =>
      cases bs with
      | nil=>simp [cellsEq] at h
      | cons l' bs =>
        simp only [cellsEq] at h
        split at h<;>try (cases h;done)
        rename_i x y e1 e2
        cases h
        simp only [List.all_cons,Bool.and_eq_true] at ha
        obtain ⟨S1,S2,rfl,p1,p2⟩:=h1.split 1
        obtain ⟨S3,S4,rfl,q1,q2⟩:=h2.split 1
        have l1:=h1.len
        have l2:=h2.len
        simp at l1 l2
        obtain ⟨i0,dd,zz,hi,hdd,hz,hzs,hz1,hn0,h0,f1,f2,f3,f4,f5⟩:=tiOf_spec hei
        obtain ⟨u,r1,c1,g1⟩:=run_part (w:=w) hei (cs:=xs) (off:=k) (by omega) (by rw [hsz];exact p1.one)
        obtain ⟨v,r2,c2,g2⟩:=run_part (w:=w) hei (cs:=ys) (off:=k) (by omega) (by rw [hsz];exact q1.one)
        rw [hsz] at c1 c2
        have hu:RepL w false u l S1:=oneRep (by rw [c1];simpa using p1) (g1.trans hag)
        have hv:RepL w false v l' S3:=oneRep (by rw [c2];simpa using q1) (g2.trans hag)
        have hx:=eq_leaf (d:=d) hdd (by rw [← f5];exact ha.1) hu hv e1
        have hrest:=eqItems_ok (d:=d) hei m (k+1) as bs S2 S4 y (by simpa using hl) ha.2 hsz hag (by rw [← List.drop_drop];simpa using p2) (by rw [← List.drop_drop];simpa using q2) e2
        rw [List.range'_succ,Op.eqItems]
        simp only [Sem.run_bind,Nat.mul_one,r1,r2,hx,Result.andThen_ok]
        cases x with
        | false=>simp
        | true=>simp [hrest]
theorem eq_main {E:Env} {w:World}:∀ n,EqIH E w n
  | 0=>fun d t ti u v as bs S S' b hn he=>by simp [eqType] at he
  | n+1=>fun d t ti u v as bs S S' b hn he hs ht hu hv h1 h2 h=>by
    obtain ⟨d,rfl⟩:∃ d',d=d'+1:=⟨d - 1,by omega⟩
    obtain ⟨i0,dd,zz,hi,hdd,hz,hzs,hz1,hn0,h0,f1,f2,f3,f4,f5⟩:=tiOf_spec ht
    have leaf:(∀ fs,dd≠.struct fs)→(∀ k e,dd≠.array k e)→(∃ l,as=[l]∧leafFits ti.td l=true)→(Op.equalIn (d+1) t u v).run E.P w=.ok b w:=by
      rintro hns hna ⟨l,rfl,hm⟩
      have hag:ti.agg=false:=by rw [f3];exact fits_basic (by rw [← f5];exact hm)
      cases bs with
      | nil=>simp [cellsEq] at h
      | cons l' bs =>
        have hlen:=cellsEq_len h
        have:bs=[]:=List.length_eq_zero_iff.1 (by simpa using hlen.symm)
        subst this
        simp only [cellsEq] at h
        split at h<;>try (cases h;done)
        rename_i x y e1 e2
        cases h
        cases e2
        rw [Bool.and_true]
        exact eq_leaf hdd (by rw [← f5];exact hm) (oneRep h1 (hu.trans hag)) (oneRep h2 (hv.trans hag)) e1
    simp only [shapeT,ht] at hs
    cases hd2:dd with
    | struct fs =>
      rw [hd2] at hdd
      have htd:ti.td=.struct (fs.toList.map fun f=>(f.offset,f.type)):=by rw [f5,hd2];rfl
      rw [htd] at hs
      simp only at hs
      simp only [eqType,hdd,ht,Bool.and_eq_true,Bool.not_eq_true',decide_eq_true_eq] at he
      obtain ⟨⟨⟨hst,hpk⟩,hfs⟩,hall⟩:=he
      have hag:ti.agg=true:=by rw [f3,hd2];rfl
      obtain ⟨xs,rfl⟩:∃ xs,u=.agg xs:=by cases u<;>simp [isAgg,hag] at hu;exact ⟨_,rfl⟩
      obtain ⟨ys,rfl⟩:∃ ys,v=.agg ys:=by cases v<;>simp [isAgg,hag] at hv;exact ⟨_,rfl⟩
      have hfo:E.P.fieldsOf t=fs:=by simp [Program.fieldsOf,hdd]
      rw [run_equalIn_struct w d t xs ys (by rw [hfo];exact hdd) hst,hfo]
      exact eqFields_ok (eq_main n) (by omega) fs.toList 0 as bs S S' b hpk hall hs h1 h2 h
    | array k e =>
      rw [hd2] at hdd
      have htd:ti.td=.arr k e:=by rw [f5,hd2];rfl
      rw [htd] at hs
      simp only at hs
      split at hs<;>try (cases hs;done)
      rename_i ei hei
      simp only [Bool.and_eq_true,decide_eq_true_eq] at hs
      obtain ⟨hlen,hfit⟩:=hs
      have hag:ti.agg=true:=by rw [f3,hd2];rfl
      obtain ⟨xs,rfl⟩:∃ xs,u=.agg xs:=by cases u<;>simp [isAgg,hag] at hu;exact ⟨_,rfl⟩
      obtain ⟨ys,rfl⟩:∃ ys,v=.agg ys:=by cases v<;>simp [isAgg,hag] at hv;exact ⟨_,rfl⟩
      obtain ⟨j0,de,ze,hj,hde,hze,hzes,hze1,hne0,hj0,j1,j2,j3,j4,j5⟩:=tiOf_spec hei
      rw [run_equalIn_array w d xs ys hdd hj]
      cases k with
      | zero =>
        have:=List.length_eq_zero_iff.1 hlen
        subst this
        cases bs with
        | nil=>simp only [cellsEq,Option.some.injEq] at h;subst h;simp [Op.eqItems]
        | cons _ _=>simp [cellsEq] at h
      | succ k =>
        have hea:ei.agg=false:=by
          cases as with
          | nil=>simp at hlen
          | cons l as =>
            simp only [List.all_cons,Bool.and_eq_true] at hfit
            rw [j3];exact fits_basic (by rw [← j5];exact hfit.1)
        have hsz:=hne0 hea
        have hco:E.P.cellsOf e=1:=by rw [← hsz,j1];simp [Program.cellsOf,hj]
        obtain ⟨d,rfl⟩:∃ d',d=d'+1:=by
          simp only [eqType,hdd,ht,Bool.and_eq_true] at he
          cases n with
          | zero=>simp [eqType] at he
          | succ n=>exact ⟨d - 1,by omega⟩
        rw [hco,List.range_eq_range']
        exact eqItems_ok hei (k+1) 0 as bs S S' b hlen hfit hsz hea h1 h2 h
    | _ =>
      first
        | (exfalso;simp [eqType,hdd,hd2,ht] at he;done)
        | (refine leaf (by rw [hd2];simp) (by rw [hd2];simp) ?_
           rw [f5,hd2] at hs ⊢
           simp only [tdOf] at hs ⊢
           split at hs
           · exact ⟨_,rfl,hs⟩
           · cases hs)
theorem eq_ok (E:Env):EqOk E.P:=by
  intro w t u v as bs S S' b hag hu hv h1 h2 h x y
  simp only [Bool.and_eq_true,eqAgg,Bool.not_eq_true'] at hag
  obtain ⟨⟨⟨he,hg⟩,hti⟩,hs⟩:=hag
  obtain ⟨xs,rfl⟩:∃ xs,u=.agg xs:=by cases u<;>simp [isAgg] at hu;exact ⟨_,rfl⟩
  obtain ⟨ys,rfl⟩:∃ ys,v=.agg ys:=by cases v<;>simp [isAgg] at hv;exact ⟨_,rfl⟩
  have hti:∃ ti,tiOf E.P t=some ti∧ti.agg=true:=by
    split at hti
    · rename_i ti ht;exact ⟨ti,ht,hti⟩
    · cases hti
  obtain ⟨ti,ht,hag⟩:=hti
  have hm:=eq_main (E:=E) (w:=w) 8 10000 t ti (.agg xs) (.agg ys) as bs S S' b (by omega) he hs ht hag.symm hag.symm h1 h2 h
  constructor
  · rw [Sem.run_bind,run_eqGuard_agg w .eql t x y xs ys hg,Result.andThen_ok,run_eql_struct,hm];rfl
  · rw [Sem.run_bind,run_eqGuard_agg w .neq t x y xs ys hg,Result.andThen_ok,run_neq_struct,hm];rfl
end Go.Ev


namespace Go.Ev
theorem lookH_append:∀ (d H:List (Root × HC)) (r:Root),lookH (d++H) r=(match lookH d r with | some h=>some h | none=>lookH H r)
 | [],H,r=>rfl
 | (u,h)::d,H,r=>by
  simp only [List.cons_append,lookH]
  split
  ·rfl
  ·exact lookH_append d H r
def SameOn (T:Root→Prop) (s t:St):Prop:=∀ r,T r→lookH t.H r=lookH s.H r
def St.plus (s:St) (d:List (Root × HC)):St:={ s with H:=d++s.H }
theorem SameOn.plus {T:Root→Prop} {s t:St} (h:SameOn T s t) (d:List (Root × HC)):SameOn T (s.plus d) (t.plus d):=fun r hr=>by
 show lookH (d++t.H) r=lookH (d++s.H) r
 rw [lookH_append,lookH_append,h r hr]
def Fr {α:Type} (g:St→Option (α × St)) (s:St) (T W:Root→Prop):Prop :=
 ∀ x s',g s=some (x,s')→∃ d,s'=s.plus d∧(∀ p∈d,W p.1)∧∀ t,SameOn T s t→g t=some (x,t.plus d)
theorem plus_nil (s:St):s.plus []=s:=rfl
theorem plus_plus (s:St) (d d':List (Root × HC)):(s.plus d).plus d'=s.plus (d'++d):=by simp [St.plus,List.append_assoc]
theorem putH_plus (s:St) (r:Root) (h:HC):s.putH r h=s.plus [(r,h)]:=rfl
theorem getAt_same {s t:St} {r:Root} {k0 k1 off:Nat} {hops:List Hop} {n:Nat} (h:lookH t.H r=lookH s.H r):t.getAt r k0 k1 off hops n=s.getAt r k0 k1 off hops n:=by simp only [St.getAt,h]
theorem getAd_same {s t:St} {r:Root} {k0 k1 off:Nat} {hops:List Hop} (h:lookH t.H r=lookH s.H r):t.getAd r k0 k1 off hops=s.getAd r k0 k1 off hops:=by simp only [St.getAd,h]
theorem embed_fr (fz:Bool) (x:AV) (s:St):Fr (fun s=>(s.embed fz x).map fun q=>((q.1,q.2.1,q.2.2.1),q.2.2.2)) s (fun r=>r∈root1 x) (fun r=>r∈root1 x):=by
 intro y s' h
 simp only [Option.map_eq_some_iff] at h
 obtain ⟨q,hq,e⟩:=h
 cases e
 cases x with
 | dead=>simp [St.embed] at hq
 | tup xs=>simp [St.embed] at hq
 | ad r k0 k1 off hops=>simp [St.embed] at hq
 | win r k0 k1 off lo n=>simp [St.embed] at hq
 | nil=>simp only [St.embed,Option.some.injEq] at hq;subst hq;exact ⟨[],rfl,by simp,fun t _=>by simp [St.embed,plus_nil]⟩
 | v m agg ls=>simp only [St.embed,Option.some.injEq] at hq;subst hq;exact ⟨[],rfl,by simp,fun t _=>by simp [St.embed,plus_nil]⟩
 | «at» r k0 k1 off hops n agg =>
  simp only [St.embed] at hq
  cases hg:s.getAt r k0 k1 off hops n with
  | none=>rw [hg] at hq;cases hq
  | some p =>
   obtain ⟨h,sub⟩:=p
   rw [hg] at hq
   simp only at hq
   split at hq
   ·rename_i ho
    split at hq
    ·rename_i hz
     simp only [Option.some.injEq] at hq
     subst hq
     refine ⟨[(r,{ h with m:=.ro })],rfl,by simp [root1],fun t ht=>?_⟩
     have:=getAt_same (k0:=k0) (k1:=k1) (off:=off) (hops:=hops) (n:=n) (ht r (by simp [root1]))
     simp only [St.embed,this,hg,ho,hz,if_true,Option.map_some]
     rfl
    ·rename_i hz
     simp only [Option.some.injEq] at hq
     subst hq
     refine ⟨[(r,h.set off hops (deadened sub))],rfl,by simp [root1],fun t ht=>?_⟩
     have:=getAt_same (k0:=k0) (k1:=k1) (off:=off) (hops:=hops) (n:=n) (ht r (by simp [root1]))
     simp only [St.embed,this,hg,ho,if_neg hz,if_true,Option.map_some]
     rfl
   ·rename_i ho
    simp only [Option.some.injEq] at hq
    subst hq
    refine ⟨[],rfl,by simp,fun t ht=>?_⟩
    have:=getAt_same (k0:=k0) (k1:=k1) (off:=off) (hops:=hops) (n:=n) (ht r (by simp [root1]))
    simp only [St.embed,this,hg,if_neg ho,Option.map_some]
    rfl
theorem new_fr (r:Root) (m:M) (agg:Bool) (ls:List L) (s:St):∃ d,s.new r m agg ls=((s.new r m agg ls).1,s.plus d)∧(∀ p∈d,p.1=r)∧∀ t:St,lookH t.H r=lookH s.H r→t.new r m agg ls=((s.new r m agg ls).1,t.plus d):=by
 unfold St.new
 split
 ·cases hl:lookH s.H r with
  | none=>exact ⟨[(r,{ box:=false,wr:=true,m:=.own,ls,e0:=0,e1:=0 })],rfl,by simp,fun t ht=>by rw [ht];rfl⟩
  | some h=>exact ⟨[],rfl,by simp,fun t ht=>by rw [ht];rfl⟩
 ·exact ⟨[],rfl,by simp,fun t ht=>rfl⟩
theorem mkBox_fr (r:Root) (m:M) (ls:List L) (s:St):∃ d,s.mkBox r m ls=((s.mkBox r m ls).1,s.plus d)∧(∀ p∈d,p.1=r)∧∀ t:St,lookH t.H r=lookH s.H r→t.mkBox r m ls=((s.mkBox r m ls).1,t.plus d):=by
 unfold St.mkBox
 cases hl:lookH s.H r with
 | none=>exact ⟨[(r,{ box:=true,wr:=true,m,ls,e0:=0,e1:=0 })],rfl,by simp,fun t ht=>by rw [ht];rfl⟩
 | some h=>exact ⟨[],rfl,by simp,fun t ht=>by rw [ht];rfl⟩
section
variable {E:Env} {s t:St}
theorem peek_same {x:AV} (h:SameOn (fun r=>r∈root1 x) s t):t.peek x=s.peek x:=by
 cases x with
 | «at» r k0 k1 off hops n agg=>simp only [St.peek,getAt_same (h r (by simp [root1]))]
 | _=>rfl
theorem ptrAdd_same {x:AV} {o:Nat} (h:SameOn (fun r=>r∈root1 x) s t):ptrAdd o t x=ptrAdd o s x:=by
 cases x with
 | ad r k0 k1 off hops=>simp only [ptrAdd,getAd_same (h r (by simp [root1]))]
 | v m agg ls =>
  cases agg<;>(try rfl)
  all_goals
   rcases ls with _ | ⟨l,_ | ⟨l2,ls⟩⟩
   ·rfl
   ·cases l<;>rfl
   ·cases l<;>rfl
 | _=>rfl
theorem evLoad_same {ty:TypeId} {x:AV} (h:SameOn (fun r=>r∈root1 x) s t):evLoad E ty x t=evLoad E ty x s:=by
 cases x with
 | ad r k0 k1 off hops=>simp only [evLoad,getAd_same (h r (by simp [root1]))]
 | v m agg ls =>
  cases agg<;>(try rfl)
  all_goals
   rcases ls with _ | ⟨l,_ | ⟨l2,ls⟩⟩
   ·rfl
   ·cases l<;>rfl
   ·cases l<;>rfl
 | _=>rfl
theorem evField_same {ty:TypeId} {x:AV} {i:Nat} (h:SameOn (fun r=>r∈root1 x) s t):evField E ty x i t=evField E ty x i s:=by
 cases x with
 | «at» r k0 k1 off hops n agg =>
  have e:=fun k0 k1 off hops n=>getAt_same (k0:=k0) (k1:=k1) (off:=off) (hops:=hops) (n:=n) (h r (by simp [root1]))
  cases agg<;>simp only [evField,e]
 | v m agg ls =>
  cases agg<;>(try rfl)
  all_goals
   rcases ls with _ | ⟨l,_ | ⟨l2,ls⟩⟩
   ·rfl
   ·cases l<;>rfl
   ·cases l<;>rfl
 | _=>rfl
theorem evFieldAddr_same {ty:TypeId} {x:AV} {i:Nat} (h:SameOn (fun r=>r∈root1 x) s t):evFieldAddr E ty x i t=evFieldAddr E ty x i s:=by
 simp only [evFieldAddr,ptrAdd_same h]
theorem evLen_same {ty:TypeId} {x:AV} (h:SameOn (fun r=>r∈root1 x) s t):evLen E ty x t=evLen E ty x s:=by
 simp only [evLen,peek_same h]
theorem evIndexAddr_same {ty:TypeId} {x i:AV} (h:SameOn (fun r=>r∈root1 x) s t):evIndexAddr E ty x i t=evIndexAddr E ty x i s:=by
 cases x with
 | «at» r k0 k1 off hops n agg =>
  have e:=fun k0 k1 off hops n=>getAt_same (k0:=k0) (k1:=k1) (off:=off) (hops:=hops) (n:=n) (h r (by simp [root1]))
  cases agg
  ·rcases n with _ | _ | n<;>simp only [evIndexAddr,e]<;>rfl
  ·rcases n with _ | _ | n<;>simp only [evIndexAddr,e]<;>rfl
 | ad r k0 k1 off hops=>simp only [evIndexAddr,ptrAdd_same h]
 | v m agg ls =>
  unfold evIndexAddr
  simp only [ptrAdd_same h]
  cases agg
  ·rcases ls with _ | ⟨l,_ | ⟨l2,ls⟩⟩
   ·rfl
   ·cases l<;>rfl
   ·cases l<;>rfl
  ·rfl
 | _=>first | rfl | (unfold evIndexAddr;simp only [ptrAdd_same h])
def Seen (s t:St) (x:Operand):Prop:=∀ u,x=.tmp u→look t.V u=look s.V u
theorem opnd_same {x:Operand} (h:Seen s t x):opnd E t x=opnd E s x:=by
 cases x with
 | tmp u=>exact h u rfl
 | const v=>unfold opnd;split<;>simp_all
 | _=>rfl
end
theorem Fr.bind {α β:Type} {g:St→Option (α × St)} {k:α→St→Option (β × St)} {s:St} {T W:Root→Prop} (hg:Fr g s T W) (hk:∀ x s',g s=some (x,s')→Fr (k x) s' T W):Fr (fun s=>(g s).bind fun q=>k q.1 q.2) s T W:=by
 intro y s2 h
 simp only [Option.bind_eq_some_iff] at h
 obtain ⟨⟨x,s1⟩,h1,h2⟩:=h
 obtain ⟨d1,rfl,w1,f1⟩:=hg x s1 h1
 obtain ⟨d2,rfl,w2,f2⟩:=hk x _ h1 y s2 h2
 refine ⟨d2++d1,plus_plus _ _ _,fun p hp=>(List.mem_append.1 hp).elim (w2 p) (w1 p),fun t ht=>?_⟩
 simp only [f1 t ht,Option.bind_some,f2 _ (ht.plus d1),plus_plus]
theorem Fr.pure {α:Type} (x:α) (s:St) (T W:Root→Prop):Fr (fun s=>some (x,s)) s T W:=by
 intro y s' h
 simp only [Option.some.injEq,Prod.mk.injEq] at h
 obtain ⟨rfl,rfl⟩:=h
 exact ⟨[],rfl,by simp,fun t _=>rfl⟩
theorem Fr.none {α:Type} (s:St) (T W:Root→Prop):Fr (fun _=>(none:Option (α × St))) s T W:=fun _ _ h=>by cases h
theorem Fr.mono {α:Type} {g:St→Option (α × St)} {s:St} {T T' W W':Root→Prop} (h:Fr g s T W) (hT:∀ r,T r→T' r) (hW:∀ r,W r→W' r):Fr g s T' W':=by
 intro x s' hx
 obtain ⟨d,e,w,f⟩:=h x s' hx
 exact ⟨d,e,fun p hp=>hW _ (w p hp),fun t ht=>f t fun r hr=>ht r (hT r hr)⟩
theorem embed_fr' {fz:Bool} {x:AV} {s s':St} {m:M} {agg:Bool} {ls:List L} (h:s.embed fz x=some (m,agg,ls,s')):∃ d,s'=s.plus d∧(∀ p∈d,p.1∈root1 x)∧∀ t,SameOn (fun r=>r∈root1 x) s t→t.embed fz x=some (m,agg,ls,t.plus d):=by
 obtain ⟨d,e,w,f⟩:=embed_fr fz x s (m,agg,ls) s' (by simp only [h,Option.map_some])
 refine ⟨d,e,w,fun t ht=>?_⟩
 have:=f t ht
 simp only [Option.map_eq_some_iff] at this
 obtain ⟨⟨m1,a1,l1,t1⟩,h1,h2⟩:=this
 simp only [Prod.mk.injEq] at h2
 obtain ⟨⟨rfl,rfl,rfl⟩,rfl⟩:=h2
 exact h1
theorem Seen.plus {s t:St} {x:Operand} (h:Seen s t x) (d:List (Root × HC)):Seen (s.plus d) (t.plus d) x:=h
theorem opnd_plus {E:Env} {s:St} {x:Operand} (d:List (Root × HC)):opnd E (s.plus d) x=opnd E s x:=opnd_V s (s.plus d) rfl x
theorem fill_fr {E:Env} {pl:Nat→Option (Nat × Nat)} {fz:List Nat} {T:Root→Prop}:∀ (parts:List (Nat × Operand)) (ls:List L) (m:M) (s s':St) (m':M) (ls':List L),(∀ p∈parts,∀ r∈root1 (opnd E s p.2),T r)→fillCells E pl fz ls m parts s=some (m',ls',s') →
  ∃ d,s'=s.plus d∧(∀ p∈d,T p.1)∧∀ t,(∀ p∈parts,Seen s t p.2)→SameOn T s t→fillCells E pl fz ls m parts t=some (m',ls',t.plus d)
 | [],ls,m,s,s',m',ls',hT,h=>by
  simp only [fillCells,Option.some.injEq,Prod.mk.injEq] at h
  obtain ⟨rfl,rfl,rfl⟩:=h
  exact ⟨[],rfl,by simp,fun t _ _=>rfl⟩
 | (i,x)::parts,ls,m,s,s',m',ls',hT,h=>by
  simp only [fillCells] at h
  split at h<;>try (cases h;done)
  rename_i off size m2 agg sub s2 hp he
  split at h<;>try (cases h;done)
  rename_i hc
  obtain ⟨d1,rfl,w1,f1⟩:=embed_fr' he
  obtain ⟨d2,rfl,w2,f2⟩:=fill_fr parts _ _ (s.plus d1) s' m' ls' (fun p hp r hr=>hT p (List.mem_cons_of_mem _ hp) r (by rwa [opnd_plus] at hr)) h
  refine ⟨d2++d1,plus_plus _ _ _,fun p hp=>(List.mem_append.1 hp).elim (w2 p) fun q=>hT (i,x) (by simp) _ (w1 p q),fun t hs ht=>?_⟩
  have e:=opnd_same (E:=E) (hs (i,x) (by simp))
  have e1:=f1 t fun r hr=>ht r (hT (i,x) (by simp) r hr)
  have e2:=f2 (t.plus d1) (fun p hp=>(hs p (List.mem_cons_of_mem _ hp)).plus d1) (ht.plus d1)
  simp only [fillCells,hp,e,e1,if_pos hc,e2,plus_plus]
theorem evWin_same {E:Env} {s t:St} {ty:TypeId} {x y:AV} {lo hi:Option AV} (hs:SameOn (fun r=>r∈root1 x) s t) (h:evWin E ty x lo hi s=some y):evWin E ty x lo hi t=some y:=by
 unfold evWin at h
 split at h<;>try (cases h;done)
 rename_i ti r k0 k1 off ht
 have e:=getAt_same (k0:=k0) (k1:=k1) (off:=off) (hops:=[]) (n:=1) (hs r (by simp [root1]))
 split at h<;>try (cases h;done)
 rename_i el hh xs he hg
 split at h<;>try (cases h;done)
 rename_i ei hei
 split at h<;>try (cases h;done)
 rename_i u hu
 split at h<;>try (cases h;done)
 rename_i l hl
 split at h<;>cases h
 rename_i hc
 simp only [evWin,ht,e,he,hg,hei,hu,hl,if_pos hc]
theorem copy_fr {E:Env} {s:St} {ts:List TypeId} {x y:AV} {z:AV × St} (h:evCopy E ts x y s=some z):∃ d,z.2=s.plus d∧(∀ p∈d,p.1∈root1 x)∧∀ t,SameOn (fun r=>r∈root1 x) s t→evCopy E ts x y t=some (z.1,t.plus d):=by
 unfold evCopy at h
 split at h<;>try (cases h;done)
 rename_i t0 t2 r k0 k1 off lo n m bs
 split at h<;>try (cases h;done)
 rename_i ti hh ht hlk
 split at h<;>try (cases h;done)
 rename_i e xs he hls
 split at h<;>try (cases h;done)
 rename_i ei hei
 split at h<;>cases h
 rename_i hcc
 refine ⟨[(r,hh.setRows off xs lo (rowsOfBytes (bs.take n)))],rfl,by simp [root1],fun t hs=>?_⟩
 have hl:lookH t.H r=some hh:=(hs r (by simp [root1])).trans hlk
 simp only [evCopy,ht,hl,he,hls,hei,if_pos hcc]
 rfl
theorem fresh_fr (s:St) (a:AV) (n:Nat):∃ d,s.fresh a n=s.plus d∧(∀ p∈d,p.1∈root1 a)∧∀ t,SameOn (fun r=>r∈root1 a) s t→t.fresh a n=t.plus d:=by
 unfold St.fresh
 split
 ·rename_i r k0 k1 off
  cases hl:lookH s.H r with
  | none =>
   refine ⟨[],rfl,by simp,fun t ht=>?_⟩
   have e:lookH t.H r=none:=(ht r (by simp [root1])).trans hl
   simp only [e];rfl
  | some h =>
   simp only
   split
   ·rename_i hc
    refine ⟨[(r,{ h with m:=.own,ls:=deadened h.ls,e0:=h.e0+1,lz:=none })],rfl,by simp [root1],fun t ht=>?_⟩
    have e:lookH t.H r=some h:=(ht r (by simp [root1])).trans hl
    simp only [e,if_pos hc];rfl
   ·rename_i hc
    refine ⟨[],rfl,by simp,fun t ht=>?_⟩
    have e:lookH t.H r=some h:=(ht r (by simp [root1])).trans hl
    simp only [e,if_neg hc];rfl
 ·exact ⟨[],rfl,by simp,fun t _=>rfl⟩
theorem store_fr {E:Env} {ty:TypeId} {a x:AV} {fz:Bool} {s s':St} (h:evStore E ty a x fz s=some s'):∃ d,s'=s.plus d∧(∀ p∈d,p.1∈root1 a++root1 x)∧∀ t,SameOn (fun r=>r∈root1 a++root1 x) s t→evStore E ty a x fz t=some (t.plus d):=by
 unfold evStore at h
 split at h<;>try (cases h;done)
 rename_i ti m' agg sub s1 ht he
 obtain ⟨d1,rfl,w1,f1⟩:=embed_fr' he
 split at h<;>try (cases h;done)
 rename_i r k0 k1 off hops
 obtain ⟨d2,e2,w2,f2⟩:=fresh_fr (s.plus d1) (.ad r k0 k1 off hops) ti.size
 rw [e2] at h
 split at h<;>try (cases h;done)
 rename_i hh suf hg
 split at h<;>try (cases h;done)
 rename_i hc
 simp only [Option.some.injEq] at h
 subst h
 refine ⟨(r,{ hh.set off hops sub with m:=hh.m.join m' })::(d2++d1),by simp [St.plus,St.putH],fun p hp=>?_,fun t hs=>?_⟩
 ·rcases List.mem_cons.1 hp with rfl | hp
  ·simp [root1]
  ·rcases List.mem_append.1 hp with hp | hp
   ·exact List.mem_append.2 (.inl (w2 p hp))
   ·exact List.mem_append.2 (.inr (w1 p hp))
 ·have e1:=f1 t fun r hr=>hs r (List.mem_append.2 (.inr hr))
  have e3:=f2 (t.plus d1) fun r hr=>(SameOn.plus hs d1) r (List.mem_append.2 (.inl hr))
  have e4:=getAd_same (k0:=k0) (k1:=k1) (off:=off) (hops:=hops) ((SameOn.plus (SameOn.plus hs d1) d2) r (by simp [root1]))
  simp only [evStore,ht,e1,e3,e4,hg,if_pos hc]
  simp [St.plus,St.putH]
theorem cap1_fr {x:AV} {s s':St} {l:L} (h:cap1 s x=some (l,s')):∃ d,s'=s.plus d∧(∀ p∈d,p.1∈root1 x)∧∀ t,SameOn (fun r=>r∈root1 x) s t→cap1 t x=some (l,t.plus d):=by
 unfold cap1 at h
 split at h
 ·cases h
  exact ⟨[],rfl,by simp,fun t _=>rfl⟩
 ·rename_i r k0 k1
  split at h<;>try (cases h;done)
  rename_i hh hl
  split at h<;>try (cases h;done)
  rename_i hc
  simp only [Option.some.injEq,Prod.mk.injEq] at h
  obtain ⟨rfl,rfl⟩:=h
  refine ⟨[(r,{ hh with m:=.ro,wr:=false })],rfl,by simp [root1],fun t ht=>?_⟩
  have e:=ht r (by simp [root1])
  simp only [cap1,e,hl,if_pos hc]
  rfl
 ·cases h
theorem caps_fr:∀ (as:List AV) (s s':St) (ls:List L),evCaps as s=some (ls,s')→∃ d,s'=s.plus d∧(∀ p∈d,∃ x∈as,p.1∈root1 x)∧∀ t,SameOn (fun r=>∃ x∈as,r∈root1 x) s t→evCaps as t=some (ls,t.plus d)
 | [],s,s',ls,h=>by
  simp only [evCaps,Option.some.injEq,Prod.mk.injEq] at h
  obtain ⟨rfl,rfl⟩:=h
  exact ⟨[],rfl,by simp,fun t _=>rfl⟩
 | x::as,s,s',ls,h=>by
  simp only [evCaps] at h
  split at h<;>try (cases h;done)
  rename_i l s1 h1
  split at h<;>try (cases h;done)
  rename_i ls2 s2 h2
  simp only [Option.some.injEq,Prod.mk.injEq] at h
  obtain ⟨rfl,rfl⟩:=h
  obtain ⟨d1,rfl,w1,f1⟩:=cap1_fr h1
  obtain ⟨d2,rfl,w2,f2⟩:=caps_fr as _ _ _ h2
  refine ⟨d2++d1,plus_plus _ _ _,fun p hp=>?_,fun t ht=>?_⟩
  ·rcases List.mem_append.1 hp with hp | hp
   ·obtain ⟨y,hy,q⟩:=w2 p hp
    exact ⟨y,by simp [hy],q⟩
   ·exact ⟨x,by simp,w1 p hp⟩
  ·have e1:=f1 t fun r hr=>ht r ⟨x,by simp,hr⟩
   have e2:=f2 (t.plus d1) fun r ⟨y,hy,q⟩=>(ht.plus d1) r ⟨y,by simp [hy],q⟩
   simp only [evCaps,e1,e2,plus_plus]
theorem slice_fr {E:Env} {ty:TypeId} {x:AV} {lo hi:Option AV} {s s':St} {y:AV} (h:evSlice E ty x lo hi s=some (y,s')):∃ d,s'=s.plus d∧(∀ p∈d,p.1∈root1 x)∧∀ t,SameOn (fun r=>r∈root1 x) s t→evSlice E ty x lo hi t=some (y,t.plus d):=by
 unfold evSlice at h
 split at h<;>try (cases h;done)
 rename_i ti ht
 split at h
 ·rename_i m bs htd
  split at h<;>try (cases h;done)
  rename_i hh h1
  split at h<;>try (cases h;done)
  rename_i l h2
  simp only [Option.some.injEq,Prod.mk.injEq] at h
  obtain ⟨rfl,rfl⟩:=h
  exact ⟨[],rfl,by simp,fun t _=>by simp only [evSlice,ht,htd,h1,h2];rfl⟩
 ·rename_i e htd
  split at h<;>try (cases h;done)
  rename_i ei m xs s1 hei he
  split at h<;>try (cases h;done)
  rename_i hh h1
  split at h<;>try (cases h;done)
  rename_i l h2
  split at h<;>try (cases h;done)
  rename_i hc
  simp only [Option.some.injEq,Prod.mk.injEq] at h
  obtain ⟨rfl,rfl⟩:=h
  obtain ⟨d,e1,w,f⟩:=embed_fr' he
  exact ⟨d,e1,w,fun t hs=>by simp only [evSlice,ht,htd,hei,f t hs,h1,h2,if_pos hc]⟩
 ·cases h
theorem conv_fr {E:Env} {src dst:TypeId} {x:AV} {d0:Nat} {s s':St} {y:AV} (h:evConv E src dst x d0 s=some (y,s')):∃ d,s'=s.plus d∧(∀ p∈d,p.1=.f d0 1)∧∀ t,SameOn (fun r=>r∈root1 x∨r=.f d0 1) s t→evConv E src dst x d0 t=some (y,t.plus d):=by
 unfold evConv at h
 split at h<;>try (cases h;done)
 rename_i ta tb hsa hsb
 split at h
 ·rename_i k k' m kk n ha hb
  simp only [Option.some.injEq,Prod.mk.injEq] at h
  obtain ⟨rfl,rfl⟩:=h
  exact ⟨[],rfl,by simp,fun t _=>by simp only [evConv,hsa,hsb,ha,hb];rfl⟩
 ·rename_i e m bs ha hb
  split at h<;>try (cases h;done)
  rename_i ei hei
  split at h<;>try (cases h;done)
  rename_i h8
  split at h
  ·rename_i hbs
   simp only [Option.some.injEq,Prod.mk.injEq] at h
   obtain ⟨rfl,rfl⟩:=h
   exact ⟨[],rfl,by simp,fun t _=>by simp only [evConv,hsa,hsb,ha,hb,hei,h8,if_pos hbs];rfl⟩
  ·rename_i hbs
   split at h<;>try (cases h;done)
   rename_i hle
   simp only [Option.some.injEq] at h
   obtain ⟨d,e1,w,f⟩:=new_fr (.f d0 1) .own false [.sl (rowsOfBytes bs)] s
   rw [h] at e1 f
   refine ⟨d,(Prod.mk.inj e1).2,w,fun t ht=>?_⟩
   simp only [evConv,hsa,hsb,ha,hb,hei,h8,if_neg hbs,if_pos hle,f t (ht _ (.inr rfl))]
 ·rename_i x0 _ _ x' e ha hb
  split at h<;>try (cases h;done)
  rename_i ei m xs hei hp
  split at h<;>try (cases h;done)
  rename_i bs h8 hbs
  simp only [Option.some.injEq,Prod.mk.injEq] at h
  obtain ⟨rfl,rfl⟩:=h
  refine ⟨[],rfl,by simp,fun t ht=>?_⟩
  have e1:t.peek x0=s.peek x0:=peek_same fun r hr=>ht r (.inl hr)
  simp only [evConv,hsa,hsb,ha,hb,hei,e1,hp,h8,hbs]
  rfl
 ·cases h
theorem srcRows_fr {s s':St} {y:AV} {m:M} {ys:List (List L)} (h:srcRows s y=some (m,ys,s')):∃ d,s'=s.plus d∧(∀ p∈d,p.1∈root1 y)∧∀ t,SameOn (fun r=>r∈root1 y) s t→srcRows t y=some (m,ys,t.plus d):=by
 have key:∀ s,(∀ m bs,y≠.v m false [.str bs])→srcRows s y=(match s.peek y with
  | some (_,false,[.sl ys]) =>
   if flatRows ys then some (.own,ys,s)
   else match s.embed false y with
    | some (m,false,[.sl ys'],s')=>some (m,ys',s')
    | _=>none
  | _=>none):=by
  intro s hne
  unfold srcRows
  split
  ·rename_i m bs;exact absurd rfl (hne m bs)
  ·rfl
 by_cases hs:∃ m bs,y=.v m false [.str bs]
 ·obtain ⟨m0,bs,rfl⟩:=hs
  simp only [srcRows,Option.some.injEq,Prod.mk.injEq] at h
  obtain ⟨rfl,rfl,rfl⟩:=h
  exact ⟨[],rfl,by simp,fun t _=>rfl⟩
 ·have hne:∀ m bs,y≠.v m false [.str bs]:=fun m bs e=>hs ⟨m,bs,e⟩
  rw [key s hne] at h
  split at h<;>try (cases h;done)
  rename_i m0 ys0 hp
  split at h
  ·rename_i hf
   simp only [Option.some.injEq,Prod.mk.injEq] at h
   obtain ⟨rfl,rfl,rfl⟩:=h
   refine ⟨[],rfl,by simp,fun t ht=>?_⟩
   rw [key t hne,peek_same ht,hp]
   simp only [hf,if_true]
   rfl
  ·rename_i hf
   split at h<;>try (cases h;done)
   rename_i m1 ys1 s1 he
   simp only [Option.some.injEq,Prod.mk.injEq] at h
   obtain ⟨rfl,rfl,rfl⟩:=h
   obtain ⟨d,e1,w,f⟩:=embed_fr' he
   refine ⟨d,e1,w,fun t ht=>?_⟩
   rw [key t hne,peek_same ht,hp]
   simp only [if_neg hf,f t ht]
theorem append_fr {E:Env} {ts:List TypeId} {x y z:AV} {d0:Nat} {s s':St} (h:evAppend E ts x y d0 s=some (z,s')):∃ d,s'=s.plus d∧(∀ p∈d,p.1∈root1 x++root1 y∨p.1=.f d0 1)∧∀ t,SameOn (fun r=>r∈root1 x++root1 y∨r=.f d0 1) s t→evAppend E ts x y d0 t=some (z,t.plus d):=by
 unfold evAppend at h
 split at h<;>try (cases h;done)
 rename_i t1 t2
 split at h<;>try (cases h;done)
 rename_i ti ht
 split at h<;>try (cases h;done)
 rename_i e htd
 split at h<;>try (cases h;done)
 rename_i ei xs s1 hei he
 obtain ⟨d1,rfl,w1,f1⟩:=embed_fr' he
 split at h<;>try (cases h;done)
 rename_i m ys s2 hsr
 obtain ⟨d2,rfl,w2,f2⟩:=srcRows_fr hsr
 split at h<;>try (cases h;done)
 rename_i hc
 simp only [Option.some.injEq] at h
 have base:∀ t,SameOn (fun r=>r∈root1 x++root1 y∨r=.f d0 1) s t→t.embed false x=some (.own,false,[.sl xs],t.plus d1)∧srcRows (t.plus d1) y=some (m,ys,(t.plus d1).plus d2):=fun t hs =>
  ⟨f1 t fun r hr=>hs r (.inl (List.mem_append.2 (.inl hr))),f2 _ ((fun r hr=>(hs.plus d1) r (.inl (List.mem_append.2 (.inr hr))):SameOn _ _ _))⟩
 cases hm:m.isOwn with
 | true =>
  rw [hm] at h
  simp only [if_true] at h
  obtain ⟨d3,e3,w3,f3⟩:=new_fr (.f d0 1) .own false [.sl (xs++ys)] ((s.plus d1).plus d2)
  rw [h] at e3 f3
  refine ⟨d3++(d2++d1),((Prod.mk.inj e3).2).trans (by simp only [plus_plus,List.append_assoc]),fun p hp=>?_,fun t hs=>?_⟩
  ·rcases List.mem_append.1 hp with hp | hp
   ·exact .inr (w3 p hp)
   ·rcases List.mem_append.1 hp with hp | hp
    ·exact .inl (List.mem_append.2 (.inr (w2 p hp)))
    ·exact .inl (List.mem_append.2 (.inl (w1 p hp)))
  ·obtain ⟨b1,b2⟩:=base t hs
   have b3:=f3 ((t.plus d1).plus d2) (((hs.plus d1).plus d2) _ (.inr rfl))
   simp only [plus_plus,List.append_assoc] at b3
   simp only [evAppend,ht,htd,hei,b1,b2,if_pos hc,hm,if_true,b3,plus_plus,List.append_assoc]
 | false =>
  rw [hm] at h
  simp only [Bool.false_eq_true,if_false,Prod.mk.injEq] at h
  obtain ⟨rfl,rfl⟩:=h
  refine ⟨d2++d1,by rw [plus_plus],fun p hp=>?_,fun t hs=>?_⟩
  ·rcases List.mem_append.1 hp with hp | hp
   ·exact .inl (List.mem_append.2 (.inr (w2 p hp)))
   ·exact .inl (List.mem_append.2 (.inl (w1 p hp)))
  ·obtain ⟨b1,b2⟩:=base t hs
   simp only [evAppend,ht,htd,hei,b1,b2,if_pos hc,hm,Bool.false_eq_true,if_false,plus_plus]
theorem move_fr:∀ (as:List AV) (ms:List Mode) (s s':St) (ps:List Pre),moveArgs ms as s=some (ps,s') →
  ∃ d,s'=s.plus d∧(∀ p∈d,p.1∈rootsArgs ms as)∧∀ t,SameOn (fun r=>r∈rootsArgs ms as) s t→moveArgs ms as t=some (ps,t.plus d)
 | [],ms,s,s',ps,h=>by
  simp only [moveArgs,Option.some.injEq,Prod.mk.injEq] at h
  obtain ⟨rfl,rfl⟩:=h
  exact ⟨[],rfl,by simp,fun t _=>rfl⟩
 | a::as,ms,s,s',ps,h=>by
  simp only [moveArgs] at h
  split at h
  ·rename_i hm
   split at h<;>try (cases h;done)
   rename_i m agg ls s1 he
   simp only [Option.map_eq_some_iff] at h
   obtain ⟨⟨ps2,s2⟩,h1,h2⟩:=h
   simp only [Prod.mk.injEq] at h2
   obtain ⟨rfl,rfl⟩:=h2
   obtain ⟨d1,rfl,w1,f1⟩:=embed_fr' he
   obtain ⟨d2,rfl,w2,f2⟩:=move_fr as ms.tail _ _ _ h1
   have hra:rootsArgs ms (a::as)=rootsAV a++rootsArgs ms.tail as:=by simp only [rootsArgs,hm]
   have hsub:∀ r∈root1 a,r∈rootsAV a:=by cases a<;>simp [root1,rootsAV]
   refine ⟨d2++d1,plus_plus _ _ _,fun p hp=>?_,fun t ht=>?_⟩
   ·rw [hra]
    rcases List.mem_append.1 hp with hp | hp
    ·exact List.mem_append.2 (.inr (w2 p hp))
    ·exact List.mem_append.2 (.inl (hsub _ (w1 p hp)))
   ·rw [hra] at ht
    have e1:=f1 t fun r hr=>ht r (List.mem_append.2 (.inl (hsub r hr)))
    have e2:=f2 (t.plus d1) fun r hr=>(ht.plus d1) r (List.mem_append.2 (.inr hr))
    simp only [moveArgs,hm,e1,e2,Option.map_some,plus_plus]
  ·rename_i m hm
   simp only [Option.map_eq_some_iff] at h
   obtain ⟨⟨ps2,s2⟩,h1,h2⟩:=h
   simp only [Prod.mk.injEq] at h2
   obtain ⟨rfl,rfl⟩:=h2
   obtain ⟨d2,rfl,w2,f2⟩:=move_fr as ms.tail _ _ _ h1
   refine ⟨d2,rfl,fun p hp=>List.mem_append.2 (.inr (w2 p hp)),fun t ht=>?_⟩
   have e2:=f2 t fun r hr=>ht r (List.mem_append.2 (.inr hr))
   simp only [moveArgs,e2,Option.map_some]
def preRoots:Pre→List Root
 | .raw _ x=>root1 x
 | .got _=>[]
theorem argOf_same {s t:St} {p:Pre} (h:SameOn (fun r=>r∈preRoots p) s t):argOf t p=argOf s p:=by
 cases p with
 | got a=>rfl
 | raw m x =>
  cases x with
  | «at» r k0 k1 off hops n agg =>
   have e:=getAt_same (k0:=k0) (k1:=k1) (off:=off) (hops:=hops) (n:=n) (h r (by simp [preRoots,root1]))
   cases m with
   | io =>
    rcases off with _ | off
    ·cases hops<;>simp only [argOf,e]
    ·rfl
   | _=>simp only [argOf,e]
  | ad r k0 k1 off hops =>
   have hr:=h r (by simp [preRoots,root1])
   have e:=getAd_same (k0:=k0) (k1:=k1) (off:=off) (hops:=hops) hr
   cases m with
   | ro=>simp only [argOf,e]
   | own=>rfl
   | io=>rfl
   | ptr =>
    rcases off with _ | off
    ·cases hops
     ·simp only [argOf,hr]
     ·rfl
    ·rfl
  | _=>cases m<;>rfl
theorem argsOf_same {s t:St}:∀ {ps:List Pre},SameOn (fun r=>∃ p∈ps,r∈preRoots p) s t→argsOf t ps=argsOf s ps
 | [],_=>rfl
 | p::ps,h=>by
  have e1:=argOf_same (p:=p) fun r hr=>h r ⟨p,by simp,hr⟩
  have e2:=argsOf_same (ps:=ps) fun r ⟨q,hq,hr⟩=>h r ⟨q,by simp [hq],hr⟩
  simp only [argsOf,e1,e2]
theorem give_fr:∀ (bs:List Root) (os:List (M × List L)) (s s':St),giveBack bs os s=some s'→∃ d,s'=s.plus d∧(∀ p∈d,p.1∈bs)∧∀ t,SameOn (fun r=>r∈bs) s t→giveBack bs os t=some (t.plus d)
 | [],[],s,s',h=>by
  simp only [giveBack,Option.some.injEq] at h
  subst h
  exact ⟨[],rfl,by simp,fun t _=>rfl⟩
 | [],_::_,s,s',h=>by simp [giveBack] at h
 | _::_,[],s,s',h=>by simp [giveBack] at h
 | r::bs,(m,ls)::os,s,s',h=>by
  simp only [giveBack] at h
  split at h<;>try (cases h;done)
  rename_i h0 hl
  split at h<;>try (cases h;done)
  rename_i hc
  obtain ⟨d,rfl,w,f⟩:=give_fr bs os _ s' h
  refine ⟨d++[(r,{ h0 with m,ls,e0:=if h0.box then h0.e0+1 else h0.e0,e1:=h0.e1+1,lz:=none })],by rw [putH_plus,plus_plus],fun p hp=>?_,fun t ht=>?_⟩
  ·rcases List.mem_append.1 hp with hp | hp
   ·exact List.mem_cons_of_mem _ (w p hp)
   ·simp only [List.mem_singleton] at hp
    subst hp
    simp
  ·have e:=ht r (by simp)
   have e2:=f (t.plus [(r,{ h0 with m,ls,e0:=if h0.box then h0.e0+1 else h0.e0,e1:=h0.e1+1,lz:=none })]) fun q hq=>(ht.plus _) q (by simp [hq])
   simp only [giveBack,e,hl,if_pos hc,putH_plus]
   rw [plus_plus] at e2
   exact e2
theorem mk_fr (r:Root) (x:RV) (s:St):∃ d,mkRV r s x=((mkRV r s x).1,s.plus d)∧(∀ p∈d,p.1=r)∧∀ t:St,lookH t.H r=lookH s.H r→mkRV r t x=((mkRV r s x).1,t.plus d):=by
 cases x with
 | v m agg ls=>exact new_fr r m agg ls s
 | ptr m ls=>exact mkBox_fr r m ls s
theorem mks_fr (d0:Nat):∀ (rs:List RV) (k:Nat) (s:St),∃ d,mkRVs d0 k rs s=((mkRVs d0 k rs s).1,s.plus d)∧(∀ p∈d,∃ j,p.1=.f d0 j)∧∀ t:St,SameOn (fun r=>∃ j,r=.f d0 j) s t→mkRVs d0 k rs t=((mkRVs d0 k rs s).1,t.plus d)
 | [],k,s=>⟨[],rfl,by simp,fun t _=>rfl⟩
 | x::rs,k,s=>by
  obtain ⟨d1,e1,w1,f1⟩:=mk_fr (.f d0 k) x s
  obtain ⟨d2,e2,w2,f2⟩:=mks_fr d0 rs (k+1) (s.plus d1)
  refine ⟨d2++d1,?_,fun p hp=>?_,fun t ht=>?_⟩
  ·simp only [mkRVs]
   rw [e1]
   simp only
   rw [e2]
   simp only [plus_plus]
  ·rcases List.mem_append.1 hp with hp | hp
   ·exact w2 p hp
   ·exact ⟨k,w1 p hp⟩
  ·have g1:=f1 t (ht _ ⟨k,rfl⟩)
   have g2:=f2 (t.plus d1) (ht.plus d1)
   simp only [mkRVs]
   rw [g1,e1]
   simp only
   rw [g2,e2]
   simp only [plus_plus]
end Go.Ev


namespace Go.Ev
theorem root1_sub {x:AV} {r:Root} (h:r∈root1 x):r∈rootsAV x:=by cases x<;>simp_all [root1,rootsAV]
theorem args_sub:∀ (as:List AV) (ms:List Mode) (r:Root),r∈rootsArgs ms as→r∈asRoots as
 | [],_,r,h=>by simp [rootsArgs] at h
 | a::as,ms,r,h=>by
  simp only [rootsArgs,List.mem_append] at h
  simp only [asRoots,List.flatMap_cons,List.mem_append]
  rcases h with h | h
  ·left
   split at h
   ·simp at h
   ·exact h
  ·exact .inr (args_sub as ms.tail r h)
theorem pre_sub:∀ (as:List AV) (ms:List Mode) (s s':St) (ps:List Pre),moveArgs ms as s=some (ps,s')→∀ p∈ps,∀ r∈preRoots p,r∈asRoots as
 | [],ms,s,s',ps,h=>by
  simp only [moveArgs,Option.some.injEq,Prod.mk.injEq] at h
  obtain ⟨rfl,rfl⟩:=h
  simp
 | a::as,ms,s,s',ps,h=>by
  simp only [moveArgs] at h
  split at h
  ·split at h<;>try (cases h;done)
   simp only [Option.map_eq_some_iff] at h
   obtain ⟨⟨ps2,s2⟩,h1,h2⟩:=h
   simp only [Prod.mk.injEq] at h2
   obtain ⟨rfl,rfl⟩:=h2
   intro p hp r hr
   rcases List.mem_cons.1 hp with rfl | hp
   ·simp [preRoots] at hr
   ·simp only [asRoots,List.flatMap_cons,List.mem_append]
    exact .inr (pre_sub as _ _ _ _ h1 p hp r hr)
  ·simp only [Option.map_eq_some_iff] at h
   obtain ⟨⟨ps2,s2⟩,h1,h2⟩:=h
   simp only [Prod.mk.injEq] at h2
   obtain ⟨rfl,rfl⟩:=h2
   intro p hp r hr
   simp only [asRoots,List.flatMap_cons,List.mem_append]
   rcases List.mem_cons.1 hp with rfl | hp
   ·exact .inl (root1_sub hr)
   ·exact .inr (pre_sub as _ _ _ _ h1 p hp r hr)
theorem arg_backs {s:St} {m:Mode} {x:AV} {A:Arg} {bk:List Root} {o:List (Root × Bool)} (h:argOf s (.raw m x)=some (A,bk,o)):∀ r∈bk,m≠.ro∧r∈rootsAV x:=by
 unfold argOf at h
 split at h
 ·rename_i heq;cases heq
 ·cases h;simp
 ·cases h;simp
 ·split at h<;>try (cases h;done)
  split at h<;>(cases h;simp)
 ·split at h<;>try (cases h;done)
  cases h;simp
 ·rename_i r k0 k1 heq
  cases heq
  split at h<;>try (cases h;done)
  split at h<;>cases h
  simp [rootsAV,root1]
 ·rename_i r k0 k1 n agg heq
  cases heq
  split at h<;>try (cases h;done)
  split at h<;>cases h
  simp [rootsAV,root1]
 ·cases h
theorem backs_sub {s0:St}:∀ (as:List AV) (ms:List Mode) (s s':St) (ps:List Pre) (pa:PA),moveArgs ms as s=some (ps,s')→argsOf s0 ps=some pa→∀ r∈pa.backs,r∈rootsArgs ms as
 | [],ms,s,s',ps,pa,h,ha=>by
  simp only [moveArgs,Option.some.injEq,Prod.mk.injEq] at h
  obtain ⟨rfl,rfl⟩:=h
  simp only [argsOf,Option.some.injEq] at ha
  subst ha
  simp
 | a::as,ms,s,s',ps,pa,h,ha=>by
  simp only [moveArgs] at h
  split at h
  ·split at h<;>try (cases h;done)
   simp only [Option.map_eq_some_iff] at h
   obtain ⟨⟨ps2,s2⟩,h1,h2⟩:=h
   simp only [Prod.mk.injEq] at h2
   obtain ⟨rfl,rfl⟩:=h2
   simp only [argsOf,argOf] at ha
   split at ha<;>try (cases ha;done)
   rename_i pa' hpa
   simp only [Option.some.injEq] at ha
   subst ha
   intro r hr
   simp only [List.nil_append] at hr
   simp only [rootsArgs,List.mem_append]
   exact .inr (backs_sub as _ _ _ _ pa' h1 hpa r hr)
  ·rename_i m hm
   simp only [Option.map_eq_some_iff] at h
   obtain ⟨⟨ps2,s2⟩,h1,h2⟩:=h
   simp only [Prod.mk.injEq] at h2
   obtain ⟨rfl,rfl⟩:=h2
   simp only [argsOf] at ha
   split at ha<;>try (cases ha;done)
   rename_i A bk o ho
   split at ha<;>try (cases ha;done)
   rename_i pa' hpa
   simp only [Option.some.injEq] at ha
   subst ha
   intro r hr
   simp only [rootsArgs,List.mem_append]
   rcases List.mem_append.1 hr with hr | hr
   ·left
    obtain ⟨q1,q2⟩:=arg_backs ho r hr
    split
    ·rename_i hq;exact absurd hq q1
    ·exact q2
   ·exact .inr (backs_sub as _ _ _ _ pa' h1 hpa r hr)
theorem putAns_fr {dst:Option Nat} {rs:List RV} {s s':St} (h:putAns dst rs s=some s'):∃ d x,s'=(s.plus d).put dst x∧(∀ p∈d,∃ j,p.1=.f (dst.getD 0) j)∧∀ t:St,SameOn (fun r=>∃ j,r=.f (dst.getD 0) j) s t→putAns dst rs t=some ((t.plus d).put dst x):=by
 have multi:putAns dst rs s=some ((mkRVs (dst.getD 0) 1 rs s).2.put dst (.tup (mkRVs (dst.getD 0) 1 rs s).1))→(∀ t:St,putAns dst rs t=some ((mkRVs (dst.getD 0) 1 rs t).2.put dst (.tup (mkRVs (dst.getD 0) 1 rs t).1)))→∃ d x,s'=(s.plus d).put dst x∧(∀ p∈d,∃ j,p.1=.f (dst.getD 0) j)∧∀ t:St,SameOn (fun r=>∃ j,r=.f (dst.getD 0) j) s t→putAns dst rs t=some ((t.plus d).put dst x):=by
  intro hs ht
  obtain ⟨d,e,w,f⟩:=mks_fr (dst.getD 0) rs 1 s
  rw [hs] at h
  refine ⟨d,.tup (mkRVs (dst.getD 0) 1 rs s).1,?_,w,fun t hq=>?_⟩
  ·rw [← Option.some.inj h]
   rw [show (mkRVs (dst.getD 0) 1 rs s).2=s.plus d from congrArg Prod.snd e]
  ·rw [ht t,f t hq]
 match rs,h,multi with
 | [],h,multi=>exact multi rfl fun _=>rfl
 | [x],h,_ =>
  obtain ⟨d,e,w,f⟩:=mk_fr (.f (dst.getD 0) 1) x s
  refine ⟨d,(mkRV (.f (dst.getD 0) 1) s x).1,?_,fun p hp=>⟨1,w p hp⟩,fun t hq=>?_⟩
  ·simp only [putAns,Option.some.injEq] at h
   rw [← h]
   rw [show (mkRV (.f (dst.getD 0) 1) s x).2=s.plus d from congrArg Prod.snd e]
  ·simp only [putAns]
   rw [f t (hq _ ⟨1,rfl⟩)]
 | _::_::_,h,multi=>exact multi rfl fun _=>rfl
theorem callWith_fr {E:Env} {K:Fns} (hst:E.strict=true) {ms:List Mode} {f:FuncId} {as:List AV} {dst:Option Nat} {s s':St} (h:callWith E K false ms f as dst s=some s') :
  ∃ d x,s'=(s.plus d).put dst x∧(∀ p∈d,p.1∈rootsArgs ms as∨∃ j,p.1=.f (dst.getD 0) j)∧∀ t:St,SameOn (fun r=>r∈asRoots as∨∃ j,r=.f (dst.getD 0) j) s t→callWith E K false ms f as dst t=some ((t.plus d).put dst x):=by
 unfold callWith at h
 split at h<;>try (cases h;done)
 rename_i ps s0 hmv
 split at h<;>try (cases h;done)
 rename_i pa hpa
 split at h<;>try (cases h;done)
 rename_i hcl
 split at h<;>try (cases h;done)
 rename_i out hk
 simp only at h
 split at h<;>try (cases h;done)
 rename_i hdirty
 obtain ⟨d1,rfl,w1,f1⟩:=move_fr as ms s s0 ps hmv
 have hfz:∀ u:St,(if (out.rs.any RV.tainted || out.outs.any fun o=>o.1.isTn&&!o.2.all L.flat)=true then freezeAll pa.bor u else u)=u:=by
  intro u
  split
  ·rename_i hd
   rw [hst,hd] at hdirty
   have:pa.bor=[]:=by simpa using hdirty
   rw [this];rfl
  ·rfl
 rw [hfz] at h
 split at h<;>try (cases h;done)
 rename_i s1 hgb
 obtain ⟨d2,rfl,w2,f2⟩:=give_fr _ _ _ _ hgb
 obtain ⟨d3,x,rfl,w3,f3⟩:=putAns_fr h
 have hbk:∀ r∈pa.backs,r∈rootsArgs ms as:=backs_sub as _ _ _ _ pa hmv hpa
 refine ⟨d3++(d2++d1),x,by simp only [plus_plus,List.append_assoc],fun p hp=>?_,fun t ht=>?_⟩
 ·rcases List.mem_append.1 hp with hp | hp
  ·exact .inr (w3 p hp)
  ·rcases List.mem_append.1 hp with hp | hp
   ·exact .inl (hbk _ (w2 p hp))
   ·exact .inl (w1 p hp)
 ·have e1:=f1 t fun r hr=>ht r (.inl (args_sub as _ r hr))
  have hA:argsOf (t.plus d1) ps=some pa:=by
   rw [argsOf_same (s:=s.plus d1) fun r ⟨p,hp,hr⟩=>(ht.plus d1) r (.inl (pre_sub as _ _ _ _ hmv p hp r hr))]
   exact hpa
  have e2:=f2 (t.plus d1) fun r hr=>(ht.plus d1) r (.inl (args_sub as _ r (hbk r hr)))
  have e3:=f3 ((t.plus d1).plus d2) fun r hr=>((ht.plus d1).plus d2) r (.inr hr)
  unfold callWith
  simp only [e1,hA,if_pos hcl,hk,if_neg hdirty,hfz,e2]
  rw [e3]
  simp only [plus_plus,List.append_assoc]
theorem freeze_fr:∀ (bor:List (Root × Bool)) (s:St),∃ d,freezeAll bor s=s.plus d∧(∀ p∈d,∃ f,(p.1,f)∈bor)∧∀ t,SameOn (fun r=>∃ f,(r,f)∈bor) s t→freezeAll bor t=t.plus d
 | [],s=>⟨[],rfl,by simp,fun t _=>rfl⟩
 | (r,isRef)::rest,s=>by
  cases hl:lookH s.H r with
  | none =>
   obtain ⟨d,e,w,f⟩:=freeze_fr rest s
   refine ⟨d,by simp only [freezeAll,hl];exact e,fun p hp=>?_,fun t ht=>?_⟩
   ·obtain ⟨g,hg⟩:=w p hp
    exact ⟨g,List.mem_cons_of_mem _ hg⟩
   ·have e0:=ht r ⟨isRef,by simp⟩
    simp only [freezeAll,e0,hl]
    exact f t fun q ⟨g,hq⟩=>ht q ⟨g,by simp [hq]⟩
  | some h0 =>
   obtain ⟨d,e,w,f⟩:=freeze_fr rest (s.putH r { h0 with m:=h0.m.fz,wr:=h0.wr&&!isRef })
   rw [putH_plus] at e f
   refine ⟨d++[(r,{ h0 with m:=h0.m.fz,wr:=h0.wr&&!isRef })],by simp only [freezeAll,hl];rw [putH_plus,e,plus_plus],fun p hp=>?_,fun t ht=>?_⟩
   ·rcases List.mem_append.1 hp with hp | hp
    ·obtain ⟨g,hg⟩:=w p hp
     exact ⟨g,List.mem_cons_of_mem _ hg⟩
    ·simp only [List.mem_singleton] at hp
     subst hp
     exact ⟨isRef,by simp⟩
   ·have e0:=ht r ⟨isRef,by simp⟩
    have e2:=f (t.plus [(r,{ h0 with m:=h0.m.fz,wr:=h0.wr&&!isRef })]) fun q ⟨g,hq⟩=>(ht.plus _) q ⟨g,by simp [hq]⟩
    simp only [freezeAll,e0,hl,putH_plus]
    rw [plus_plus] at e2
    exact e2
theorem arg_bor {s:St} {p:Pre} {A:Arg} {bk:List Root} {o:List (Root × Bool)} (h:argOf s p=some (A,bk,o)):∀ x∈o,x.1∈preRoots p:=by
 unfold argOf at h
 split at h
 ·cases h;simp
 ·cases h;simp
 ·cases h;simp
 ·split at h<;>try (cases h;done)
  split at h<;>(cases h;simp [preRoots,root1])
 ·split at h<;>try (cases h;done)
  cases h;simp [preRoots,root1]
 ·split at h<;>try (cases h;done)
  split at h<;>cases h
  simp
 ·split at h<;>try (cases h;done)
  split at h<;>cases h
  simp
 ·cases h
theorem bor_sub {s0:St}:∀ (ps:List Pre) (pa:PA),argsOf s0 ps=some pa→∀ x∈pa.bor,∃ p∈ps,x.1∈preRoots p
 | [],pa,h=>by
  simp only [argsOf,Option.some.injEq] at h
  subst h
  simp
 | p::ps,pa,h=>by
  simp only [argsOf] at h
  split at h<;>try (cases h;done)
  rename_i A bk o ho
  split at h<;>try (cases h;done)
  rename_i pa' hpa
  simp only [Option.some.injEq] at h
  subst h
  intro x hx
  rcases List.mem_append.1 hx with hx | hx
  ·exact ⟨p,by simp,arg_bor ho x hx⟩
  ·obtain ⟨q,hq,hr⟩:=bor_sub ps pa' hpa x hx
   exact ⟨q,List.mem_cons_of_mem _ hq,hr⟩
theorem callWith_frL {E:Env} {K:Fns} {ms:List Mode} {f:FuncId} {as:List AV} {dst:Option Nat} {s s':St} (h:callWith E K true ms f as dst s=some s') :
  ∃ d x,s'=(s.plus d).put dst x∧(∀ p∈d,p.1∈asRoots as∨∃ j,p.1=.f (dst.getD 0) j)∧∀ t:St,SameOn (fun r=>r∈asRoots as∨∃ j,r=.f (dst.getD 0) j) s t→callWith E K true ms f as dst t=some ((t.plus d).put dst x):=by
 unfold callWith at h
 split at h<;>try (cases h;done)
 rename_i ps s0 hmv
 split at h<;>try (cases h;done)
 rename_i pa hpa
 split at h<;>try (cases h;done)
 rename_i hcl
 split at h<;>try (cases h;done)
 rename_i out hk
 simp only at h
 split at h<;>try (cases h;done)
 rename_i hdirty
 obtain ⟨d1,rfl,w1,f1⟩:=move_fr as ms s s0 ps hmv
 have hbor:∀ x∈pa.bor,x.1∈asRoots as:=fun x hx=>by
  obtain ⟨p,hp,hr⟩:=bor_sub ps pa hpa x hx
  exact pre_sub as _ _ _ _ hmv p hp _ hr
 obtain ⟨dF,eF,wF,fF⟩:∃ dF,(if (out.rs.any RV.tainted || out.outs.any fun o=>o.1.isTn&&!o.2.all L.flat)=true then freezeAll pa.bor (s.plus d1) else s.plus d1)=(s.plus d1).plus dF∧(∀ p∈dF,p.1∈asRoots as)∧∀ t,SameOn (fun r=>r∈asRoots as∨∃ j,r=.f (dst.getD 0) j) (s.plus d1) t→(if (out.rs.any RV.tainted || out.outs.any fun o=>o.1.isTn&&!o.2.all L.flat)=true then freezeAll pa.bor t else t)=t.plus dF:=by
  split
  ·obtain ⟨d,e,w,f⟩:=freeze_fr pa.bor (s.plus d1)
   exact ⟨d,e,fun p hp=>(w p hp).elim fun g hg=>hbor _ hg,fun t ht=>f t fun r ⟨g,hg⟩=>ht r (.inl (hbor _ hg))⟩
  ·exact ⟨[],rfl,by simp,fun t _=>rfl⟩
 rw [eF] at h
 split at h<;>try (cases h;done)
 rename_i s1 hgb
 obtain ⟨d2,rfl,w2,f2⟩:=give_fr _ _ _ _ hgb
 obtain ⟨d3,x,rfl,w3,f3⟩:=putAns_fr h
 have hbk:∀ r∈pa.backs,r∈asRoots as:=fun r hr=>args_sub _ _ _ (backs_sub as _ _ _ _ pa hmv hpa r hr)
 refine ⟨d3++(d2++(dF++d1)),x,by simp only [plus_plus,List.append_assoc],fun p hp=>?_,fun t ht=>?_⟩
 ·rcases List.mem_append.1 hp with hp | hp
  ·exact .inr (w3 p hp)
  ·rcases List.mem_append.1 hp with hp | hp
   ·exact .inl (hbk _ (w2 p hp))
   ·rcases List.mem_append.1 hp with hp | hp
    ·exact .inl (wF p hp)
    ·exact .inl (args_sub _ _ _ (w1 p hp))
 ·have e1:=f1 t fun r hr=>ht r (.inl (args_sub as _ r hr))
  have hA:argsOf (t.plus d1) ps=some pa:=by
   rw [argsOf_same (s:=s.plus d1) fun r ⟨p,hp,hr⟩=>(ht.plus d1) r (.inl (pre_sub as _ _ _ _ hmv p hp r hr))]
   exact hpa
  have eF2:=fF (t.plus d1) (ht.plus d1)
  have e2:=f2 ((t.plus d1).plus dF) fun r hr=>((ht.plus d1).plus dF) r (.inl (hbk r hr))
  have e3:=f3 (((t.plus d1).plus dF).plus d2) fun r hr=>(((ht.plus d1).plus dF).plus d2) r (.inr hr)
  unfold callWith
  simp only [e1,hA,if_pos hcl,hk,if_neg hdirty,eF2,e2]
  rw [e3]
  simp only [plus_plus,List.append_assoc]
theorem probe_same {E:Env} {K:Fns} {f:FuncId} {as:List AV} {s t:St} {o:Out} (h:probe E K f as s=some o) (ht:SameOn (fun r=>r∈asRoots as) s t):probe E K f as t=some o:=by
 unfold probe at h ⊢
 split at h<;>try (cases h;done)
 rename_i ps s0 hmv
 split at h<;>try (cases h;done)
 rename_i pa hpa
 obtain ⟨d1,rfl,w1,f1⟩:=move_fr as (E.sig f) s s0 ps hmv
 have e1:=f1 t fun r hr=>ht r (args_sub as _ r hr)
 have hA:argsOf (t.plus d1) ps=some pa:=by
  rw [argsOf_same (s:=s.plus d1) fun r ⟨p,hp,hr⟩=>(ht.plus d1) r (pre_sub as _ _ _ _ hmv p hp r hr)]
  exact hpa
 simp only [e1,hA]
 exact h
theorem callFn_fr {E:Env} {K:Fns} (hst:E.strict=true) {f:FuncId} {as:List AV} {dst:Option Nat} {s s':St} (h:callFn E K f as dst s=some s') :
  ∃ d x,s'=(s.plus d).put dst x∧(∀ p∈d,p.1∈callWr E f as∨∃ j,p.1=.f (dst.getD 0) j)∧∀ t:St,SameOn (fun r=>r∈asRoots as∨∃ j,r=.f (dst.getD 0) j) s t→callFn E K f as dst t=some ((t.plus d).put dst x):=by
 unfold callFn callWr at *
 cases ha:E.alt2 f with
 | none =>
  rw [ha] at h
  exact callWith_fr hst h
 | some ms =>
  rw [ha] at h
  dsimp only at h ⊢
  cases hp:probe E K f as s with
  | none=>rw [hp] at h;cases h
  | some o =>
   rw [hp,Option.bind_some] at h
   have hpt:∀ t:St,SameOn (fun r=>r∈asRoots as∨∃ j,r=.f (dst.getD 0) j) s t→probe E K f as t=some o:=fun t ht=>probe_same hp fun r hr=>ht r (.inl hr)
   split at h
   ·rename_i hb
    obtain ⟨d,x,e,w,fr⟩:=callWith_frL h
    refine ⟨d,x,e,w,fun t ht=>?_⟩
    rw [hpt t ht,Option.bind_some,if_pos hb]
    exact fr t ht
   ·rename_i hb
    obtain ⟨d,x,e,w,fr⟩:=callWith_fr hst h
    refine ⟨d,x,e,fun p hp=>(w p hp).imp (args_sub _ _ _) id,fun t ht=>?_⟩
    rw [hpt t ht,Option.bind_some,if_neg hb]
    exact fr t ht
end Go.Ev


namespace Go.Ev
def opNew (o:Oper):Bool :=
 match o.op with
 | .alloc .. | .box .. | .build .. | .buildSlice .. | .makeSlice .. | .convert ..=>true
 | .call { callee:=.builtin .append,.. }=>true
 | .call { callee:=.value _,.. }=>true
 | _=>false
def FrS (E:Env) (o:Oper) (s s':St) (g:St→Option St):Prop :=
 ∃ d x,s'=(s.plus d).put o.dst x∧(∀ p∈d,p.1∈opWr E s o∨(opNew o=true∧∃ j,p.1=.f (o.dst.getD 0) j)) ∧
  ∀ t:St,(∀ x∈o.op.operands.toList,opnd E t x=opnd E s x)→SameOn (fun r=>r∈opTouch E s o∨∃ j,r=.f (o.dst.getD 0) j) s t→g t=some ((t.plus d).put o.dst x)
section
variable {E:Env} {K:Fns} {o:Oper} {fz:List Nat} {s s':St}
theorem touch_of {x:Operand} (hx:x∈o.op.operands.toList) {r:Root} (hr:r∈rootsAV (opnd E s x)) (hl:opLooks o=true:=by simp only [opLooks, *]):r∈opTouch E s o:=by
 simp only [opTouch,hl,if_true,List.mem_flatMap]
 exact ⟨x,hx,hr⟩
theorem touch1 {x:Operand} (hx:x∈o.op.operands.toList) {r:Root} (hr:r∈root1 (opnd E s x)) (hl:opLooks o=true:=by simp only [opLooks, *]):r∈opTouch E s o:=touch_of hx (root1_sub hr) hl
theorem fr_pure {x:AV} {g:St→Option St} (h:s'=s.put o.dst x) (ht:∀ t:St,(∀ x∈o.op.operands.toList,opnd E t x=opnd E s x)→SameOn (fun r=>r∈opTouch E s o∨∃ j,r=.f (o.dst.getD 0) j) s t→g t=some (t.put o.dst x)):FrS E o s s' g :=
 ⟨[],x,h,by simp,ht⟩
theorem rootsArgs_imm (m:M) (caps:List L):∀ (ms:List Mode),rootsArgs ms (caps.map fun l=>AV.v m false [l])=[]:=by
 induction caps with
 | nil=>intro ms;rfl
 | cons l caps ih =>
  intro ms
  simp only [List.map_cons,rootsArgs,ih,List.append_nil]
  split<;>rfl
theorem rootsArgs_app (vs:List AV) (hv:∀ ms,rootsArgs ms vs=[]):∀ (as:List AV) (ms:List Mode),rootsArgs ms (as++vs)=rootsArgs ms as
 | [],ms=>by simp [hv,rootsArgs]
 | a::as,ms=>by simp only [List.cons_append,rootsArgs,rootsArgs_app vs hv as]
theorem asRoots_imm (m:M) (as:List AV) (caps:List L) {r:Root} (h:r∈asRoots (as++caps.map fun l=>AV.v m false [l])):r∈asRoots as:=by
 simp only [asRoots,List.flatMap_append,List.mem_append,List.mem_flatMap,List.mem_map] at h ⊢
 rcases h with h | ⟨x,⟨l,_,rfl⟩,hr⟩
 ·exact h
 ·simp [rootsAV,root1] at hr
theorem args_mem {as:Array Operand} {x:AV} {f:Operand→AV} (h:x∈as.toList.map f):∃ y∈as.toList,f y=x:=by simpa using h
theorem evOp_fr (hst:E.strict=true) (h:evOp E K fz o s=some s'):FrS E o s s' (evOp E K fz o):=by
 unfold evOp at h
 simp only at h
 split at h
 ·rename_i x ho
  simp only [Option.some.injEq] at h
  subst h
  refine fr_pure rfl fun t he _=>?_
  have e:=he x (by simp [ho,Op.operands])
  simp only [evOp,ho,e]
 ·rename_i x ho
  simp only [Option.some.injEq] at h
  subst h
  refine fr_pure rfl fun t he _=>?_
  have e:=he x (by simp [ho,Op.operands])
  simp only [evOp,ho,e]
 ·rename_i c x y ho
  split at h<;>try (cases h;done)
  rename_i m q hq
  split at h<;>try (cases h;done)
  rename_i m2 agg ls hv
  simp only [Option.some.injEq] at h
  subst h
  refine fr_pure rfl fun t he _=>?_
  have e1:=he c (by simp [ho,Op.operands])
  have e2:=he x (by simp [ho,Op.operands])
  have e3:=he y (by simp [ho,Op.operands])
  simp only [evOp,ho,e1,e2,e3,hq,hv]
 ·rename_i t ho
  simp only [Option.map_eq_some_iff] at h
  obtain ⟨ti,ht,rfl⟩:=h
  obtain ⟨d,e,w,f⟩:=mkBox_fr (.f (o.dst.getD 0) 1) .own ti.zero s
  refine ⟨d,(s.mkBox (.f (o.dst.getD 0) 1) .own ti.zero).1,?_,fun p hp=>.inr ⟨by simp [opNew,ho],1,w p hp⟩,fun t he hs=>?_⟩
  ·rw [show (s.mkBox (.f (o.dst.getD 0) 1) .own ti.zero).2=s.plus d from congrArg Prod.snd e]
  ·have e2:=f t (hs _ (.inr ⟨1,rfl⟩))
   simp only [evOp,ho,ht,Option.map_some,e2]
 ·rename_i ty x ho
  split at h<;>try (cases h;done)
  rename_i ti m agg ls s1 ht hem
  split at h<;>try (cases h;done)
  rename_i hl
  obtain ⟨d1,rfl,w1,f1⟩:=embed_fr' hem
  obtain ⟨d,e,w,f⟩:=mkBox_fr (.f (o.dst.getD 0) 1) m ls (s.plus d1)
  have hx:x∈o.op.operands.toList:=by simp [ho,Op.operands]
  split at h
  ·rename_i hbf
   simp only [Option.map_eq_some_iff] at h
   obtain ⟨⟨l,s3⟩,hc,rfl⟩:=h
   obtain ⟨d2,e3,w2,f2⟩:=cap1_fr hc
   have hr1:∀ r∈root1 ((s.plus d1).mkBox (.f (o.dst.getD 0) 1) m ls).1,r=.f (o.dst.getD 0) 1:=fun r hr=>by
    unfold St.mkBox at hr
    split at hr<;>simp [root1] at hr
    exact hr
   have e2:((s.plus d1).mkBox (.f (o.dst.getD 0) 1) m ls).2=(s.plus d1).plus d:=congrArg Prod.snd e
   refine ⟨d2++(d++d1),.v .ro false [l],?_,fun p hp=>?_,fun t he hs=>?_⟩
   ·rw [e3,e2]
    simp only [plus_plus,List.append_assoc]
   ·rcases List.mem_append.1 hp with hp | hp
    ·exact .inr ⟨by simp [opNew,ho],1,hr1 _ (w2 p hp)⟩
    ·rcases List.mem_append.1 hp with hp | hp
     ·exact .inr ⟨by simp [opNew,ho],1,w p hp⟩
     ·left;simp only [opWr,ho];exact root1_sub (w1 p hp)
   ·have e1:=f1 t fun r hr=>hs r (.inl (touch1 hx hr))
    have e4:=f (t.plus d1) ((hs.plus d1) _ (.inr ⟨1,rfl⟩))
    have e5:=f2 ((t.plus d1).plus d) (fun r hr=>by
     rw [e2,hr1 r hr]
     exact ((hs.plus d1).plus d) _ (.inr ⟨1,rfl⟩))
    unfold evOp
    simp only [ho,he x hx,ht]
    rw [e1]
    simp only [if_pos hl,e4,if_pos hbf]
    rw [e5]
    simp only [Option.map_some,plus_plus,List.append_assoc]
  ·rename_i hbf
   simp only [Option.some.injEq] at h
   refine ⟨d++d1,((s.plus d1).mkBox (.f (o.dst.getD 0) 1) m ls).1,?_,fun p hp=>?_,fun t he hs=>?_⟩
   ·rw [← plus_plus,← h,show ((s.plus d1).mkBox (.f (o.dst.getD 0) 1) m ls).2=(s.plus d1).plus d from congrArg Prod.snd e]
   ·rcases List.mem_append.1 hp with hp | hp
    ·exact .inr ⟨by simp [opNew,ho],1,w p hp⟩
    ·left;simp only [opWr,ho];exact root1_sub (w1 p hp)
   ·have e1:=f1 t fun r hr=>hs r (.inl (touch1 hx hr))
    have e2:=f (t.plus d1) ((hs.plus d1) _ (.inr ⟨1,rfl⟩))
    rw [← plus_plus]
    unfold evOp
    simp only [ho,he x hx,ht]
    rw [e1]
    simp only [if_pos hl,if_neg hbf,e2]
 ·rename_i ty parts ho
  split at h<;>try (cases h;done)
  rename_i ti ht
  split at h<;>try (cases h;done)
  rename_i m ls s1 hf
  simp only [Option.some.injEq] at h
  have hops:∀ p∈parts.toList,p.2∈o.op.operands.toList:=fun p hp=>by
   simp only [ho,Op.operands,List.mem_map]
   exact ⟨p,hp,rfl⟩
  have key:∃ pl,fillCells E pl fz ti.zero .own parts.toList s=some (m,ls,s1)∧∀ (t t1:St),fillCells E pl fz ti.zero .own parts.toList t=some (m,ls,t1)→evOp E K fz o t=some ((t1.new (.f (o.dst.getD 0) 1) m true ls).2.put o.dst (t1.new (.f (o.dst.getD 0) 1) m true ls).1):=by
   split at hf
   ·rename_i fs htd
    split at hf<;>try (cases hf;done)
    rename_i hall
    exact ⟨fieldPl E.P fs,hf,fun t t1 h1=>by simp only [evOp,ho,ht,htd,hall,if_true,h1]⟩
   ·rename_i n e htd
    split at hf<;>try (cases hf;done)
    rename_i ei hei
    exact ⟨fun i=>some (i*ei.size,ei.size),hf,fun t t1 h1=>by simp only [evOp,ho,ht,htd,hei,h1]⟩
   ·cases hf
  obtain ⟨pl,hf,hpl⟩:=key
  obtain ⟨d1,rfl,w1,f1⟩:=fill_fr (T:=fun r=>r∈opWr E s o) parts.toList _ _ s s1 m ls (fun p hp r hr=>by
   simp only [opWr,ho,List.mem_flatMap]
   exact ⟨p,hp,root1_sub hr⟩) hf
  obtain ⟨d,e,w,f⟩:=new_fr (.f (o.dst.getD 0) 1) m true ls (s.plus d1)
  refine ⟨d++d1,((s.plus d1).new (.f (o.dst.getD 0) 1) m true ls).1,?_,fun p hp=>?_,fun t he hs=>?_⟩
  ·rw [← plus_plus,← h,show ((s.plus d1).new (.f (o.dst.getD 0) 1) m true ls).2=(s.plus d1).plus d from congrArg Prod.snd e]
  ·rcases List.mem_append.1 hp with hp | hp
   ·exact .inr ⟨by simp [opNew,ho],1,w p hp⟩
   ·exact .inl (w1 p hp)
  ·have hw:∀ r,r∈opWr E s o→r∈opTouch E s o:=fun r hr=>by
    simp only [opWr,ho,List.mem_flatMap] at hr
    obtain ⟨p,hp,hr⟩:=hr
    exact touch_of (hops p hp) hr
   have e1:=f1 t (fun p hp=>fun u hu=>by have:=he p.2 (hops p hp);rw [hu] at this;exact this) fun r hr=>hs r (.inl (hw r hr))
   have e2:=f (t.plus d1) ((hs.plus d1) _ (.inr ⟨1,rfl⟩))
   rw [← plus_plus]
   rw [hpl t _ e1,e2]
 ·rename_i ty n parts ho
  split at h<;>try (cases h;done)
  rename_i ti ht
  split at h<;>try (cases h;done)
  rename_i e0 htd
  split at h<;>try (cases h;done)
  rename_i ei hei
  split at h<;>try (cases h;done)
  rename_i hn
  split at h<;>try (cases h;done)
  rename_i m ls s1 hf
  simp only [Option.some.injEq] at h
  have hops:∀ p∈parts.toList,p.2∈o.op.operands.toList:=fun p hp=>by
   simp only [ho,Op.operands,List.mem_map]
   exact ⟨p,hp,rfl⟩
  obtain ⟨d1,rfl,w1,f1⟩:=fill_fr (T:=fun r=>r∈opWr E s o) parts.toList _ _ s s1 m ls (fun p hp r hr=>by
   simp only [opWr,ho,List.mem_flatMap]
   exact ⟨p,hp,root1_sub hr⟩) hf
  have hw:∀ r,r∈opWr E s o→r∈opTouch E s o:=fun r hr=>by
   simp only [opWr,ho,List.mem_flatMap] at hr
   obtain ⟨p,hp,hr⟩:=hr
   exact touch_of (hops p hp) hr
  cases hm:m.isOwn with
  | true =>
   rw [hm] at h
   simp only [if_true] at h
   obtain ⟨d,e,w,f⟩:=new_fr (.f (o.dst.getD 0) 1) .own false [.sl (chunk ei.size n ls)] (s.plus d1)
   refine ⟨d++d1,((s.plus d1).new (.f (o.dst.getD 0) 1) .own false [.sl (chunk ei.size n ls)]).1,?_,fun p hp=>?_,fun t he hs=>?_⟩
   ·rw [← plus_plus,← h,show ((s.plus d1).new (.f (o.dst.getD 0) 1) .own false [.sl (chunk ei.size n ls)]).2=(s.plus d1).plus d from congrArg Prod.snd e]
   ·rcases List.mem_append.1 hp with hp | hp
    ·exact .inr ⟨by simp [opNew,ho],1,w p hp⟩
    ·exact .inl (w1 p hp)
   ·have e1:=f1 t (fun p hp=>fun u hu=>by have:=he p.2 (hops p hp);rw [hu] at this;exact this) fun r hr=>hs r (.inl (hw r hr))
    have e2:=f (t.plus d1) ((hs.plus d1) _ (.inr ⟨1,rfl⟩))
    rw [← plus_plus]
    simp only [evOp,ho,ht,htd,hei,if_pos hn,e1,hm,if_true,e2]
  | false =>
   rw [hm] at h
   simp only [Bool.false_eq_true,if_false] at h
   refine ⟨d1,_,h.symm,fun p hp=>.inl (w1 p hp),fun t he hs=>?_⟩
   have e1:=f1 t (fun p hp=>fun u hu=>by have:=he p.2 (hops p hp);rw [hu] at this;exact this) fun r hr=>hs r (.inl (hw r hr))
   simp only [evOp,ho,ht,htd,hei,if_pos hn,e1,hm,Bool.false_eq_true,if_false]
 ·rename_i ty x ho
  simp only [Option.map_eq_some_iff] at h
  obtain ⟨y,hy,rfl⟩:=h
  refine fr_pure rfl fun t he hs=>?_
  have hx:x∈o.op.operands.toList:=by simp [ho,Op.operands]
  have e2:evLoad E ty (opnd E s x) t=_:=evLoad_same fun r hr=>hs r (.inl (touch1 hx hr))
  simp only [evOp,ho,he x hx,e2,hy,Option.map_some]
 ·rename_i ty x y ho
  simp only [Option.map_eq_some_iff] at h
  obtain ⟨z,hz,rfl⟩:=h
  have hx:x∈o.op.operands.toList:=by simp [ho,Op.operands]
  have hy:y∈o.op.operands.toList:=by simp [ho,Op.operands]
  obtain ⟨d,rfl,w,f⟩:=store_fr hz
  refine ⟨d,.dead,rfl,fun p hp=>?_,fun t he hs=>?_⟩
  ·left
   simp only [opWr,ho]
   exact (List.mem_append.1 (w p hp)).elim (fun q=>List.mem_append.2 (.inl (root1_sub q))) fun q=>List.mem_append.2 (.inr (root1_sub q))
  ·have e2:=f t fun r hr=>hs r (.inl ((List.mem_append.1 hr).elim (touch1 hx) (touch1 hy)))
   unfold evOp
   simp only [ho,he x hx,he y hy]
   rw [e2]
   rfl
 ·rename_i x ho
  have hx:x∈o.op.operands.toList:=by simp [ho,Op.operands]
  split at h<;>try (cases h;done)
  ·rename_i r k0 k1 off hops hv
   simp only [Option.map_eq_some_iff] at h
   obtain ⟨z,hz,rfl⟩:=h
   refine fr_pure rfl fun t he hs=>?_
   have e2:=getAd_same (k0:=k0) (k1:=k1) (off:=off) (hops:=hops) (hs r (.inl (touch1 hx (by simp [hv,root1]))))
   simp only [evOp,ho,he x hx,hv,e2,hz,Option.map_some]
  ·rename_i m ls hv
   simp only [Option.some.injEq] at h
   subst h
   refine fr_pure rfl fun t he hs=>?_
   simp only [evOp,ho,he x hx,hv]
 ·rename_i op ty x y ty' ho
  simp only [Option.map_eq_some_iff] at h
  obtain ⟨z,hz,rfl⟩:=h
  refine fr_pure rfl fun t he hs=>?_
  simp only [evOp,ho,he x (by simp [ho,Op.operands]),he y (by simp [ho,Op.operands]),hz,Option.map_some]
 ·rename_i op ty x ho
  simp only [Option.map_eq_some_iff] at h
  obtain ⟨z,hz,rfl⟩:=h
  refine fr_pure rfl fun t he hs=>?_
  simp only [evOp,ho,he x (by simp [ho,Op.operands]),hz,Option.map_some]
 ·rename_i ty ty' x ho
  simp only [Option.map_eq_some_iff] at h
  obtain ⟨⟨y,s1⟩,hz,rfl⟩:=h
  have hx:x∈o.op.operands.toList:=by simp [ho,Op.operands]
  obtain ⟨d,rfl,w,f⟩:=conv_fr hz
  refine ⟨d,y,rfl,fun p hp=>.inr ⟨by simp [opNew,ho],1,w p hp⟩,fun t he hs=>?_⟩
  have e2:=f t fun r hr=>hs r (hr.elim (fun q=>.inl (touch1 hx q)) fun q=>.inr ⟨1,q⟩)
  simp only [evOp,ho,he x hx,e2,Option.map_some]
 ·rename_i g first cs ho
  split at h<;>try (cases h;done)
  rename_i hfirst
  simp only [Option.map_eq_some_iff] at h
  obtain ⟨⟨ls,s1⟩,hz,rfl⟩:=h
  obtain ⟨d,rfl,w,f⟩:=caps_fr _ _ _ _ hz
  have hops:∀ y∈cs.toList,y∈o.op.operands.toList:=fun y hy=>by
   simp only [ho,Op.operands,Array.toList_append,List.mem_append]
   exact .inr hy
  refine ⟨d,_,rfl,fun p hp=>?_,fun t he hs=>?_⟩
  ·left
   obtain ⟨x,hx,hr⟩:=w p hp
   obtain ⟨y,hy,rfl⟩:=args_mem hx
   simp only [opWr,ho,List.mem_flatMap]
   exact ⟨y,hy,root1_sub hr⟩
  ·have e1:cs.toList.map (opnd E t)=cs.toList.map (opnd E s):=List.map_congr_left fun y hy=>he y (hops y hy)
   have e2:=f t fun r ⟨x,hx,hr⟩=>by
    obtain ⟨y,hy,rfl⟩:=args_mem hx
    exact hs r (.inl (touch1 (hops y hy) hr))
   simp only [evOp,ho,if_pos hfirst,e1,e2,Option.map_some]
 ·rename_i ty l c ho
  simp only [Option.map_eq_some_iff] at h
  obtain ⟨⟨y,s1⟩,hz,rfl⟩:=h
  have hl:=fun t (he:∀ x∈o.op.operands.toList,opnd E t x=opnd E s x)=>he l (by simp [ho,Op.operands])
  have hc:=fun t (he:∀ x∈o.op.operands.toList,opnd E t x=opnd E s x)=>he c (by simp [ho,Op.operands])
  unfold evMakeSlice at hz
  split at hz<;>try (cases hz;done)
  rename_i ti n n' hti hn hn'
  split at hz<;>try (cases hz;done)
  rename_i e0 htd
  split at hz<;>try (cases hz;done)
  rename_i ei hei
  split at hz<;>try (cases hz;done)
  rename_i hcond
  simp only [Option.some.injEq] at hz
  obtain ⟨d,e,w,f⟩:=new_fr (.f (o.dst.getD 0) 1) .own false [.sl (List.replicate n.toNat ei.zero)] s
  rw [hz] at e f
  refine ⟨d,y,by rw [(Prod.mk.inj e).2],fun p hp=>.inr ⟨by simp [opNew,ho],1,w p hp⟩,fun t he hs=>?_⟩
  have e2:=f t (hs _ (.inr ⟨1,rfl⟩))
  simp only [evOp,ho,hl t he,hc t he,evMakeSlice,hti,hn,hn',htd,hei,if_pos hcond,e2,Option.map_some]
 ·rename_i ty x lo hi ho
  have hx:x∈o.op.operands.toList:=by simp [ho,Op.operands]
  have el:∀ t:St,(∀ x∈o.op.operands.toList,opnd E t x=opnd E s x)→lo.map (opnd E t)=lo.map (opnd E s):=fun t he=>by
   cases lo with
   | none=>rfl
   | some l=>simp only [Option.map_some,he l (by simp [ho,Op.operands])]
  have eh:∀ t:St,(∀ x∈o.op.operands.toList,opnd E t x=opnd E s x)→hi.map (opnd E t)=hi.map (opnd E s):=fun t he=>by
   cases hi with
   | none=>rfl
   | some l=>simp only [Option.map_some,he l (by simp [ho,Op.operands])]
  split at h
  ·rename_i hbf
   simp only [Option.map_eq_some_iff] at h
   obtain ⟨y,hz,rfl⟩:=h
   refine fr_pure rfl fun t he hs=>?_
   have e2:=evWin_same (t:=t) (fun r hr=>hs r (.inl (touch1 hx hr))) hz
   simp only [evOp,ho,he x hx,el t he,eh t he,e2,hbf,if_true,Option.map_some]
  ·rename_i hbf
   simp only [Option.map_eq_some_iff] at h
   obtain ⟨⟨y,s1⟩,hz,rfl⟩:=h
   obtain ⟨d,rfl,w,f⟩:=slice_fr hz
   refine ⟨d,y,rfl,fun p hp=>?_,fun t he hs=>?_⟩
   ·left;simp only [opWr,ho];exact root1_sub (w p hp)
   ·have e2:=f t fun r hr=>hs r (.inl (touch1 hx hr))
    simp only [evOp,ho,he x hx,el t he,eh t he,e2,if_neg hbf,Option.map_some]
 ·rename_i ty x i ho
  simp only [Option.map_eq_some_iff] at h
  obtain ⟨y,hy,rfl⟩:=h
  refine fr_pure rfl fun t he hs=>?_
  have hx:x∈o.op.operands.toList:=by simp [ho,Op.operands]
  have e2:evFieldAddr E ty (opnd E s x) i t=_:=evFieldAddr_same fun r hr=>hs r (.inl (touch1 hx hr))
  simp only [evOp,ho,he x hx,e2,hy,Option.map_some]
 ·rename_i ty x i ho
  simp only [Option.map_eq_some_iff] at h
  obtain ⟨y,hy,rfl⟩:=h
  refine fr_pure rfl fun t he hs=>?_
  have hx:x∈o.op.operands.toList:=by simp [ho,Op.operands]
  have e2:evField E ty (opnd E s x) i t=_:=evField_same fun r hr=>hs r (.inl (touch1 hx hr))
  simp only [evOp,ho,he x hx,e2,hy,Option.map_some]
 ·rename_i ty x i ho
  simp only [Option.map_eq_some_iff] at h
  obtain ⟨y,hy,rfl⟩:=h
  refine fr_pure rfl fun t he hs=>?_
  have hx:x∈o.op.operands.toList:=by simp [ho,Op.operands]
  have e2:evIndexAddr E ty (opnd E s x) (opnd E s i) t=_:=evIndexAddr_same fun r hr=>hs r (.inl (touch1 hx hr))
  simp only [evOp,ho,he x hx,he i (by simp [ho,Op.operands]),e2,hy,Option.map_some]
 ·rename_i ty x i ho
  simp only [Option.map_eq_some_iff] at h
  obtain ⟨y,hy,rfl⟩:=h
  refine fr_pure rfl fun t he hs=>?_
  simp only [evOp,ho,he x (by simp [ho,Op.operands]),he i (by simp [ho,Op.operands]),hy,Option.map_some]
 ·rename_i x k ho
  split at h<;>try (cases h;done)
  rename_i xs hxs
  simp only [Option.map_eq_some_iff] at h
  obtain ⟨y,hy,rfl⟩:=h
  refine fr_pure rfl fun t he hs=>?_
  simp only [evOp,ho,he x (by simp [ho,Op.operands]),hxs,hy,Option.map_some]
 ·rename_i c ho
  obtain ⟨callee,args,argTypes⟩:=c
  have hargs:∀ y∈args.toList,y∈o.op.operands.toList:=fun y hy=>by
   simp only [ho,Op.operands,Call.operands,Array.toList_append,List.mem_append]
   exact .inr hy
  have hmap:∀ t:St,(∀ x∈o.op.operands.toList,opnd E t x=opnd E s x)→args.toList.map (opnd E t)=args.toList.map (opnd E s):=fun t he=>List.map_congr_left fun y hy=>he y (hargs y hy)
  have hroots:∀ {x:AV} {r:Root},x∈args.toList.map (opnd E s)→r∈rootsAV x→r∈opTouch E s o:=fun {x r} hx hr=>by
   obtain ⟨y,hy,rfl⟩:=args_mem hx
   exact touch_of (hargs y hy) hr
  unfold evCallOp at h
  simp only at h
  split at h
  ·rename_i f
   have hf:f∈o.op.operands.toList:=by simp [ho,Op.operands,Call.operands]
   split at h<;>try (cases h;done)
   rename_i m g caps hfv
   obtain ⟨d,x,rfl,w,fr⟩:=callFn_fr hst h
   refine ⟨d,x,rfl,fun p hp=>?_,fun t he hs=>?_⟩
   ·rcases w p hp with q | q
    ·left
     simp only [opWr,ho,hfv]
     unfold callWr at q ⊢
     cases ha:E.alt2 g with
     | none =>
      rw [ha] at q
      dsimp only at q
      rw [rootsArgs_app _ (rootsArgs_imm m caps)] at q
      exact q
     | some ms =>
      rw [ha] at q
      exact asRoots_imm m _ _ q
    ·exact .inr ⟨by simp [opNew,ho],q⟩
   ·have e2:=fr t fun r hr=>hs r (hr.elim (fun q=>.inl (by
     have:=asRoots_imm m _ _ q
     simp only [asRoots,List.mem_flatMap] at this
     obtain ⟨x,hx,hr⟩:=this
     exact hroots hx hr)) .inr)
    simp only [evOp,ho,evCallOp,he f hf,hfv,hmap t he,e2]
  ·split at h<;>try (cases h;done)
   rename_i x ty tl hx hty
   simp only [Option.map_eq_some_iff] at h
   obtain ⟨y,hy,rfl⟩:=h
   refine fr_pure rfl fun t he hs=>?_
   have e2:evLen E ty x t=_:=evLen_same fun r hr=>hs r (.inl (hroots (by rw [hx];simp) (root1_sub hr)))
   simp only [evOp,ho,evCallOp,hmap t he,hx,hty,e2,hy,Option.map_some]
  ·split at h<;>try (cases h;done)
   rename_i x y hxy
   simp only [Option.map_eq_some_iff] at h
   obtain ⟨⟨z,s1⟩,hz,rfl⟩:=h
   obtain ⟨d,rfl,w,f⟩:=append_fr hz
   have hin:∀ r,r∈root1 x++root1 y→∃ v∈args.toList.map (opnd E s),r∈rootsAV v:=fun r hr=>by
    rw [hxy]
    exact (List.mem_append.1 hr).elim (fun q=>⟨x,by simp,root1_sub q⟩) fun q=>⟨y,by simp,root1_sub q⟩
   refine ⟨d,z,rfl,fun p hp=>?_,fun t he hs=>?_⟩
   ·rcases w p hp with q | q
    ·left
     obtain ⟨v,hv,hr⟩:=hin _ q
     obtain ⟨u,hu,rfl⟩:=args_mem hv
     simp only [opWr,ho,List.mem_flatMap]
     exact ⟨u,hu,hr⟩
    ·exact .inr ⟨by simp [opNew,ho],1,q⟩
   ·have e2:=f t fun r hr=>hs r (hr.elim (fun q=>by
     obtain ⟨v,hv,hr⟩:=hin _ q
     exact .inl (hroots hv hr)) fun q=>.inr ⟨1,q⟩)
    simp only [evOp,ho,evCallOp,hmap t he,hxy,e2,Option.map_some]
  ·split at h<;>try (cases h;done)
   rename_i x y hxy
   simp only [Option.map_eq_some_iff] at h
   obtain ⟨⟨z,s1⟩,hz,rfl⟩:=h
   obtain ⟨d,rfl,w,f⟩:=copy_fr hz
   refine ⟨d,z,rfl,fun p hp=>?_,fun t he hs=>?_⟩
   ·left
    have hv:x∈args.toList.map (opnd E s):=by rw [hxy];simp
    obtain ⟨u,hu,rfl⟩:=args_mem hv
    simp only [opWr,ho,List.mem_flatMap]
    exact ⟨u,hu,root1_sub (w p hp)⟩
   ·have e2:=f t fun r hr=>hs r (.inl (hroots (by rw [hxy];simp) (root1_sub hr)))
    simp only [evOp,ho,evCallOp,hmap t he,hxy,e2,Option.map_some]
  ·simp only [Option.map_eq_some_iff] at h
   obtain ⟨y,hy,rfl⟩:=h
   refine fr_pure rfl fun t he hs=>?_
   simp only [evOp,ho,evCallOp,hmap t he,hy,Option.map_some]
  ·simp only [Option.map_eq_some_iff] at h
   obtain ⟨y,hy,rfl⟩:=h
   refine fr_pure rfl fun t he hs=>?_
   simp only [evOp,ho,evCallOp,hmap t he,hy,Option.map_some]
  ·cases h
 ·cases h
theorem evG_fr (hst:E.strict=true) {ops:Array Oper} (h:evG E K ops fz o s=some s') :
  ∃ d x,s'=(s.plus d).put o.dst x∧(∀ p∈d,p.1∈opWr E s o∨(opNew o=true∧∃ j,p.1=.f (o.dst.getD 0) j)) ∧
  ∀ t:St,(∀ u∈o.looksAt ops,look t.V u=look s.V u)→SameOn (fun r=>r∈opTouch E s o∨∃ j,r=.f (o.dst.getD 0) j) s t→evG E K ops fz o t=some ((t.plus d).put o.dst x):=by
 have hop:∀ t:St,(∀ u∈o.looksAt ops,look t.V u=look s.V u)→∀ x∈o.op.operands.toList,opnd E t x=opnd E s x:=fun t ht x hx=>opnd_same fun u hu=>ht u (by
  subst hu
  exact List.mem_append_left _ (List.mem_filterMap.2 ⟨.tmp u,hx,rfl⟩))
 unfold evG at h
 split at h
 ·rename_i hg
  obtain ⟨d,x,e,w,f⟩:=evOp_fr hst h
  refine ⟨d,x,e,w,fun t ht hs=>?_⟩
  unfold evG
  simp only [hg]
  exact f t (hop t ht) hs
 ·rename_i j want hg
  split at h<;>try (cases h;done)
  rename_i u hu
  split at h<;>try (cases h;done)
  rotate_left
  ·rename_i hl
   simp only [Option.some.injEq] at h
   subst h
   refine ⟨[],.tup [],rfl,by simp,fun t ht hs=>?_⟩
   have:=ht u (by simp [Oper.looksAt,hg,hu])
   unfold evG
   simp only [hg,hu,this,hl]
   rfl
  rename_i m b hl
  have hgu:∀ t:St,(∀ u∈o.looksAt ops,look t.V u=look s.V u)→look t.V u=look s.V u:=fun t ht=>ht u (by simp [Oper.looksAt,hg,hu])
  split at h
  ·rename_i hw
   obtain ⟨d,x,e,w,f⟩:=evOp_fr hst h
   refine ⟨d,x,e,w,fun t ht hs=>?_⟩
   unfold evG
   simp only [hg,hu,hgu t ht,hl,if_pos hw]
   exact f t (hop t ht) hs
  ·rename_i hw
   simp only [Option.some.injEq] at h
   subst h
   refine ⟨[],.tup [],rfl,by simp,fun t ht hs=>?_⟩
   unfold evG
   simp only [hg,hu,hgu t ht,hl,if_neg hw]
   rfl
end
end Go.Ev


namespace Go.Ev
def Sim (s t:St):Prop:=(∀ u,look t.V u=look s.V u)∧(∀ r,lookH t.H r=lookH s.H r)∧t.ps=s.ps
theorem Sim.refl (s:St):Sim s s:=⟨fun _=>rfl,fun _=>rfl,rfl⟩
theorem Sim.symm {s t:St} (h:Sim s t):Sim t s:=⟨fun u=>(h.1 u).symm,fun r=>(h.2.1 r).symm,h.2.2.symm⟩
theorem Sim.trans {s t u:St} (h:Sim s t) (k:Sim t u):Sim s u:=⟨fun x=>(k.1 x).trans (h.1 x),fun r=>(k.2.1 r).trans (h.2.1 r),k.2.2.trans h.2.2⟩
theorem Sim.step {s t:St} (h:Sim s t) (d:List (Root × HC)) (dst:Option Nat) (x:AV):Sim ((s.plus d).put dst x) ((t.plus d).put dst x):=by
 cases dst with
 | none =>
  refine ⟨h.1,fun r=>?_,h.2.2⟩
  show lookH (d++t.H) r=lookH (d++s.H) r
  rw [lookH_append,lookH_append,h.2.1 r]
 | some y =>
  refine ⟨fun u=>?_,fun r=>?_,h.2.2⟩
  ·show look ((y,x)::t.V) u=look ((y,x)::s.V) u
   simp only [look]
   rw [h.1 u]
  ·show lookH (d++t.H) r=lookH (d++s.H) r
   rw [lookH_append,lookH_append,h.2.1 r]
theorem Sim.inv {C:Cf} {s t:St} {a:Act} {w:World} (h:Sim s t) (I:InvX C s a w):InvX C t a w:=by
 obtain ⟨R,loc,fp,I⟩:=I
 obtain ⟨h1,h2,h3⟩:=h
 refine ⟨R,loc,fp,{ I with
  rep:=fun r hh e=>I.rep r hh ((h2 r).symm.trans e)
  held:=fun r hh e=>I.held r hh ((h2 r).symm.trans e)
  nd:=fun r hh e=>I.nd r hh ((h2 r).symm.trans e)
  dj:=fun r hh r' hh' e e'=>I.dj r hh r' hh' ((h2 r).symm.trans e) ((h2 r').symm.trans e')
  fdj:=fun r hh e=>I.fdj r hh ((h2 r).symm.trans e)
  av:=fun u=>by rw [h1 u];exact (I.av u).lookH h2
  pl:=fun i b e=>by
   obtain ⟨p1,p2,hh,p3,p4⟩:=I.pl i b e
   exact ⟨p1,by rw [h3];exact p2,hh,(h2 _).trans p3,p4⟩ }⟩
abbrev Tr:=List Root × List Root × Nat
def trOf (E:Env) (s:St) (o:Oper):Tr:=(opTouch E s o,opWr E s o,o.dst.getD 0)
theorem wr_touch {E:Env} {s:St} {o:Oper} {r:Root} (h:r∈opWr E s o):r∈opTouch E s o:=by
 have hlo:opLooks o=true:=by
  obtain ⟨dst,op,type,pos,after,guard⟩:=o
  cases op<;>first | rfl | simp [opWr] at h
 have key:∀ (xs:List Operand),(∀ x∈xs,x∈o.op.operands.toList)→∀ r,r∈xs.flatMap (fun x=>rootsAV (opnd E s x))→r∈opTouch E s o:=fun xs hx r hr=>by
  simp only [List.mem_flatMap] at hr
  obtain ⟨x,hx',hr⟩:=hr
  exact touch_of (hx x hx') hr hlo
 unfold opWr at h
 split at h
 ·rename_i t a x ho
  refine key [a,x] (by simp [ho,Op.operands]) r (by simpa using h)
 ·rename_i t x ho
  exact key [x] (by simp [ho,Op.operands]) r (by simpa using h)
 ·rename_i t ps ho
  exact key (ps.toList.map (·.2)) (by simp [ho,Op.operands]) r (by simpa [List.flatMap_map] using h)
 ·rename_i t n ps ho
  exact key (ps.toList.map (·.2)) (by simp [ho,Op.operands]) r (by simpa [List.flatMap_map] using h)
 ·rename_i t x lo hi m ho
  exact key [x] (by simp [ho,Op.operands]) r (by simpa using h)
 ·rename_i f first cs ho
  exact key cs.toList (fun x hx=>by simp only [ho,Op.operands,Array.toList_append,List.mem_append];exact .inr hx) r h
 ·rename_i args ts ho
  exact key args.toList (fun x hx=>by simp only [ho,Op.operands,Call.operands,Array.toList_append,List.mem_append];exact .inr hx) r h
 ·rename_i args ts ho
  exact key args.toList (fun x hx=>by simp only [ho,Op.operands,Call.operands,Array.toList_append,List.mem_append];exact .inr hx) r h
 ·rename_i f args ts ho
  split at h
  ·rename_i m agg g caps hf
   have:r∈asRoots (args.toList.map (opnd E s)):=by
    unfold callWr at h
    split at h
    ·exact args_sub _ _ _ h
    ·exact h
   refine key args.toList (fun x hx=>by simp only [ho,Op.operands,Call.operands,Array.toList_append,List.mem_append];exact .inr hx) r ?_
   simpa [asRoots,List.flatMap_map] using this
  ·simp at h
 ·simp at h
theorem touch_same {E:Env} {s t:St} {o:Oper} (h:∀ x∈o.op.operands.toList,opnd E t x=opnd E s x):opTouch E t o=opTouch E s o:=by
 unfold opTouch
 split<;>try rfl
 generalize o.op.operands.toList=xs at h
 induction xs with
 | nil=>rfl
 | cons x xs ih =>
  simp only [List.flatMap_cons]
  rw [h x (by simp),ih fun y hy=>h y (by simp [hy])]
theorem flat_same {E:Env} {s t:St} {α:Type} (g:α→Operand):∀ (xs:List α),(∀ x∈xs,opnd E t (g x)=opnd E s (g x))→xs.flatMap (fun x=>rootsAV (opnd E t (g x)))=xs.flatMap (fun x=>rootsAV (opnd E s (g x)))
 | [],_=>rfl
 | x::xs,h=>by
  simp only [List.flatMap_cons]
  rw [h x (by simp),flat_same g xs fun y hy=>h y (by simp [hy])]
theorem wr_same {E:Env} {s t:St} {o:Oper} (h:∀ x∈o.op.operands.toList,opnd E t x=opnd E s x):opWr E t o=opWr E s o:=by
 unfold opWr
 split
 ·rename_i ty a x ho
  rw [h a (by simp [ho,Op.operands]),h x (by simp [ho,Op.operands])]
 ·rename_i ty x ho
  rw [h x (by simp [ho,Op.operands])]
 ·rename_i ty ps ho
  exact flat_same (Prod.snd:Nat × Operand→Operand) _ fun p hp=>h _ (by simp only [ho,Op.operands,List.mem_map];exact ⟨p,hp,rfl⟩)
 ·rename_i ty n ps ho
  exact flat_same (Prod.snd:Nat × Operand→Operand) _ fun p hp=>h _ (by simp only [ho,Op.operands,List.mem_map];exact ⟨p,hp,rfl⟩)
 ·rename_i ty x lo hi m ho
  rw [h x (by simp [ho,Op.operands])]
 ·rename_i f first cs ho
  exact flat_same id _ fun p hp=>h _ (by simp only [ho,Op.operands,Array.toList_append,List.mem_append];exact .inr hp)
 ·rename_i args ts ho
  exact flat_same id _ fun p hp=>h _ (by simp only [ho,Op.operands,Call.operands,Array.toList_append,List.mem_append];exact .inr hp)
 ·rename_i args ts ho
  exact flat_same id _ fun p hp=>h _ (by simp only [ho,Op.operands,Call.operands,Array.toList_append,List.mem_append];exact .inr hp)
 ·rename_i f args ts ho
  rw [h f (by simp [ho,Op.operands,Call.operands])]
  have:args.toList.map (opnd E t)=args.toList.map (opnd E s):=List.map_congr_left fun y hy=>h y (by simp only [ho,Op.operands,Call.operands,Array.toList_append,List.mem_append];exact .inr hy)
  rw [this]
 ·rfl
theorem opnd_looks {E:Env} {ops:Array Oper} {s t:St} {o:Oper} (ht:∀ u∈o.looksAt ops,look t.V u=look s.V u):∀ x∈o.op.operands.toList,opnd E t x=opnd E s x:=fun x hx=>opnd_same fun u hu=>ht u (by
 subst hu
 exact List.mem_append_left _ (List.mem_filterMap.2 ⟨.tmp u,hx,rfl⟩))
theorem tr_same {E:Env} {ops:Array Oper} {s t:St} {o:Oper} (ht:∀ u∈o.looksAt ops,look t.V u=look s.V u):trOf E t o=trOf E s o:=by
 unfold trOf
 rw [touch_same (opnd_looks ht),wr_same (opnd_looks ht)]
section
variable (E:Env) (K:Fns) (ops:Array Oper) (fz:List Nat)
def RunT (τ:Nat→Tr):List Nat→St→St→Prop
 | [],s,s'=>Sim s s'
 | i::is,s,s'=>∃ o s1,ops[i]?=some o∧trOf E s o=τ i∧evG E K ops fz o s=some s1∧RunT τ is s1 s'
end
section
variable {E:Env} {K:Fns} {ops:Array Oper} {fz:List Nat} {τ:Nat→Tr}
theorem g_sim (hst:E.strict=true) {o:Oper} {s s' t:St} (h:evG E K ops fz o s=some s') (hs:Sim s t):∃ t',evG E K ops fz o t=some t'∧Sim s' t':=by
 obtain ⟨d,x,e,w,f⟩:=evG_fr hst h
 exact ⟨_,f t (fun u _=>hs.1 u) (fun r _=>hs.2.1 r),e ▸ hs.step d o.dst x⟩
theorem RunT.sim (hst:E.strict=true):∀ (is:List Nat) (s s' t:St),RunT E K ops fz τ is s s'→Sim s t→RunT E K ops fz τ is t s'
 | [],s,s',t,h,hs=>hs.symm.trans h
 | i::is,s,s',t,h,hs=>by
  obtain ⟨o,s1,e1,e2,e3,e4⟩:=h
  obtain ⟨t1,f1,f2⟩:=g_sim hst e3 hs
  exact ⟨o,t1,e1,(tr_same (ops:=ops) fun u _=>hs.1 u).trans e2,f1,RunT.sim hst is s1 s' t1 e4 f2⟩
structure Indep (τ:Nat→Tr) (ops:Array Oper) (i j:Nat) (o p:Oper):Prop where
 t1:∀ d,o.dst=some d→d ∉ p.looksAt ops
 t2:∀ d,o.dst=some d→p.dst≠some d
 t3:∀ d,p.dst=some d→d ∉ o.looksAt ops
 r1:∀ r,(r∈(τ i).2.1∨(opNew o=true∧∃ k,r=.f (o.dst.getD 0) k))→¬ (r∈(τ j).1∨∃ k,r=.f (p.dst.getD 0) k)
 r2:∀ r,(r∈(τ j).2.1∨(opNew p=true∧∃ k,r=.f (p.dst.getD 0) k))→¬ (r∈(τ i).1∨∃ k,r=.f (o.dst.getD 0) k)
theorem lookH_none:∀ (d:List (Root × HC)) (r:Root),(∀ p∈d,p.1≠r)→lookH d r=none
 | [],r,_=>rfl
 | (u,h)::d,r,hp=>by
  simp only [lookH]
  rw [if_neg (hp (u,h) (by simp))]
  exact lookH_none d r fun p hq=>hp p (by simp [hq])
theorem plusH (s:St) (d:List (Root × HC)) (dst:Option Nat) (x:AV):((s.plus d).put dst x).H=d++s.H:=by cases dst<;>rfl
theorem plusV (s:St) (d:List (Root × HC)) (dst:Option Nat) (x:AV) {u:Nat} (h:dst≠some u):look ((s.plus d).put dst x).V u=look s.V u:=by
 cases dst with
 | none=>rfl
 | some y =>
  show look ((y,x)::s.V) u=_
  simp only [look]
  rw [if_neg fun e=>h (by rw [e])]
theorem plusPs (s:St) (d:List (Root × HC)) (dst:Option Nat) (x:AV):((s.plus d).put dst x).ps=s.ps:=by cases dst<;>rfl
theorem swap_ok (hst:E.strict=true) {i j:Nat} {o p:Oper} {s s1 s2:St} (hi:Indep τ ops i j o p) (e1:evG E K ops fz o s=some s1) (t1:trOf E s o=τ i) (e2:evG E K ops fz p s1=some s2) (t2:trOf E s1 p=τ j) :
  ∃ s1',evG E K ops fz p s=some s1'∧trOf E s p=τ j∧∃ s2',evG E K ops fz o s1'=some s2'∧trOf E s1' o=τ i∧Sim s2 s2':=by
 obtain ⟨d,x,rfl,w,f⟩:=evG_fr hst e1
 obtain ⟨d',x',rfl,w',f'⟩:=evG_fr hst e2
 have hw:∀ q∈d,q.1∈(τ i).2.1∨(opNew o=true∧∃ k,q.1=.f (o.dst.getD 0) k):=fun q hq=>by rw [← t1];exact w q hq
 have hw':∀ q∈d',q.1∈(τ j).2.1∨(opNew p=true∧∃ k,q.1=.f (p.dst.getD 0) k):=fun q hq=>by rw [← t2];exact w' q hq
 have l1:∀ u∈p.looksAt ops,look ((s.plus d).put o.dst x).V u=look s.V u:=fun u hu=>plusV s d o.dst x fun e=>hi.t1 u e hu
 have tp:trOf E s p=τ j:=(tr_same (ops:=ops) fun u hu=>(l1 u hu).symm).trans t2
 have g1:=f' s (fun u hu=>(l1 u hu).symm) fun r hr=>by
  rw [plusH,lookH_append,lookH_none d r]
  intro q hq e
  refine hi.r1 q.1 (hw q hq) ?_
  rw [e,← t2]
  exact hr
 have l2:∀ u∈o.looksAt ops,look ((s.plus d').put p.dst x').V u=look s.V u:=fun u hu=>plusV s d' p.dst x' fun e=>hi.t3 u e hu
 have g2:=f ((s.plus d').put p.dst x') l2 fun r hr=>by
  rw [plusH,lookH_append,lookH_none d' r]
  intro q hq e
  refine hi.r2 q.1 (hw' q hq) ?_
  rw [e,← t1]
  exact hr
 refine ⟨_,g1,tp,_,g2,(tr_same (ops:=ops) l2).trans t1,fun u=>?_,fun r=>?_,?_⟩
 ·by_cases ho:o.dst=some u
  ·have hp:p.dst≠some u:=hi.t2 u ho
   rw [plusV _ d' p.dst x' hp,ho]
   show look ((u,x)::_) u=look ((u,x)::_) u
   simp [look]
  ·rw [plusV _ d o.dst x ho]
   by_cases hp:p.dst=some u
   ·rw [hp]
    show look ((u,x')::_) u=look ((u,x')::_) u
    simp [look]
   ·rw [plusV _ d' p.dst x' hp,plusV _ d' p.dst x' hp,plusV _ d o.dst x ho]
 ·simp only [plusH,lookH_append]
  cases h1:lookH d r with
  | none=>rfl
  | some h0 =>
   have:∃ q∈d,q.1=r:=by
    apply Classical.byContradiction
    intro hn
    rw [lookH_none d r fun q hq e=>hn ⟨q,hq,e⟩] at h1
    cases h1
   obtain ⟨q,hq,rfl⟩:=this
   have:lookH d' q.1=none:=lookH_none d' _ fun q' hq' e=>by
    refine hi.r2 q'.1 (hw' q' hq') ?_
    rw [e]
    rcases hw q hq with z | z
    ·left;rw [← t1] at z ⊢;exact wr_touch z
    ·exact .inr z.2
   rw [this]
 ·simp only [plusPs]
theorem bubble (hst:E.strict=true) {i:Nat} {o:Oper} (ho:ops[i]?=some o) (post:List Nat):∀ (pre:List Nat) (s s':St),(∀ p∈pre,∀ op,ops[p]?=some op→Indep τ ops p i op o)→RunT E K ops fz τ (pre++i::post) s s' →
  ∃ s1,evG E K ops fz o s=some s1∧trOf E s o=τ i∧RunT E K ops fz τ (pre++post) s1 s'
 | [],s,s',_,h=>by
  obtain ⟨o',s1,e1,e2,e3,e4⟩:=h
  rw [ho] at e1
  cases e1
  exact ⟨s1,e3,e2,e4⟩
 | p::pre,s,s',hp,h=>by
  obtain ⟨op,sp,e1,e2,e3,e4⟩:=h
  obtain ⟨s1,f1,f2,f3⟩:=bubble hst ho post pre sp s' (fun q hq=>hp q (by simp [hq])) e4
  obtain ⟨s1',g1,g2,s2',g3,g4,g5⟩:=swap_ok hst (hp p (by simp) op e1) e3 e2 f1 f2
  exact ⟨s1',g1,g2,op,s2',e1,g4,g3,RunT.sim hst _ _ _ _ f3 g5⟩
theorem run_of:∀ (n k:Nat) (s s':St) (tr:List Tr),n+k=ops.size→evOpsT E K ops fz (ops.toList.drop k) s=some (tr,s')→(∀ i,i<n→τ (k+i)=tr.getD i ([],[],0))→tr.length=n∧((∀ i,i<n→τ (k+i)=tr.getD i ([],[],0))→RunT E K ops fz τ (List.range' k n) s s')
 | 0,k,s,s',tr,hk,h,hτ=>by
  rw [List.drop_eq_nil_of_le (by simp;omega)] at h
  simp only [evOpsT,Option.some.injEq,Prod.mk.injEq] at h
  obtain ⟨rfl,rfl⟩:=h
  exact ⟨rfl,fun _=>Sim.refl s⟩
 | n+1,k,s,s',tr,hk,h,hτ=>by
  have hlt:k<ops.toList.length:=by simp;omega
  rw [List.drop_eq_getElem_cons hlt] at h
  simp only [evOpsT] at h
  split at h<;>try (cases h;done)
  rename_i s1 hg
  split at h<;>try (cases h;done)
  rename_i tr1 s2 h1
  simp only [Option.some.injEq,Prod.mk.injEq] at h
  obtain ⟨rfl,rfl⟩:=h
  have hτ':∀ i,i<n→τ (k+1+i)=tr1.getD i ([],[],0):=fun i hi=>by
   have:=hτ (i+1) (by omega)
   rw [show k+(i+1)=k+1+i by omega] at this
   simpa using this
  obtain ⟨l1,r1⟩:=run_of n (k+1) s1 s2 tr1 (by omega) h1 hτ'
  refine ⟨by simp [l1],fun _=>?_⟩
  rw [List.range'_succ]
  refine ⟨ops.toList[k],s1,by rw [← Array.getElem?_toList];exact List.getElem?_eq_getElem hlt,?_,hg,r1 hτ'⟩
  have:=hτ 0 (by omega)
  simpa [trOf] using this.symm
end
end Go.Ev


namespace Go.Ev
def pureOp (o:Oper):Bool :=
 match o.op with
 | .alloc .. | .box .. | .build .. | .buildSlice .. | .makeSlice .. | .convert .. | .store .. | .slice .. | .makeFunc ..=>false
 | .call { callee:=.builtin .append,.. }=>false
 | .call { callee:=.builtin .copy,.. }=>false
 | .call { callee:=.value _,.. }=>false
 | _=>true
theorem pure_wr {E:Env} {s:St} {o:Oper} (h:pureOp o=true):opWr E s o=[]∧opNew o=false:=by
 obtain ⟨dst,op,type,pos,after,guard⟩:=o
 cases op with
 | call c =>
  obtain ⟨callee,args,ts⟩:=c
  cases callee with
  | value f=>simp [pureOp] at h
  | builtin b=>cases b<;>simp_all [pureOp,opWr,opNew]
  | invoke r m=>simp [opWr,opNew]
 | _=>simp_all [pureOp,opWr,opNew]
def okPair (ops:Array Oper) (anc:List Nat) (i j:Nat):Bool :=
 match ops[i]?,ops[j]? with
 | some o,some p=>(anc.getD j 0).testBit i || (o.apart ops p&&pureOp o&&pureOp p)
 | _,_=>true
def mustPair (ops:Array Oper) (i j:Nat):Bool :=
 match ops[i]?,ops[j]? with
 | some o,some p=>o.apart ops p&&(o.dst.getD 0 != p.dst.getD 0)
 | _,_=>true
def pairsOk (ops:Array Oper) (anc:List Nat):List (Nat × Nat)→List (Nat × Nat)→Bool
 | [],_=>true
 | q::qs,[]=>okPair ops anc q.1 q.2&&pairsOk ops anc qs []
 | q::qs,c::cs=>if q.1==c.1&&q.2==c.2 then mustPair ops q.1 q.2&&pairsOk ops anc qs cs else okPair ops anc q.1 q.2&&pairsOk ops anc qs (c::cs)
def ancOr (anc:List Nat):List Edge→Nat
 | []=>0
 | e::es=>if Region.binds .any e then ((1 <<< e.on) ||| anc.getD e.on 0) ||| ancOr anc es else ancOr anc es
def ancOk (ops:Array Oper) (anc:List Nat) (j:Nat):Bool :=
 match ops[j]? with
 | some o=>(o.after.toList.all fun e=>!Region.binds .any e || decide (e.on<j))&&anc.getD j 0==ancOr anc o.after.toList
 | none=>true
def drawChk (ops:Array Oper) (conf:List (Nat × Nat)) (anc:List Nat):Bool :=
 (List.range ops.size).all (ancOk ops anc)&&pairsOk ops anc ((List.range ops.size).flatMap fun j=>(List.range j).map fun i=>(i,j)) conf
theorem pairsOk_spec {ops:Array Oper} {anc:List Nat}:∀ (qs cs:List (Nat × Nat)),pairsOk ops anc qs cs=true→∀ q∈qs,okPair ops anc q.1 q.2=true∨(q∈cs∧mustPair ops q.1 q.2=true)
 | [],_,_,q,hq=>by simp at hq
 | p::qs,[],h,q,hq=>by
  simp only [pairsOk,Bool.and_eq_true] at h
  rcases List.mem_cons.1 hq with rfl | hq
  ·exact .inl h.1
  ·exact pairsOk_spec qs [] h.2 q hq
 | p::qs,c::cs,h,q,hq=>by
  simp only [pairsOk] at h
  split at h
  ·rename_i hc
   simp only [Bool.and_eq_true,beq_iff_eq] at h hc
   rcases List.mem_cons.1 hq with rfl | hq
   ·exact .inr ⟨by rw [show q=c from Prod.ext hc.1 hc.2];simp,h.1⟩
   ·exact (pairsOk_spec qs cs h.2 q hq).imp id fun k=>⟨by simp [k.1],k.2⟩
  ·simp only [Bool.and_eq_true] at h
   rcases List.mem_cons.1 hq with rfl | hq
   ·exact .inl h.1
   ·exact pairsOk_spec qs (c::cs) h.2 q hq
theorem ancOr_spec {anc:List Nat} {p:Nat}:∀ (es:List Edge),(ancOr anc es).testBit p=true→∃ e∈es,Region.binds .any e=true∧(e.on=p∨(anc.getD e.on 0).testBit p=true)
 | [],h=>by simp [ancOr] at h
 | e::es,h=>by
  simp only [ancOr] at h
  split at h
  ·rename_i hb
   rw [Nat.testBit_or,Nat.testBit_or,Nat.one_shiftLeft,Nat.testBit_two_pow] at h
   simp only [Bool.or_eq_true,decide_eq_true_eq] at h
   rcases h with (h | h) | h
   ·exact ⟨e,by simp,hb,.inl h⟩
   ·exact ⟨e,by simp,hb,.inr h⟩
   ·obtain ⟨e',h1,h2⟩:=ancOr_spec es h
    exact ⟨e',by simp [h1],h2⟩
  ·obtain ⟨e',h1,h2⟩:=ancOr_spec es h
   exact ⟨e',by simp [h1],h2⟩
section
variable {E:Env} {K:Fns} {ops:Array Oper} {fz:List Nat} {τ:Nat→Tr} {conf:List (Nat × Nat)} {anc:List Nat}
def Closed (ops:Array Oper) (listed:Array Bool):Prop :=
 listed.size=ops.size∧∀ j o,ops[j]?=some o→listed.getD j false=true→∀ e∈o.after,Region.binds .any e=true→listed.getD e.on false=true
theorem ancs_listed (hk:drawChk ops conf anc=true) {listed:Array Bool} (hc:Closed ops listed) :
  ∀ (j:Nat) (o:Oper),ops[j]?=some o→(∀ e∈o.after,Region.binds .any e=true→listed.getD e.on false=true)→∀ p,(anc.getD j 0).testBit p=true→listed.getD p false=true:=by
 intro j
 induction j using Nat.strongRecOn with
 | _ j ih =>
  intro o ho hl p hp
  have hlt:j<ops.size:=(Array.getElem?_eq_some_iff.1 ho).1
  simp only [drawChk,Bool.and_eq_true,List.all_eq_true,List.mem_range] at hk
  have hj:=hk.1 j hlt
  simp only [ancOk,ho,Bool.and_eq_true,beq_iff_eq,List.all_eq_true,Bool.or_eq_true,Bool.not_eq_true',decide_eq_true_eq] at hj
  rw [hj.2] at hp
  obtain ⟨e,he,hb,h⟩:=ancOr_spec _ hp
  have he':e∈o.after:=Array.mem_toList_iff.1 he
  have h1:=hl e he' hb
  rcases h with rfl | h
  ·exact h1
  ·have hlt':e.on<j:=(hj.1 e he).resolve_left (by simp [hb])
   have hsz:e.on<ops.size:=by omega
   have ho':ops[e.on]?=some ops[e.on]:=Array.getElem?_eq_getElem hsz
   exact ih e.on hlt' _ ho' (hc.2 _ _ ho' h1) p h
def remL (n:Nat) (listed:Array Bool):List Nat:=(List.range n).filter fun i=>!listed.getD i true
theorem mem_rem {n i:Nat} {listed:Array Bool}:i∈remL n listed↔i<n∧listed.getD i true=false:=by
 simp [remL]
theorem rem_set {n i:Nat} {listed:Array Bool} {pre post:List Nat} (hs:listed.size=n) (h:remL n listed=pre++i::post):remL n (listed.setIfInBounds i true)=pre++post:=by
 have hi:i∈remL n listed:=by rw [h];simp
 have hlt:=(mem_rem.1 hi).1
 have e:remL n (listed.setIfInBounds i true)=(remL n listed).filter fun j=>decide (j≠i):=by
  unfold remL
  rw [List.filter_filter]
  refine List.filter_congr fun j hj=>?_
  by_cases hij:i=j
  ·subst hij
   simp [Array.getElem?_setIfInBounds,hs,hlt]
  ·rw [getD_set_ne true hij]
   simp [Ne.symm hij]
 have nd:(remL n listed).Nodup:=List.Pairwise.filter _ List.nodup_range
 rw [h,List.nodup_append] at nd
 obtain ⟨n1,n2,n3⟩:=nd
 rw [e,h,List.filter_append,List.filter_cons_of_neg (by simp),List.filter_eq_self.2 fun a ha=>?_,List.filter_eq_self.2 fun a ha=>?_]
 ·have:=(List.nodup_cons.1 n2).1
  simp only [decide_eq_true_eq]
  rintro rfl
  exact this ha
 ·simp only [decide_eq_true_eq]
  exact n3 a ha i (by simp)
theorem rem_lt {n i:Nat} {listed:Array Bool} {pre post:List Nat} (h:remL n listed=pre++i::post):(∀ p∈pre,p<i)∧∀ p∈post,i<p:=by
 have:(remL n listed).Pairwise (·<·):=List.Pairwise.filter _ List.pairwise_lt_range
 rw [h,List.pairwise_append] at this
 exact ⟨fun p hp=>this.2.2 p hp i (by simp),fun p hp=>(List.pairwise_cons.1 this.2.1).1 p hp⟩
theorem run_tr:∀ (is:List Nat) (s s':St),RunT E K ops fz τ is s s'→∀ i∈is,∃ s o,ops[i]?=some o∧trOf E s o=τ i
 | [],_,_,_,i,hi=>by simp at hi
 | j::is,s,s',h,i,hi=>by
  obtain ⟨o,s1,e1,e2,e3,e4⟩:=h
  rcases List.mem_cons.1 hi with rfl | hi
  ·exact ⟨s,o,e1,e2⟩
  ·exact run_tr is s1 s' e4 i hi
theorem indep_of {i j:Nat} {o p:Oper} {s t:St} (ho:ops[i]?=some o) (hp:ops[j]?=some p) (ti:trOf E s o=τ i) (tj:trOf E t p=τ j)
  (h:(o.apart ops p=true∧pureOp o=true∧pureOp p=true)∨(apart2 (τ i) (τ j)=true∧mustPair ops i j=true)):Indep τ ops i j o p:=by
 rcases h with ⟨h1,h2,h3⟩ | ⟨h1,h2⟩
 ·obtain ⟨a1,a2,a3⟩:=Oper.apart_spec h1
  have p1:=pure_wr (E:=E) (s:=s) h2
  have p2:=pure_wr (E:=E) (s:=t) h3
  refine ⟨a1,a2,a3,fun r hr=>?_,fun r hr=>?_⟩
  ·rw [← ti,p1.2] at hr
   simp [trOf,p1.1] at hr
  ·rw [← tj,p2.2] at hr
   simp [trOf,p2.1] at hr
 ·simp only [mustPair,ho,hp,Bool.and_eq_true,bne_iff_ne,ne_eq] at h2
  obtain ⟨a1,a2,a3⟩:=Oper.apart_spec h2.1
  rw [← ti,← tj] at h1
  simp only [trOf,apart2,Bool.and_eq_true,List.all_eq_true,Bool.not_eq_true',List.contains_eq_mem,decide_eq_false_iff_not] at h1
  obtain ⟨⟨⟨b1,b2⟩,b3⟩,b4⟩:=h1
  have nf:∀ d k,notF d (.f d k)=false:=fun d k=>by simp [notF]
  refine ⟨a1,a2,a3,fun r hr=>?_,fun r hr=>?_⟩
  ·rw [← ti] at hr
   rw [← tj]
   simp only [trOf] at hr ⊢
   rintro (q | ⟨k,rfl⟩)
   ·rcases hr with hr | ⟨_,k,rfl⟩
    ·exact b1 r hr q
    ·have:=b4 _ q;rw [nf] at this;cases this
   ·rcases hr with hr | ⟨_,k',e⟩
    ·have:=b3 _ (wr_touch hr);rw [nf] at this;cases this
    ·exact h2.2 (by first | exact (Root.f.inj e).1 | exact (Root.f.inj e).1.symm)
  ·rw [← tj] at hr
   rw [← ti]
   simp only [trOf] at hr ⊢
   rintro (q | ⟨k,rfl⟩)
   ·rcases hr with hr | ⟨_,k,rfl⟩
    ·exact b2 r hr q
    ·have:=b3 _ q;rw [nf] at this;cases this
   ·rcases hr with hr | ⟨_,k',e⟩
    ·have:=b4 _ (wr_touch hr);rw [nf] at this;cases this
    ·exact h2.2 (by first | exact (Root.f.inj e).1 | exact (Root.f.inj e).1.symm)
theorem getD_same {listed:Array Bool} {i:Nat} (h:i<listed.size):listed.getD i true=listed.getD i false:=by
 simp [Array.getD_eq_getD_getElem?,h]
theorem any_ok {C:Cf} {s':St} {Q:Exit→Act→World→Prop} (hst:E.strict=true) (gk:GlobOk E C) (hc:Cons' E K) (he:EqOk E.P) (hd:∀ o∈ops.toList,∀ y,o.dst=some y→y<C.N)
  (hk:drawChk ops conf anc=true) (hap:∀ q∈conf,apart2 (τ q.1) (τ q.2)=true) (hn:∀ a w,InvX C s' a w→Q .normal a w) :
  ∀ (fuel:Nat) (listed:Array Bool) (s:St) (a:Act) (w:World),Closed ops listed→(remL ops.size listed).length=fuel→RunT E K ops fz τ (remL ops.size listed) s s'→InvX C s a w→wpAny E.P .any ops Q fuel listed a w:=by
 intro fuel
 induction fuel with
 | zero =>
  intro listed s a w hcl hl hr I
  rw [List.length_eq_zero_iff] at hl
  refine ⟨?_,?_⟩
  ·rw [List.eq_nil_iff_forall_not_mem]
   intro j hj
   obtain ⟨h1,o,h2,_⟩:=mem_ready.1 hj
   have:j∈remL ops.size listed:=mem_rem.2 ⟨(Array.getElem?_eq_some_iff.1 h2).1,h1⟩
   rw [hl] at this
   simp at this
  ·rw [hl] at hr
   exact hn a w (Sim.inv hr I)
 | succ fuel ih =>
  intro listed s a w hcl hl hr I
  have hk':=hk
  simp only [drawChk,Bool.and_eq_true,List.all_eq_true,List.mem_range] at hk'
  obtain ⟨ka,kp⟩:=hk'
  refine ⟨fun hnil=>?_,fun i hi=>?_⟩
  ·exfalso
   match hrem:remL ops.size listed with
   | []=>rw [hrem] at hl;simp at hl
   | i0::rest =>
    have hi0:i0∈remL ops.size listed:=by rw [hrem];simp
    obtain ⟨l1,l2⟩:=mem_rem.1 hi0
    have ho:ops[i0]?=some ops[i0]:=Array.getElem?_eq_getElem l1
    have hk0:=ka i0 l1
    simp only [ancOk,ho,Bool.and_eq_true,List.all_eq_true,Bool.or_eq_true,Bool.not_eq_true',decide_eq_true_eq] at hk0
    have:i0∈Region.ready .any ops listed:=mem_ready.2 ⟨l2,_,ho,fun e hE hb=>by
     have hlt:=(hk0.1 e (Array.mem_toList_iff.2 hE)).resolve_left (by simp [hb])
     rw [← getD_same (by rw [hcl.1];omega)]
     apply Classical.byContradiction
     intro hne
     have hm:e.on∈remL ops.size listed:=mem_rem.2 ⟨by omega,by simpa using hne⟩
     rw [hrem] at hm
     rcases List.mem_cons.1 hm with hm | hm
     ·omega
     ·have:=(rem_lt (pre:=[]) hrem).2 _ hm
      omega⟩
    rw [hnil] at this
    simp at this
  ·obtain ⟨h1,o,ho,hall⟩:=mem_ready.1 hi
   have hlt:i<ops.size:=(Array.getElem?_eq_some_iff.1 ho).1
   have hmem:i∈remL ops.size listed:=mem_rem.2 ⟨hlt,h1⟩
   obtain ⟨pre,post,hrem⟩:=List.append_of_mem hmem
   have hor:=rem_lt hrem
   have htr:=run_tr _ _ _ hr
   rw [hrem] at hr
   have hind:∀ p∈pre,∀ op,ops[p]?=some op→Indep τ ops p i op o:=fun p hp op hop=>by
    have hpm:p∈remL ops.size listed:=by rw [hrem];simp [hp]
    obtain ⟨sp,op',e1,e2⟩:=htr p hpm
    rw [hop] at e1
    cases e1
    obtain ⟨si,o',f1,f2⟩:=htr i hmem
    rw [ho] at f1
    cases f1
    have hq:(p,i)∈(List.range ops.size).flatMap fun j=>(List.range j).map fun i=>(i,j):=by
     simp only [List.mem_flatMap,List.mem_range,List.mem_map,Prod.mk.injEq]
     exact ⟨i,hlt,p,hor.1 p hp,rfl,rfl⟩
    refine indep_of hop ho e2 f2 ?_
    rcases pairsOk_spec _ _ kp (p,i) hq with h | ⟨h,h'⟩
    ·simp only [okPair,hop,ho,Bool.or_eq_true,Bool.and_eq_true] at h
     rcases h with h | h
     ·exfalso
      have:=ancs_listed hk hcl i o ho hall p h
      have hp2:=(mem_rem.1 hpm)
      rw [getD_same (by rw [hcl.1];exact hp2.1)] at hp2
      rw [this] at hp2
      exact absurd hp2.2 (by simp)
     ·exact .inl ⟨h.1.1,h.1.2,h.2⟩
    ·exact .inr ⟨hap _ h,h'⟩
   obtain ⟨s1,g1,g2,g3⟩:=bubble hst ho post pre s s' hind hr
   have hset:=rem_set hcl.1 hrem
   refine g_ok gk hc he I ho (hd o (Array.mem_toList_iff.2 (Array.mem_of_getElem? ho))) g1 fun a w J=>ih _ s1 a w ⟨?_,?_⟩ ?_ ?_ J
   ·simp [hcl.1]
   ·intro j oj hj hlj e hE hb
    by_cases hij:i=j
    ·subst hij
     rw [ho] at hj
     cases hj
     exact getD_set_true (hall e hE hb)
    ·rw [getD_set_ne false hij] at hlj
     exact getD_set_true (hcl.2 j oj hj hlj e hE hb)
   ·rw [hset]
    rw [hrem] at hl
    simp at hl ⊢
    omega
   ·rw [hset]
    exact g3
theorem apart_all {tr:List Tr}:∀ (conf:List (Nat × Nat)),apartOk tr conf=true→∀ q∈conf,apart2 (tr.getD q.1 ([],[],0)) (tr.getD q.2 ([],[],0))=true
 | [],_,q,hq=>by simp at hq
 | (i,j)::rest,h,q,hq=>by
  simp only [apartOk,Bool.and_eq_true] at h
  rcases List.mem_cons.1 hq with rfl | hq
  ·have h1:=h.1
   split at h1
   ·rename_i x y hx hy
    rw [List.getD_eq_getElem?_getD,List.getD_eq_getElem?_getD,hx,hy]
    exact h1
   ·cases h1
  ·exact apart_all rest h.2 q hq
end
theorem draw_ok {E:Env} {K:Fns} {fz:List Nat} {conf:List (Nat × Nat)} {anc:List Nat} {id:Nat} {ops:Array Oper} (hc:Cons' E K) (he:EqOk E.P) (hm:E.P.follows .mixedOrders=true) (hk:drawChk ops conf anc=true):DrawOk E K fz conf id ops:=by
 intro C s s' a w Q gk0 hd I h hn
 have gk:GlobOk E.st C:={ gk0 with }
 unfold evDraw at h
 split at h<;>try (cases h;done)
 rename_i tr s2 ht
 split at h<;>try (cases h;done)
 rename_i hap
 simp only [Option.some.injEq] at h
 subst h
 have hrun:=run_of (E:=E.st) (K:=K) (ops:=ops) (fz:=fz) (τ:=fun i=>tr.getD i ([],[],0)) ops.size 0 s s2 tr (by omega) (by simpa using ht) (fun i hi=>by simp)
 have hr:=hrun.2 fun i hi=>by simp
 refine wp_region_any hm ?_
 have hrem:remL ops.size (Array.replicate ops.size false)=List.range' 0 ops.size:=by
  rw [← List.range_eq_range']
  exact List.filter_eq_self.2 fun i hi=>by simp [List.mem_range.1 hi]
 refine any_ok (E:=E.st) (K:=K) (fz:=fz) (τ:=fun i=>tr.getD i ([],[],0)) rfl gk hc he hd hk (apart_all conf hap) hn ops.size _ s a _ ⟨by simp,fun j o ho hl=>?_⟩ (by rw [hrem];simp) (by rw [hrem];exact hr) I.drawn
 exfalso
 have:=(Array.getElem?_eq_some_iff.1 ho).1
 simp [this] at hl
end Go.Ev


namespace Go.Ev
def okBody (P:Program) (conf:Nat→List (Nat × Nat)) (anc:Nat→List Nat) (f:FuncId):Bool :=
 match P.funcs[f]? with
 | some fn =>
  match fn.body with
  | some c => !(fn.name == "runtime.NumGoroutine") && codeOk fn.ntmps (fun id ops => drawChk ops (conf id) (anc id)) c
  | none=>true
 | none=>true
theorem envOk_of {E:Env} {anc:FuncId→Nat→List Nat} (hm:E.P.follows .mixedOrders=true) (hb:∀ f,E.ext f=none→okBody E.P (E.conf f) (anc f) f=true)
  (hx:∀ f k args out,E.ext f=some k→k args=some out→Con E f args out):EnvOk E fun f id ops=>drawChk ops (E.conf f id) (anc f id) where
 eq:=eq_ok E
 draw:=fun K hc f id ops hk=>draw_ok hc (eq_ok E) hm hk
 body:=fun f fn c h1 h2 h3=>by
  have:=hb f h1
  simp only [okBody,h2,h3,Bool.and_eq_true,Bool.not_eq_true'] at this
  exact this
 ext:=hx
end Go.Ev


namespace Go.Ev
def cloneCode (T Tb:TypeId) (p0 p1 p2 p3 p4:String) (g1 g2 g3:Array Edge):Code :=
 (Code.region 0 #[{ dst:=some 2,op:=.assign (.const (.slice none 0 0)),type:=T,pos:=p0,after:=#[],guard:=none }] false).seq
  (((Code.region 1 #[{ dst:=some 3,op:=.move (.tmp 0),type:=T,pos:=p1,after:=#[],guard:=none },
    { dst:=some 4,op:=.binOp .eql T (.tmp 3) (.const (.slice none 0 0)) T,type:=Tb,pos:=p2,after:=g1,guard:=none }] false).seq
   (.cond (.tmp 4) ((Code.region 2 #[{ dst:=some 2,op:=.assign (.const (.slice none 0 0)),type:=T,pos:=p3,after:=#[],guard:=none }] false).seq .ret) .skip)).seq
  ((Code.region 3 #[{ dst:=some 5,op:=.buildSlice T 0 #[],type:=T,pos:=p4,after:=#[],guard:=none },
    { dst:=some 6,op:=.move (.tmp 0),type:=T,pos:=p4,after:=#[],guard:=none },
    { dst:=some 7,op:=.call { callee:=.builtin .append,args:=#[.tmp 5,.tmp 6],argTypes:=#[T,T] },type:=T,pos:=p4,after:=g2,guard:=none },
    { dst:=some 2,op:=.assign (.tmp 7),type:=T,pos:=p4,after:=g3,guard:=none }] false).seq .ret))
def cloneK (sz by':Nat):List Arg→Option Out
 | [.v m false [.sl xs]]=>if (xs.all fun r=>r.all L.flat)=true∧(xs.all fun r=>decide (r.length=sz))=true∧xs.length*by'≤17592186044416∧xs.length≤17592186044416 then some { rs:=[.v .own false [.sl xs]],outs:=[] } else none
 | _=>none
theorem sl_of {w:World} {R B:Nat→Prop} {H:List (Root × HC)} {loc:Root→Loc} {v:Value} {m:M} {xs:List (List L)} (h:AVRep w R B H loc v (.v m false [.sl xs])):∃ a n c,v=.slice a n c∧(a=none→xs=[]):=by
 obtain ⟨S,h1,h2,h3,h4⟩:=h
 have hc:v.cells.toList=[v]:=by cases v<;>first | rfl | simp [isAgg] at h2
 rw [hc] at h1
 cases h1 with
 | cons _ _ _ _ _ _ _ g1 g2 =>
  cases g1 with
  | sle _ a cap _=>exact ⟨a,0,cap,rfl,fun _=>rfl⟩
  | sl=>exact ⟨_,_,_,rfl,fun e=>by cases e⟩
theorem clone_con {E : Env} {f : FuncId} {fn : Func} {T Tb e : TypeId} {ti ei : TI} {p0 p1 p2 p3 p4 : String} {g1 g2 g3 : Array Edge} (hf : E.P.funcs[f]? = some fn) (hb : fn.body = some (cloneCode T Tb p0 p1 p2 p3 p4 g1 g2 g3)) (hname : (fn.name == "runtime.NumGoroutine") = false)
  (hres:fn.results.toList=[.tmp 2]) (hp:fn.params.size+fn.nfree=1) (hnt:fn.ntmps=8) (hl0:E.live f 0=[0]) (hl1:E.live f 1=[0,4]) (hl2:E.live f 2=[2]) (hl3:E.live f 3=[2]) (hfz:E.fz f=[])
  (ht:tiOf E.P T=some ti) (htd:ti.td=.slice e) (hei:tiOf E.P e=some ei) (hz:ei.size≠0) (args:List Arg) (out:Out) (h:cloneK ei.size ei.bytes args=some out):Con E f args out:=by
 unfold cloneK at h
 split at h<;>try (cases h;done)
 rename_i m xs
 split at h<;>cases h
 rename_i hc
 obtain ⟨q1,q2,q3,q4⟩:=hc
 have hgC:Cons' E fun _ _=>none:=fun _ _ _ h=>by cases h
 have he:=eq_ok E
 refine body_con2 hf hb hname (by rw [hp];rfl) (by rw [hnt];exact Nat.le_of_ble_eq_true rfl) (fun e s=>e=.ret∧(match evResults E (E.fz f) fn.results.toList s with | some (rs,s')=>(outsOf s' [.v m false [.sl xs]] 0).map fun outs=>({ rs,outs }:Out) | none=>none)=some { rs:=[.v .own false [.sl xs]],outs:=[] }) (fun e s h=>⟨.inr h.1,h.2⟩) ?_
 intro C a w vs Q gk hN hT hlen I hq
 have hN8:C.N=8:=hN.trans hnt
 unfold cloneCode
 refine wp_seq (region_ok (K:=fun _ _=>none) (fz:=[]) gk hgC he (fun o ho y hy=>?_) I (s':={ V:=[(2,.nil),(0,.v m false [.sl xs])],H:=[],ps:=[] }) rfl fun a1 w1 I1=>?_)
 ·simp only [List.mem_cons,List.not_mem_nil,or_false] at ho
  subst ho
  cases hy
  rw [hN8];decide
 have I1:=canon_ok [0] I1
 refine wp_seq (wp_seq (wp_region ?_))
 show wpOps E.P _ _ [0,1] a1 w1
 rw [wpOps_cons]
 refine g_ok (K:=fun _ _=>none) (fz:=[]) gk hgC he I1 rfl (fun y hy=>by cases hy;rw [hN8];decide) (s':={ V:=[(3,.v m false [.sl xs]),(0,.v m false [.sl xs])],H:=[],ps:=[] }) rfl fun a2 w2 I2=>?_
 rw [wpOps_cons]
 obtain ⟨R,loc,fp,I2⟩:=I2
 obtain ⟨ad,n,c,hv,hnil⟩:=sl_of (I2.av 3)
 have hrun:(execOp a2.eval { dst:=some 4,op:=.binOp .eql T (.tmp 3) (.const (.slice none 0 0)) T,type:=Tb,pos:=p2,after:=g1,guard:=none }).run E.P w2=.ok (.value (.bool ad.isNone)) w2:=by
  obtain ⟨i,d,zz,hi,hdd,hzz,hzs,hz1,hn,h0,e1,e2,e3,e4,e5⟩:=tiOf_spec ht
  have hds:d=.slice e:=by rw [e5] at htd;cases d<;>simp [tdOf] at htd;rw [htd]
  subst hds
  have hv3:a2.eval (.tmp 3)=.slice ad n c:=hv
  have ee:(do eqGuard .eql T (.tmp 3) (.const (.slice none 0 0)) (.slice ad n c) (.slice none 0 0);binOp .eql T (.slice ad n c) (.slice none 0 0):Sem Value).run E.P w2=.ok (.bool ad.isNone) w2:=by
   have e1:(eqGuard .eql T (.tmp 3) (.const (.slice none 0 0)) (.slice ad n c) (.slice none 0 0)).run E.P w2=.ok () w2:=rfl
   have e2:binOp .eql T (.slice ad n c) (.slice none 0 0)=(do pure (.bool (← Op.equal T (.slice ad n c) (.slice none 0 0)))):=rfl
   simp only [Sem.run_bind,e1,e2,Result.andThen_ok,run_equal_slice_nil w2 T e ad n c hdd];rfl
  have hk:a2.eval (.const (.slice none 0 0))=.slice none 0 0:=rfl
  simp only [execOp,hv3,hk]
  rw [Sem.run_bind,ee];rfl
 unfold wpOp
 show (if Region.wanted _ _=true then _ else _)
 rw [if_pos (by simp [Region.wanted])]
 refine .inl (opVal hrun ?_)
 have I3:InvX C { V:=[(4,.v .ro false [.bool ad.isNone]),(3,.v m false [.sl xs]),(0,.v m false [.sl xs])],H:=[],ps:=[] } (a2.put (some 4) (.bool ad.isNone)) w2:=InvX.put I2 (d:=some 4) (fun y hy=>by cases hy;rw [hN8];decide) (mkFlat (.bool _ _) rfl)
 have I4:=canon_ok [0,4] I3
 have hcv:(a2.put (some 4) (.bool ad.isNone)).eval (.tmp 4)=.bool ad.isNone:=by
  obtain ⟨R,loc,fp,I4⟩:=I4
  have:=I4.av 4
  obtain ⟨S,g1,_⟩:=scal this
  show (a2.put (some 4) (.bool ad.isNone)).tmps.getD 4 undef=_
  generalize (a2.put (some 4) (.bool ad.isNone)).tmps.getD 4 undef=v at g1
  cases g1
  rfl
 have I4:InvX C { V:=[(0,.v m false [.sl xs]),(4,.v .ro false [.bool ad.isNone])],H:=[],ps:=[] } (a2.put (some 4) (.bool ad.isNone)) w2:=I4
 show Code.wp E.P _ _ (a2.put (some 4) (.bool ad.isNone)) w2
 generalize a2.put (some 4) (.bool ad.isNone)=a3 at I4 hcv
 refine wp_cond hcv ?_
 cases had:ad.isNone with
 | true =>
  have hx:xs=[]:=hnil (by simpa using had)
  subst hx
  rw [had] at I4
  refine wp_seq (region_ok (K:=fun _ _=>none) (fz:=[]) (s:={ V:=[(0,.v m false [.sl []]),(4,.v .ro false [.bool true])],H:=[],ps:=[] }) (s':={ V:=[(2,.nil),(0,.v m false [.sl []]),(4,.v .ro false [.bool true])],H:=[],ps:=[] }) gk hgC he (fun o ho y hy=>?_) I4 rfl fun a5 w5 I5=>?_)
  ·simp only [List.mem_cons,List.not_mem_nil,or_false] at ho
   subst ho
   cases hy
   rw [hN8];decide
  refine wp_ret ?_
  refine hq .ret _ a5 w5 ⟨rfl,?_⟩ (canon_ok [2] I5)
  simp [hres,hfz,evResults,evResult,canon,St.norm,renOf,AV.ren,keepH,St.embed,outsOf,look]
 | false =>
  rw [had] at I4
  have q5:0<ei.size:=by omega
  refine wp_skip ?_
  refine wp_seq (region_ok (K:=fun _ _=>none) (fz:=[]) (s:={ V:=[(0,.v m false [.sl xs]),(4,.v .ro false [.bool false])],H:=[],ps:=[] }) (s':={ V:=[(2,.at (.f 7 1) 0 0 0 [] 1 false),(7,.at (.f 7 1) 0 0 0 [] 1 false),(6,.v m false [.sl xs]),(5,.at (.f 5 1) 0 0 0 [] 1 false),(0,.v m false [.sl xs]),(4,.v .ro false [.bool false])],H:=[(.f 7 1,{ box:=false,wr:=true,m:=.own,ls:=[.sl xs],e0:=0,e1:=0 }),(.f 5 1,{ box:=false,wr:=true,m:=.own,ls:=[.dead],e0:=1,e1:=0,lz:=some (0,1) }),(.f 5 1,{ box:=false,wr:=true,m:=.own,ls:=[.sl []],e0:=0,e1:=0 })],ps:=[] }) gk hgC he (fun o ho y hy=>?_) I4 ?_ fun a5 w5 I5=>?_)
  ·simp only [List.mem_cons,List.not_mem_nil,or_false] at ho
   rcases ho with rfl | rfl | rfl | rfl<;>cases hy<;>rw [hN8]<;>decide
  ·simp only [List.all_eq_true] at q1 q2
   have hsl:∀ ys,(L.sl ys).flat=false:=fun _=>rfl
   have q1':∀ x∈xs,∀ y∈x,y.flat=true:=q1
   have q2':∀ x∈xs,x.length=ei.size:=fun x hx=>by simpa using q2 x hx
   simp [evOps,evG,evOp,ht,htd,hei,q5,q3,q4,q2',fillCells,St.new,hsl,lookH,St.putH,St.put,opnd,look,evCallOp,evAppend,St.embed,St.getAt,place,HC.okAt,HC.keeps,HC.set,HC.bump,setPlace,setRange,deadened,srcRows,St.peek,flatRows,rowsOk,isRowTy,chunk,M.isOwn,M.join,modeOf]
   simp only [if_pos q1']
   simp [hsl,q3,q4,q5,lookH,M.isOwn,M.join]
   simp only [if_pos q2']
   simp [look]
  refine wp_ret ?_
  refine hq .ret _ a5 w5 ⟨rfl,?_⟩ (canon_ok [2] I5)
  simp [hres,hfz,evResults,evResult,canon,St.norm,renOf,addRen,ren1,inPs,AV.ren,keepH,St.embed,outsOf,look,lookH,HC.okAt,HC.keeps,HC.reset,St.getAt,place,M.isOwn,HC.set,HC.bump]
end Go.Ev


namespace Go.Ev
theorem law_calls {E:Env} {f:FuncId} {args:List Arg} {m:M} {vs:List Value} {W:World} (hc:Con E f args { rs:=[.v m false [.bool true]],outs:=[] }) (hg:∀ g,E.glob g=none)
  (hen:(callFunc f ⟨vs⟩).run E.P W=.ok (.enter f ⟨vs⟩) W) (ha:ArgsRep W (fun b=>b<W.heap.size) (fun _=>False) args vs (vs.map fun _=>[])) :
  Calls E.P f ⟨vs⟩ W fun e w'=>e=.returned (.bool true)∧RowKit.Below W.heap.size W w':=by
 have hfl:(vs.map fun _=>([]:List Nat)).flatten=[]:=by
  induction vs with
  | nil=>rfl
  | cons v vs ih=>simp
 have:=hc W (fun b=>b<W.heap.size) (fun _=>False) vs _ ha (fun g ls h=>by rw [hg] at h;cases h) (fun b hb=>hb.elim id False.elim) (by rw [hfl];simp) (by rw [hfl];simp)
 rcases this with ⟨_,h⟩ | ⟨v,w',h,_⟩
 ·refine h.mono fun e w' q=>?_
  cases e with
  | returned v =>
   obtain ⟨A⟩:=q
   have hv:=A.hv
   have hr:=A.rs
   generalize hvs:A.vs=vs1 at hv hr
   generalize A.fps=fps1 at hr
   cases hr with
   | cons h1 h2 =>
    cases h2
    obtain ⟨hag,S,hrep,h5,h6⟩:=h1
    rename_i u fp
    have hrep:=hrep.weak
    have hu:u=.bool true:=by
     cases u with
     | agg fs=>simp [isAgg] at hag
     | bool b =>
      simp only [Value.cells] at hrep
      cases hrep with
      | cons _ _ _ _ _ _ _ g1 g2=>cases g1;rfl
     | _ =>
      simp only [Value.cells] at hrep
      cases hrep with
      | cons _ _ _ _ _ _ _ g1 g2=>cases g1
    subst hu
    refine ⟨by rw [hv];rfl,A.kp.os,A.kp.tape,A.kp.output,A.kp.size,fun k hk=>A.kp.block k hk ?_⟩
    rw [hfl]
    simp
  | _=>exact q.elim
 ·rw [hen] at h
  cases h
theorem enters {P : Program} {f : FuncId} {fn : Func} {vs : Array Value} {W : World} (hf : P.funcs[f]? = some fn) (hb : fn.body.isSome = true) (hn : (fn.name == "runtime.NumGoroutine") = false) : (callFunc f vs).run P W = .ok (.enter f vs) W := by
 obtain ⟨c,hc⟩:=Option.isSome_iff_exists.1 hb
 have hne : ¬ fn.name = "runtime.NumGoroutine" := by simpa using hn
 simp [callFunc,hf,hne,hc]
end Go.Ev


namespace Go.Ev
open Go.RowKit
def L.leaf:L→Bool
 | .int ..=>true
 | .bool _=>true
 | .str _=>true
 | _=>false
def leafV:L→Value
 | .int k n=>.int k n
 | .bool b=>.bool b
 | .str s=>.string ⟨s.toArray⟩
 | _=>undef
theorem leafV_of {w:World} {o:Bool} {v:Value} {l:L} {S:List Nat} (h:RepL w o v l S) (hl:l.leaf=true):v=leafV l:=by
 cases h<;>first | rfl | simp [L.leaf] at hl
theorem leafV_rep (w:World) (o:Bool) {l:L} (hl:l.leaf=true):RepL w o (leafV l) l []:=by
 cases l with
 | int k n=>exact .int o k n
 | bool b=>exact .bool o b
 | str s=>exact .str o ⟨s.toArray⟩
 | _=>simp [L.leaf] at hl
theorem leafV_cells {l:L} (hl:l.leaf=true):(leafV l).cells.toList=[leafV l]∧isAgg (leafV l)=false:=by
 cases l<;>first | exact ⟨rfl,rfl⟩ | simp [L.leaf] at hl
def argLeaf:Arg→Option L
 | .v _ false [l]=>if l.leaf then some l else none
 | _=>none
theorem argsLeaf {w:World} {R B:Nat→Prop}:∀ (xs:List Arg) (ls:List L) (vs:List Value) (fps:List (List Nat)),ArgsRep w R B xs vs fps→xs.map argLeaf=ls.map some→vs=ls.map leafV∧boxesOf xs vs=[]
 | _,ls,_,_,.nil,h=>by
  cases ls with
  | nil=>exact ⟨rfl,rfl⟩
  | cons l ls=>simp at h
 | _,ls,_,_,.cons (x:=x) (v:=v) h1 h2,h=>by
  cases ls with
  | nil=>simp at h
  | cons l ls =>
   simp only [List.map_cons,List.cons.injEq] at h
   obtain ⟨e,h⟩:=h
   obtain ⟨g1,g2⟩:=argsLeaf _ ls _ _ h2 h
   unfold argLeaf at e
   split at e<;>try (cases e;done)
   split at e<;>cases e
   rename_i hl
   obtain ⟨_,S,hr,ha,_⟩:=h1
   have hc:v.cells.toList=[v]:=by cases v<;>first | rfl | simp [isAgg] at ha
   rw [hc] at hr
   cases hr with
   | cons _ _ _ _ _ _ _ r1 r2 =>
    refine ⟨by rw [List.map_cons,leafV_of r1 hl,g1],?_⟩
    simp only [boxesOf]
    exact g2
def leafOut (rs:List L):Out:={ rs:=rs.map fun l=>.v .own false [l],outs:=[] }
theorem leafOut_rep (w:World) (R B:Nat→Prop):∀ (rs:List L),rs.all L.leaf=true→RVsRep w R B (leafOut rs).rs (rs.map leafV) (rs.map fun _=>[])
 | [],_=>.nil
 | l::rs,h=>by
  simp only [List.all_cons,Bool.and_eq_true] at h
  refine .cons ⟨(leafV_cells h.1).2,[],?_,.inl rfl,rfl⟩ (leafOut_rep w R B rs h.2)
  rw [(leafV_cells h.1).1]
  exact RepLs.single (leafV_rep w _ h.1)
theorem pure_con {E : Env} {f : FuncId} {fn : Func} (hf : E.P.funcs[f]? = some fn) (hb : fn.body.isSome = true) (hn : (fn.name == "runtime.NumGoroutine") = false) (args : List Arg) (ls rs : List L) (ha : args.map argLeaf = ls.map some) (hr : rs.all L.leaf = true)
  (hc:∀ w,(∃ R,GlobAt E w R)→Calls E.P f ⟨ls.map leafV⟩ w fun e w'=>e=.returned (retVal (rs.map leafV))∧Below w.heap.size w w'):Con E f args (leafOut rs):=by
 intro w R B vs fps hargs hgl hlt _ _
 obtain ⟨rfl,hbx⟩:=argsLeaf _ _ _ _ hargs ha
 refine .inl ⟨enters hf hb hn,(hc w ⟨R,hgl⟩).mono fun e w' ⟨he,bel⟩=>?_⟩
 subst he
 have hfl:((rs.map fun _=>[]):List (List Nat)).flatten=[]:=by
  induction rs with
  | nil=>rfl
  | cons l rs ih=>simp
 rw [hbx]
 exact ⟨{ R':=R,vs:=rs.map leafV,fps:=rs.map fun _=>[],ofps:=[],hv:=rfl,kp:=⟨bel.os,bel.tape,bel.output,bel.size,fun k hk _=>bel.block k hk⟩,mono:=fun _ h=>h,new:=fun _ h=>.inl h,lt:=fun b h=>Nat.lt_of_lt_of_le (hlt b (.inl h)) bel.size,rs:=leafOut_rep w' R B rs hr,outs:=.nil,held:=by rw [hfl];simp,nd:=by rw [hfl];simp }⟩
def repK:List Arg→Option Out
 | [.v _ false [.str s],.v _ false [.int .i64 c]]=>if 0≤c∧c≤9223372036854775807∧s.length*c.toNat≤140737488355328 then some (leafOut [.str (Lib.repeatL s c.toNat)]) else none
 | _=>none
theorem rep_con {E : Env} {f : FuncId} {fn : Func} (hf : E.P.funcs[f]? = some fn) (hb : fn.body.isSome = true) (hn : (fn.name == "runtime.NumGoroutine") = false)
  (hc:∀ (s:ByteArray) (c:Nat) (w:World),c≤9223372036854775807→s.size*c≤140737488355328→Calls E.P f #[.string s,.int .i64 c] w fun e w'=>e=.returned (.string ⟨(Lib.repeatL s.data.toList c).toArray⟩)∧Below w.heap.size w w')
  (args:List Arg) (out:Out) (h:repK args=some out):Con E f args out:=by
 unfold repK at h
 split at h<;>try (cases h;done)
 rename_i m s m' c
 split at h<;>cases h
 rename_i hq
 obtain ⟨n,rfl⟩:∃ n:Nat,c=n:=⟨c.toNat,by omega⟩
 simp only [Int.toNat_natCast] at hq ⊢
 exact pure_con hf hb hn _ [.str s,.int .i64 n] _ rfl rfl fun w _=>hc ⟨s.toArray⟩ n w (by omega) (by simpa [ByteArray.size] using hq.2.2)
end Go.Ev

