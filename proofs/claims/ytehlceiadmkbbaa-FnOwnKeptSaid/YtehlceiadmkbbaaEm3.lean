/- My texts joined: EvS37, EvS38, EvS39, EvC. -/
import Derived.Test.YtehlceiadmkbbaaEm2
import Derived.DataReads
import Derived.Below
import Derived.Laws.Cover3
/- From a contract to a call over slices of bytes that came in. -/
set_option linter.unusedVariables false
set_option linter.unusedSimpArgs false
namespace Go.Ev

def IsRow (k : IntKind) (w : World) (a : Option Addr) (len cap : Nat) (zs : List Int) : Prop :=
  (a = none ∧ len = 0 ∧ cap = 0 ∧ zs = []) ∨
  ∃ x, a = some x ∧ len ≤ cap ∧ cap ≤ maxLen ∧ zs.length = cap ∧ (∀ i, i < zs.length → w.cell? (x.add i) = some (.int k (zs.getD i 0))) ∧ ∀ n ∈ zs, (Lit.int k n).wf = true
def codeOf (zs : List Int) (len : Nat) : List UInt8 := (zs.take len).map fun z => UInt8.ofNat z.toNat
theorem wf_u8 {z : Int} (h : (Lit.int .u8 z).wf = true) : 0 ≤ z ∧ z < 256 := by
  have h : IntKind.u8.min ≤ z ∧ z ≤ IntKind.u8.max := by simpa [Lit.wf] using h
  have h1 : IntKind.u8.min = 0 := by decide
  have h2 : IntKind.u8.max = 255 := by decide
  omega
theorem rows_code {zs : List Int} {len : Nat} (h : ∀ n ∈ zs, (Lit.int .u8 n).wf = true) : rowsOfBytes (codeOf zs len) = (zs.take len).map fun z => [L.int .u8 z] := by
  unfold rowsOfBytes codeOf
  rw [List.map_map]
  refine List.map_congr_left fun z hz => ?_
  have := wf_u8 (h z (List.mem_of_mem_take hz))
  simp only [Function.comp]
  congr 2
  rw [UInt8.toNat_ofNat']
  omega
theorem ints_rep {w : World} {k : IntKind} (o : Bool) : ∀ (zs : List Int), RepLs w o (zs.map fun z => Value.int k z) (zs.map fun z => L.int k z) []
  | [] => .nil o
  | z :: zs => .cons o _ _ _ _ [] [] (.int o k z) (ints_rep o zs)
theorem isRow_rep {w : World} {a : Option Addr} {len cap : Nat} {zs : List Int} (h : IsRow .u8 w a len cap zs) :
    ∃ S, RepLs w false [.slice a len cap] [.sl (rowsOfBytes (codeOf zs len))] S := by
  rcases h with ⟨rfl, rfl, rfl, rfl⟩ | ⟨x, rfl, hl, hm, hz, hc, hw⟩
  · exact ⟨[] ++ [], .cons _ _ _ _ _ _ _ (.sle _ _ _ (by simp)) (.nil _)⟩
  · rw [rows_code hw]
    by_cases h0 : len = 0
    · subst h0
      exact ⟨[] ++ [], .cons _ _ _ _ _ _ _ (.sle _ _ _ (by simp)) (.nil _)⟩
    · obtain ⟨b, off, spot⟩ := x
      have c0 := hc 0 (by omega)
      have hsp : spot = none := World.cell?_spot (a := ⟨b, off, spot⟩) (by simpa [Addr.add] using c0)
      subst hsp
      have hb : ∃ cs T fr, w.heap[b]? = some (.cells cs T fr) := by
        simp only [Addr.add, if_pos, World.cell?] at c0
        split at c0
        · exact ⟨_, _, _, by assumption⟩
        · cases c0
      obtain ⟨cs, T, fr, hb⟩ := hb
      have hcell : ∀ i, i < zs.length → cs[off + i]? = some (.int .u8 (zs.getD i 0)) := fun i hi => by
        have := hc i hi
        by_cases hi0 : i = 0
        · subst hi0
          simpa [World.cell?, Addr.add, hb] using this
        · simpa [World.cell?, Addr.add, hi0, hb] using this
      have hsz : off + cap ≤ cs.size := by
        have := (Array.getElem?_eq_some_iff.1 (hcell (cap - 1) (by omega))).1
        omega
      have htake : (cs.toList.drop off).take len = (zs.take len).map fun z => Value.int .u8 z := by
        refine List.ext_getElem? fun i => ?_
        by_cases hi : i < len
        · rw [List.getElem?_take_of_lt hi, List.getElem?_drop, Array.getElem?_toList, hcell i (by omega), List.getElem?_map, List.getElem?_take_of_lt hi]
          rw [List.getD_eq_getElem?_getD, List.getElem?_eq_getElem (by omega)]
          rfl
        · rw [List.getElem?_eq_none (by simp; omega), List.getElem?_eq_none (by simp; omega)]
      have hlen : ((zs.take len).map fun z => [L.int IntKind.u8 z]).length = len := by simp; omega
      have hflat : ((zs.take len).map fun z => [L.int IntKind.u8 z]).flatten = (zs.take len).map fun z => L.int .u8 z := by
        generalize zs.take len = ys
        induction ys with
        | nil => rfl
        | cons y ys ih => simp only [List.map_cons, List.flatten_cons, ih]; rfl
      have := RepL.sl (w := w) false b off cap cs T fr ((zs.take len).map fun z => [L.int IntKind.u8 z]) 1 [] hb (by
        intro e
        rw [e] at hlen
        simp at hlen
        omega) (by decide) (fun x hx => by
        simp only [List.mem_map] at hx
        obtain ⟨z, _, rfl⟩ := hx
        rfl) (by omega) (by omega) (by
        rw [hlen, Nat.mul_one, htake, hflat]
        exact ints_rep false _)
      rw [hlen] at this
      exact ⟨_, .cons _ _ _ _ _ _ _ this (.nil _)⟩
/-- What a law's call does that only reads what came in. -/
theorem law_calls {E : Env} {f : FuncId} {args : List Arg} {m : M} {vs : List Value} {W : World} (hc : Con E f args { rs := [.v m false [.bool true]], outs := [] }) (hg : ∀ g, E.glob g = none)
    (hen : (callFunc f ⟨vs⟩).run E.P W = .ok (.enter f ⟨vs⟩) W) (ha : ArgsRep W (fun b => b < W.heap.size) (fun _ => False) args vs (vs.map fun _ => [])) :
    Calls E.P f ⟨vs⟩ W fun e w' => e = .returned (.bool true) ∧ RowKit.Below W.heap.size W w' := by
  have hfl : (vs.map fun _ => ([] : List Nat)).flatten = [] := by
    induction vs with
    | nil => rfl
    | cons v vs ih => simp
  have := hc W (fun b => b < W.heap.size) (fun _ => False) vs _ ha (fun g ls h => by rw [hg] at h; cases h) (fun b hb => hb.elim id False.elim) (by rw [hfl]; simp) (by rw [hfl]; simp)
  rcases this with ⟨_, h⟩ | ⟨v, w', h, _⟩
  · refine h.mono fun e w' q => ?_
    cases e with
    | returned v =>
      obtain ⟨A⟩ := q
      have hv := A.hv
      have hr := A.rs
      generalize hvs : A.vs = vs1 at hv hr
      generalize A.fps = fps1 at hr
      cases hr with
      | cons h1 h2 =>
        cases h2
        obtain ⟨hag, S, hrep, h5, h6⟩ := h1
        rename_i u fp
        have hrep := hrep.weak
        have hu : u = .bool true := by
          cases u with
          | agg fs => simp [isAgg] at hag
          | bool b =>
            simp only [Value.cells] at hrep
            cases hrep with
            | cons _ _ _ _ _ _ _ g1 g2 => cases g1; rfl
          | _ =>
            simp only [Value.cells] at hrep
            cases hrep with
            | cons _ _ _ _ _ _ _ g1 g2 => cases g1
        subst hu
        refine ⟨by rw [hv]; rfl, A.kp.os, A.kp.tape, A.kp.output, A.kp.size, fun k hk => A.kp.block k hk ?_⟩
        rw [hfl]
        simp
    | _ => exact q.elim
  · rw [hen] at h
    cases h
theorem enters {P : Program} {f : FuncId} {fn : Func} {vs : Array Value} {W : World} (hf : P.funcs[f]? = some fn) (hb : fn.body.isSome = true) (hn : (fn.name == "runtime.NumGoroutine") = false) : (callFunc f vs).run P W = .ok (.enter f vs) W := by
  obtain ⟨c, hc⟩ := Option.isSome_iff_exists.1 hb
  have hne : ¬ fn.name = "runtime.NumGoroutine" := by simpa using hn
  simp [callFunc, hf, hne, hc]
theorem arg_ro {w : World} {v : Value} {ls : List L} {S : List Nat} (hr : RepLs w false v.cells.toList ls S) (ha : isAgg v = false) : ArgRep w (fun b => b < w.heap.size) (fun _ => False) v [] (.v .ro false ls) :=
  ⟨rfl, S, hr, ha, fun b hb => RepLs.lt hr b hb, fun h => by cases h⟩
end Go.Ev

/- A function's contract from a walk of its own: more ways out than one. -/
set_option linter.unusedVariables false
set_option linter.unusedSimpArgs false
namespace Go.Ev

theorem body_con2 {E : Env} {f : FuncId} {args : List Arg} {out : Out} {fn : Func} {c : Code} (hf : E.P.funcs[f]? = some fn) (hb : fn.body = some c) (hname : (fn.name == "runtime.NumGoroutine") = false)
    (hl1 : args.length = fn.params.size + fn.nfree) (hl2 : args.length ≤ fn.ntmps) (Good : Ex → St → Prop)
    (hgood : ∀ e s, Good e s → (e = .normal ∨ e = .ret) ∧ (match evResults E (E.fz f) fn.results.toList s with | some (rs, s') => (outsOf s' args 0).map fun outs => ({ rs, outs } : Out) | none => none) = some out)
    (hrun : ∀ (C : Cf) (a : Act) (w : World) (vs : List Value) (Q : Exit → Act → World → Prop), GlobOk E C → C.N = fn.ntmps → a.tmps = (⟨vs⟩ : Array Value) ++ Array.replicate (fn.ntmps - vs.length) undef → vs.length = args.length → InvX C (enter 0 args) a w → (∀ e s a w, Good e s → InvX C s a w → Q (exitOf e) a w) → c.wp E.P Q a w) : Con E f args out := by
  intro w R B vs fps ha hg hlt hh hn
  have hlen := ha.len
  left
  have hne : ¬ fn.name = "runtime.NumGoroutine" := by simpa using hname
  refine ⟨by simp [callFunc, hf, hne, hb], ?_⟩
  have hI := enter_ok ha hlt hh hn (N := fn.ntmps) (by omega)
  have gk : GlobOk E (entryCf w R B args vs fps fn.ntmps) := ⟨hg, fun b hb => ⟨hlt b hb, fun hG => hb.elim (hh b hG).1 (hh b hG).2.1⟩⟩
  refine calls_of_wp hf hb ?_
  refine hrun (entryCf w R B args vs fps fn.ntmps) _ w vs _ gk rfl rfl (by omega) ⟨_, _, _, hI⟩ fun e s a w' hGood J => ?_
  obtain ⟨hee, hr⟩ := hgood e s hGood
  have goal : a.defers = [] ∧ ∃ v, (results fn a.tmps).run E.P w' = .ok v w' ∧ Nonempty (Ans w R B (fun b => b ∈ fps.flatten) out (boxesOf args vs) v w') := by
    obtain ⟨R1, loc1, fp1, J⟩ := J
    split at hr <;> try (cases hr; done)
    rename_i rs s2 hres
    simp only [Option.map_eq_some_iff] at hr
    obtain ⟨outs, ho, rfl⟩ := hr
    obtain ⟨R2, loc2, fp2, vs', fs, g1, g2, g3, g4⟩ := results_ok (a := a) (w := w') fn.results.toList s s2 rs R1 loc1 fp1 [] J hres
    simp only [List.nil_append] at g2
    refine ⟨J.df, _, run_results g1, ?_⟩
    obtain ⟨is, o1, o2, o3⟩ := outs_ok g2 args vs 0 outs ho hlen (fun j m ls hj => by
      obtain ⟨v, f0, q1, q2, q3⟩ := ha.get j _ hj
      obtain ⟨b, rfl, _⟩ := q3
      refine ⟨b, q1, ?_⟩
      rw [Nat.zero_add]
      exact (g2.pl j (.blk b) (by show ptrLoc args[j]? vs[j]? = some (.blk b); rw [hj, q1]; rfl)).1) (fun j agg ls hj => by
        obtain ⟨v, f0, q1, q2, q3⟩ := ha.get j _ hj
        refine ⟨v, q1, ?_⟩
        rw [Nat.zero_add]
        exact (g2.pl j (.vals v.cells.toList) (by show ptrLoc args[j]? vs[j]? = some _; rw [hj, q1]; rfl)).1)
    refine ⟨{ R' := R2, vs := vs', fps := fs, ofps := is.map fun j => fp2 (.p j), hv := rfl, kp := g2.kp, mono := g2.r0, new := g2.rnew, lt := fun b hb => g2.rlt b (.inl hb), rs := g3, outs := o1, held := fun b hb => ?_, nd := ?_ }⟩
    · rcases List.mem_append.1 hb with hb | hb
      · exact g2.fheld b hb
      · obtain ⟨l, hl, hbl⟩ := List.mem_flatten.1 hb
        obtain ⟨j, hj, rfl⟩ := List.mem_map.1 hl
        obtain ⟨h0, hlk⟩ := (o3 j hj).2
        exact g2.held _ h0 hlk b hbl
    · refine List.nodup_append.2 ⟨g2.fnd, flatten_nodup_map is o2 (fun j hj => ?_) (fun i hi j hj hne b hb => ?_), fun b hb c hc e => ?_⟩
      · obtain ⟨h0, hlk⟩ := (o3 j hj).2
        exact g2.nd _ h0 hlk
      · obtain ⟨h0, hlk⟩ := (o3 i hi).2
        obtain ⟨h1, hlk1⟩ := (o3 j hj).2
        exact g2.dj _ h0 _ h1 hlk hlk1 (fun e => hne (by cases e; rfl)) b hb
      · subst e
        obtain ⟨l, hl, hbl⟩ := List.mem_flatten.1 hc
        obtain ⟨j, hj, rfl⟩ := List.mem_map.1 hl
        obtain ⟨h0, hlk⟩ := (o3 j hj).2
        exact g2.fdj _ h0 hlk b hb hbl
  rcases hee with rfl | rfl
  · exact goal
  · exact goal
end Go.Ev

/- 'slices.Clone', whatever its elements: a nil slice stays nil. -/
set_option linter.unusedVariables false
set_option linter.unusedSimpArgs false
namespace Go.Ev

def cloneCode (T Tb : TypeId) (p0 p1 p2 p3 p4 : String) (g1 g2 g3 : Array Edge) : Code :=
  (Code.region 0 #[{ dst := some 2, op := .assign (.const (.slice none 0 0)), type := T, pos := p0, after := #[], guard := none }] false).seq
    (((Code.region 1 #[{ dst := some 3, op := .move (.tmp 0), type := T, pos := p1, after := #[], guard := none },
        { dst := some 4, op := .binOp .eql T (.tmp 3) (.const (.slice none 0 0)) T, type := Tb, pos := p2, after := g1, guard := none }] false).seq
      (.cond (.tmp 4) ((Code.region 2 #[{ dst := some 2, op := .assign (.const (.slice none 0 0)), type := T, pos := p3, after := #[], guard := none }] false).seq .ret) .skip)).seq
    ((Code.region 3 #[{ dst := some 5, op := .buildSlice T 0 #[], type := T, pos := p4, after := #[], guard := none },
        { dst := some 6, op := .move (.tmp 0), type := T, pos := p4, after := #[], guard := none },
        { dst := some 7, op := .call { callee := .builtin .append, args := #[.tmp 5, .tmp 6], argTypes := #[T, T] }, type := T, pos := p4, after := g2, guard := none },
        { dst := some 2, op := .assign (.tmp 7), type := T, pos := p4, after := g3, guard := none }] false).seq .ret))
def cloneK (sz by' : Nat) : List Arg → Option Out
  | [.v m false [.sl xs]] => if (xs.all fun r => r.all L.flat) = true ∧ (xs.all fun r => decide (r.length = sz)) = true ∧ xs.length * by' ≤ 17592186044416 ∧ xs.length ≤ 17592186044416 then some { rs := [.v .own false [.sl xs]], outs := [] } else none
  | _ => none
theorem sl_of {w : World} {R B : Nat → Prop} {H : List (Root × HC)} {loc : Root → Loc} {v : Value} {m : M} {xs : List (List L)} (h : AVRep w R B H loc v (.v m false [.sl xs])) : ∃ a n c, v = .slice a n c ∧ (a = none → xs = []) := by
  obtain ⟨S, h1, h2, h3, h4⟩ := h
  have hc : v.cells.toList = [v] := by cases v <;> first | rfl | simp [isAgg] at h2
  rw [hc] at h1
  cases h1 with
  | cons _ _ _ _ _ _ _ g1 g2 =>
    cases g1 with
    | sle _ a cap _ => exact ⟨a, 0, cap, rfl, fun _ => rfl⟩
    | sl => exact ⟨_, _, _, rfl, fun e => by cases e⟩
theorem clone_con {E : Env} {f : FuncId} {fn : Func} {T Tb e : TypeId} {ti ei : TI} {p0 p1 p2 p3 p4 : String} {g1 g2 g3 : Array Edge} (hf : E.P.funcs[f]? = some fn) (hb : fn.body = some (cloneCode T Tb p0 p1 p2 p3 p4 g1 g2 g3)) (hname : (fn.name == "runtime.NumGoroutine") = false)
    (hres : fn.results.toList = [.tmp 2]) (hp : fn.params.size + fn.nfree = 1) (hnt : fn.ntmps = 8) (hl0 : E.live f 0 = [0]) (hl1 : E.live f 1 = [0, 4]) (hl2 : E.live f 2 = [2]) (hl3 : E.live f 3 = [2]) (hfz : E.fz f = [])
    (ht : tiOf E.P T = some ti) (htd : ti.td = .slice e) (hei : tiOf E.P e = some ei) (hz : ei.size ≠ 0) (args : List Arg) (out : Out) (h : cloneK ei.size ei.bytes args = some out) : Con E f args out := by
  unfold cloneK at h
  split at h <;> try (cases h; done)
  rename_i m xs
  split at h <;> cases h
  rename_i hc
  obtain ⟨q1, q2, q3, q4⟩ := hc
  have hgC : Cons' E fun _ _ => none := fun _ _ _ h => by cases h
  have he := eq_ok E
  refine body_con2 hf hb hname (by rw [hp]; rfl) (by rw [hnt]; exact Nat.le_of_ble_eq_true rfl) (fun e s => e = .ret ∧ (match evResults E (E.fz f) fn.results.toList s with | some (rs, s') => (outsOf s' [.v m false [.sl xs]] 0).map fun outs => ({ rs, outs } : Out) | none => none) = some { rs := [.v .own false [.sl xs]], outs := [] }) (fun e s h => ⟨.inr h.1, h.2⟩) ?_
  intro C a w vs Q gk hN hT hlen I hq
  have hN8 : C.N = 8 := hN.trans hnt
  unfold cloneCode
  refine wp_seq (region_ok (K := fun _ _ => none) (fz := []) gk hgC he (fun o ho y hy => ?_) I (s' := { V := [(2, .nil), (0, .v m false [.sl xs])], H := [], ps := [] }) rfl fun a1 w1 I1 => ?_)
  · simp only [List.mem_cons, List.not_mem_nil, or_false] at ho
    subst ho
    cases hy
    rw [hN8]; decide
  have I1 := canon_ok [0] I1
  refine wp_seq (wp_seq (wp_region ?_))
  show wpOps E.P _ _ [0, 1] a1 w1
  rw [wpOps_cons]
  refine g_ok (K := fun _ _ => none) (fz := []) gk hgC he I1 rfl (fun y hy => by cases hy; rw [hN8]; decide) (s' := { V := [(3, .v m false [.sl xs]), (0, .v m false [.sl xs])], H := [], ps := [] }) rfl fun a2 w2 I2 => ?_
  rw [wpOps_cons]
  obtain ⟨R, loc, fp, I2⟩ := I2
  obtain ⟨ad, n, c, hv, hnil⟩ := sl_of (I2.av 3)
  have hrun : (execOp a2.eval { dst := some 4, op := .binOp .eql T (.tmp 3) (.const (.slice none 0 0)) T, type := Tb, pos := p2, after := g1, guard := none }).run E.P w2 = .ok (.value (.bool ad.isNone)) w2 := by
    obtain ⟨i, d, zz, hi, hdd, hzz, hzs, hz1, hn, h0, e1, e2, e3, e4, e5⟩ := tiOf_spec ht
    have hds : d = .slice e := by rw [e5] at htd; cases d <;> simp [tdOf] at htd; rw [htd]
    subst hds
    have hv3 : a2.eval (.tmp 3) = .slice ad n c := hv
    have ee : (do eqGuard .eql T (.tmp 3) (.const (.slice none 0 0)) (.slice ad n c) (.slice none 0 0); binOp .eql T (.slice ad n c) (.slice none 0 0) : Sem Value).run E.P w2 = .ok (.bool ad.isNone) w2 := by
      have e1 : (eqGuard .eql T (.tmp 3) (.const (.slice none 0 0)) (.slice ad n c) (.slice none 0 0)).run E.P w2 = .ok () w2 := rfl
      have e2 : binOp .eql T (.slice ad n c) (.slice none 0 0) = (do pure (.bool (← Op.equal T (.slice ad n c) (.slice none 0 0)))) := rfl
      simp only [Sem.run_bind, e1, e2, Result.andThen_ok, run_equal_slice_nil w2 T e ad n c hdd]; rfl
    have hk : a2.eval (.const (.slice none 0 0)) = .slice none 0 0 := rfl
    simp only [execOp, hv3, hk]
    rw [Sem.run_bind, ee]; rfl
  unfold wpOp
  show (if Region.wanted _ _ = true then _ else _)
  rw [if_pos (by simp [Region.wanted])]
  refine .inl (opVal hrun ?_)
  have I3 : InvX C { V := [(4, .v .ro false [.bool ad.isNone]), (3, .v m false [.sl xs]), (0, .v m false [.sl xs])], H := [], ps := [] } (a2.put (some 4) (.bool ad.isNone)) w2 := InvX.put I2 (d := some 4) (fun y hy => by cases hy; rw [hN8]; decide) (mkFlat (.bool _ _) rfl)
  have I4 := canon_ok [0, 4] I3
  have hcv : (a2.put (some 4) (.bool ad.isNone)).eval (.tmp 4) = .bool ad.isNone := by
    obtain ⟨R, loc, fp, I4⟩ := I4
    have := I4.av 4
    obtain ⟨S, g1, _⟩ := scal this
    show (a2.put (some 4) (.bool ad.isNone)).tmps.getD 4 undef = _
    generalize (a2.put (some 4) (.bool ad.isNone)).tmps.getD 4 undef = v at g1
    cases g1
    rfl
  have I4 : InvX C { V := [(0, .v m false [.sl xs]), (4, .v .ro false [.bool ad.isNone])], H := [], ps := [] } (a2.put (some 4) (.bool ad.isNone)) w2 := I4
  show Code.wp E.P _ _ (a2.put (some 4) (.bool ad.isNone)) w2
  generalize a2.put (some 4) (.bool ad.isNone) = a3 at I4 hcv
  refine wp_cond hcv ?_
  cases had : ad.isNone with
  | true =>
    have hx : xs = [] := hnil (by simpa using had)
    subst hx
    rw [had] at I4
    refine wp_seq (region_ok (K := fun _ _ => none) (fz := []) (s := { V := [(0, .v m false [.sl []]), (4, .v .ro false [.bool true])], H := [], ps := [] }) (s' := { V := [(2, .nil), (0, .v m false [.sl []]), (4, .v .ro false [.bool true])], H := [], ps := [] }) gk hgC he (fun o ho y hy => ?_) I4 rfl fun a5 w5 I5 => ?_)
    · simp only [List.mem_cons, List.not_mem_nil, or_false] at ho
      subst ho
      cases hy
      rw [hN8]; decide
    refine wp_ret ?_
    refine hq .ret _ a5 w5 ⟨rfl, ?_⟩ (canon_ok [2] I5)
    simp [hres, hfz, evResults, evResult, canon, St.norm, renOf, AV.ren, keepH, St.embed, outsOf, look]
  | false =>
    rw [had] at I4
    have q5 : 0 < ei.size := by omega
    refine wp_skip ?_
    refine wp_seq (region_ok (K := fun _ _ => none) (fz := []) (s := { V := [(0, .v m false [.sl xs]), (4, .v .ro false [.bool false])], H := [], ps := [] }) (s' := { V := [(2, .at (.f 7 1) 0 0 0 [] 1 false), (7, .at (.f 7 1) 0 0 0 [] 1 false), (6, .v m false [.sl xs]), (5, .at (.f 5 1) 0 0 0 [] 1 false), (0, .v m false [.sl xs]), (4, .v .ro false [.bool false])], H := [(.f 7 1, { box := false, wr := true, m := .own, ls := [.sl xs], e0 := 0, e1 := 0 }), (.f 5 1, { box := false, wr := true, m := .own, ls := [.dead], e0 := 1, e1 := 0 }), (.f 5 1, { box := false, wr := true, m := .own, ls := [.sl []], e0 := 0, e1 := 0 })], ps := [] }) gk hgC he (fun o ho y hy => ?_) I4 ?_ fun a5 w5 I5 => ?_)
    · simp only [List.mem_cons, List.not_mem_nil, or_false] at ho
      rcases ho with rfl | rfl | rfl | rfl <;> cases hy <;> rw [hN8] <;> decide
    · simp only [List.all_eq_true] at q1 q2
      have hsl : ∀ ys, (L.sl ys).flat = false := fun _ => rfl
      have q1' : ∀ x ∈ xs, ∀ y ∈ x, y.flat = true := q1
      have q2' : ∀ x ∈ xs, x.length = ei.size := fun x hx => by simpa using q2 x hx
      simp [evOps, evG, evOp, ht, htd, hei, q5, q3, q4, q2', fillCells, St.new, hsl, lookH, St.putH, St.put, opnd, look, evCallOp, evAppend, St.embed, St.getAt, place, HC.okAt, HC.set, HC.bump, setPlace, setRange, deadened, srcRows, St.peek, flatRows, rowsOk, isRowTy, chunk, M.isOwn, M.join, modeOf]
      simp only [if_pos q1']
      simp [hsl, q3, q4, q5, lookH, M.isOwn, M.join]
      simp only [if_pos q2']
      simp [look]
    refine wp_ret ?_
    refine hq .ret _ a5 w5 ⟨rfl, ?_⟩ (canon_ok [2] I5)
    simp [hres, hfz, evResults, evResult, canon, St.norm, renOf, addRen, ren1, inPs, AV.ren, keepH, St.embed, outsOf, look, lookH, HC.okAt, HC.reset, St.getAt, place, M.isOwn, HC.set, HC.bump]
end Go.Ev

/- The evaluator's rules in the form that simp uses: one for each kind of code and of operation, the first step alone. -/
set_option linter.unusedVariables false
namespace Go.Ev

def thenK (r : Option (Ex × St)) (k : St → Option (Ex × St)) : Option (Ex × St) :=
  match r with
  | some (.normal, s) => k s
  | r => r
@[simp] theorem thenK_normal (s : St) (k : St → Option (Ex × St)) : thenK (some (.normal, s)) k = k s := rfl
@[simp] theorem thenK_exit (i : Nat) (s : St) (k : St → Option (Ex × St)) : thenK (some (.exit i, s)) k = some (.exit i, s) := rfl
@[simp] theorem thenK_ret (s : St) (k : St → Option (Ex × St)) : thenK (some (.ret, s)) k = some (.ret, s) := rfl
@[simp] theorem thenK_none (k : St → Option (Ex × St)) : thenK none k = none := rfl
def blockK (id : Nat) (r : Option (Ex × St)) : Option (Ex × St) :=
  match r with
  | some (.exit id', s') => if id' = id then some (.normal, s') else some (.exit id', s')
  | r => r
@[simp] theorem blockK_normal (id : Nat) (s : St) : blockK id (some (.normal, s)) = some (.normal, s) := rfl
@[simp] theorem blockK_ret (id : Nat) (s : St) : blockK id (some (.ret, s)) = some (.ret, s) := rfl
@[simp] theorem blockK_exit (id i : Nat) (s : St) : blockK id (some (.exit i, s)) = if i = id then some (.normal, s) else some (.exit i, s) := rfl
@[simp] theorem blockK_none (id : Nat) : blockK id none = none := rfl
def condK (a : AV) (x y : St → Option (Ex × St)) (s : St) : Option (Ex × St) :=
  match a with
  | .v _ false [.bool q] => if q then x s else y s
  | _ => none
@[simp] theorem condK_bool (m : M) (q : Bool) (x y : St → Option (Ex × St)) (s : St) : condK (.v m false [.bool q]) x y s = if q = true then x s else y s := rfl
@[simp] theorem ite_isFalse {α : Sort _} (q : Bool) (x y : α) : (if q = false then x else y) = if q = true then y else x := by cases q <;> rfl
@[simp] theorem ite_isNot {α : Sort _} (q : Bool) (x y : α) : (if ¬ q = true then x else y) = if q = true then y else x := by cases q <;> rfl
noncomputable def loopC (E : Env) (K : Fns) (f : FuncId) (a : Code) (s : St) : Option (Ex × St) := loopLim (evCode E K f a) s
def regK (live : List Nat) (r : Option St) : Option (Ex × St) := r.map fun s' => (.normal, canon live s')
@[simp] theorem regK_some (live : List Nat) (s : St) : regK live (some s) = some (.normal, canon live s) := rfl
@[simp] theorem regK_none (live : List Nat) : regK live none = none := rfl
def opsK (r : Option St) (k : St → Option St) : Option St := r.bind k
@[simp] theorem opsK_some (s : St) (k : St → Option St) : opsK (some s) k = k s := rfl
@[simp] theorem opsK_none (k : St → Option St) : opsK none k = none := rfl

section
variable (E : Env) (K : Fns) (f : FuncId) (fz : List Nat) (s : St)
@[simp] theorem evCode_skip : evCode E K f .skip s = some (.normal, s) := rfl
@[simp] theorem evCode_label (l : Nat) : evCode E K f (.label l) s = some (.normal, s) := rfl
@[simp] theorem evCode_exit (i : Nat) : evCode E K f (.exit i) s = some (.exit i, s) := rfl
@[simp] theorem evCode_ret : evCode E K f .ret s = some (.ret, s) := rfl
@[simp] theorem evCode_seq (a b : Code) : evCode E K f (.seq a b) s = thenK (evCode E K f a s) (evCode E K f b) := rfl
@[simp] theorem evCode_block (i : Nat) (a : Code) : evCode E K f (.block i a) s = blockK i (evCode E K f a s) := rfl
@[simp] theorem evCode_cond (c : Operand) (a b : Code) : evCode E K f (.cond c a b) s = condK (opnd E s c) (evCode E K f a) (evCode E K f b) s := rfl
@[simp] theorem evCode_loop (a : Code) : evCode E K f (.loop a) s = loopC E K f a s := rfl
@[simp] theorem evCode_region (i : Nat) (ops : List Oper) : evCode E K f (.region i ⟨ops⟩ false) s = regK (E.live f i) (evOps E K ⟨ops⟩ (E.fz f) ops s) := rfl
def drawK (conf : List (Nat × Nat)) (r : Option (List (List Root × List Root × Nat) × St)) : Option St :=
  match r with
  | some (tr, s') => if apartOk tr conf then some s' else none
  | none => none
@[simp] theorem drawK_some (conf : List (Nat × Nat)) (tr : List (List Root × List Root × Nat)) (s : St) : drawK conf (some (tr, s)) = if apartOk tr conf then some s else none := rfl
@[simp] theorem drawK_none (conf : List (Nat × Nat)) : drawK conf none = none := rfl
@[simp] theorem evCode_draw (i : Nat) (ops : List Oper) : evCode E K f (.region i ⟨ops⟩ true) s = regK (E.live f i) (drawK (E.conf f i) (evOpsT E.st K ⟨ops⟩ (E.fz f) ops s)) := rfl
theorem loopC_eq (a : Code) : loopC E K f a s = thenK (evCode E K f a s) (loopC E K f a) := by
  unfold loopC
  rw [loopLim_eq]
  cases evCode E K f a s with
  | none => rfl
  | some x => obtain ⟨e, s'⟩ := x; cases e <;> rfl
variable (ops : Array Oper)
def trK (x : List Root × List Root × Nat) (r : Option (List (List Root × List Root × Nat) × St)) : Option (List (List Root × List Root × Nat) × St) := r.map fun q => (x :: q.1, q.2)
@[simp] theorem trK_some (x : List Root × List Root × Nat) (tr : List (List Root × List Root × Nat)) (s : St) : trK x (some (tr, s)) = some (x :: tr, s) := rfl
@[simp] theorem trK_none (x : List Root × List Root × Nat) : trK x none = none := rfl
def stepT (E : Env) (K : Fns) (ops : Array Oper) (fz : List Nat) (x : List Root × List Root × Nat) (os : List Oper) (r : Option St) : Option (List (List Root × List Root × Nat) × St) :=
  match r with
  | some s' => trK x (evOpsT E K ops fz os s')
  | none => none
@[simp] theorem stepT_some (x : List Root × List Root × Nat) (os : List Oper) (s' : St) : stepT E K ops fz x os (some s') = trK x (evOpsT E K ops fz os s') := rfl
@[simp] theorem stepT_none (x : List Root × List Root × Nat) (os : List Oper) : stepT E K ops fz x os none = none := rfl
@[simp] theorem evOpsT_nil : evOpsT E K ops fz [] s = some ([], s) := rfl
@[simp] theorem evOpsT_cons (o : Oper) (os : List Oper) : evOpsT E K ops fz (o :: os) s = stepT E K ops fz (opTouch E s o, opWr E s o, o.dst.getD 0) os (evG E K ops fz o s) := by
  simp only [evOpsT]
  cases evG E K ops fz o s with
  | none => rfl
  | some s' =>
    simp only [stepT, trK]
    cases evOpsT E K ops fz os s' <;> rfl
@[simp] theorem evOps_nil : evOps E K ops fz [] s = some s := rfl
@[simp] theorem evOps_cons (o : Oper) (os : List Oper) : evOps E K ops fz (o :: os) s = opsK (evG E K ops fz o s) (evOps E K ops fz os) := by
  rw [evOps, opsK]; cases evG E K ops fz o s <;> rfl
def guardK (a : AV) (want : Bool) (x y : Option St) : Option St :=
  match a with
  | .v _ false [.bool b] => if b = want then x else y
  | .tup [] => y
  | _ => none
@[simp] theorem guardK_u (want : Bool) (x y : Option St) : guardK (.tup []) want x y = y := rfl
@[simp] theorem guardK_t (m : M) (b : Bool) (x y : Option St) : guardK (.v m false [.bool b]) true x y = if b = true then x else y := rfl
@[simp] theorem guardK_f (m : M) (b : Bool) (x y : Option St) : guardK (.v m false [.bool b]) false x y = if b = true then y else x := by cases b <;> rfl
@[simp] theorem evG_none (d : Option Tmp) (op : Op) (t : TypeId) (ps : String) (af : Array Edge) : evG E K ops fz ⟨d, op, t, ps, af, none⟩ s = evOp E K fz ⟨d, op, t, ps, af, none⟩ s := rfl
def guardT (ops : Array Oper) (j : Nat) : Option Nat := (ops[j]?).bind (·.dst)
def evGK (E : Env) (K : Fns) (fz : List Nat) (o : Oper) (s : St) (want : Bool) (t : Option Nat) : Option St :=
  match t with
  | some t =>
    match look s.V t with
    | .v _ false [.bool b] => if b = want then evOp E K fz o s else some (s.put o.dst (.tup []))
    | .tup [] => some (s.put o.dst (.tup []))
    | _ => none
  | none => none
@[simp] theorem evGK_bool (E : Env) (K : Fns) (fz : List Nat) (o : Oper) (s : St) (want : Bool) (t : Nat) : evGK E K fz o s want (some t) = guardK (look s.V t) want (evOp E K fz o s) (some (s.put o.dst (.tup []))) := rfl
@[simp] theorem evG_some (d : Option Tmp) (op : Op) (t : TypeId) (ps : String) (af : Array Edge) (j : Nat) (want : Bool) :
    evG E K ops fz ⟨d, op, t, ps, af, some (j, want)⟩ s = evGK E K fz ⟨d, op, t, ps, af, some (j, want)⟩ s want (guardT ops j) := rfl
variable (d : Option Tmp) (ty : TypeId) (ps : String) (af : Array Edge) (g : Option (Nat × Bool))
@[simp] theorem evOp_move (x : Operand) : evOp E K fz ⟨d, .move x, ty, ps, af, g⟩ s = some (s.put d (opnd E s x)) := rfl
@[simp] theorem evOp_assign (x : Operand) : evOp E K fz ⟨d, .assign x, ty, ps, af, g⟩ s = some (s.put d (opnd E s x)) := rfl
@[simp] theorem evOp_load (t : TypeId) (a : Operand) : evOp E K fz ⟨d, .load t a, ty, ps, af, g⟩ s = (evLoad E t (opnd E s a) s).map (s.put d) := rfl
@[simp] theorem evOp_binOp (op : BinOp) (t t' : TypeId) (x y : Operand) : evOp E K fz ⟨d, .binOp op t x y t', ty, ps, af, g⟩ s = (evBin E op t (opnd E s x) (opnd E s y)).map (s.put d) := rfl
@[simp] theorem evOp_unOp (op : UnOp) (t : TypeId) (x : Operand) : evOp E K fz ⟨d, .unOp op t x, ty, ps, af, g⟩ s = (evUn op (opnd E s x)).map (s.put d) := rfl
@[simp] theorem evOp_fieldAddr (t : TypeId) (x : Operand) (i : Nat) : evOp E K fz ⟨d, .fieldAddr t x i, ty, ps, af, g⟩ s = (evFieldAddr E t (opnd E s x) i s).map (s.put d) := rfl
@[simp] theorem evOp_field (t : TypeId) (x : Operand) (i : Nat) : evOp E K fz ⟨d, .field t x i, ty, ps, af, g⟩ s = (evField E t (opnd E s x) i s).map (s.put d) := rfl
@[simp] theorem evOp_indexAddr (t : TypeId) (x i : Operand) : evOp E K fz ⟨d, .indexAddr t x i, ty, ps, af, g⟩ s = (evIndexAddr E t (opnd E s x) (opnd E s i) s).map (s.put d) := rfl
@[simp] theorem evOp_index (t : TypeId) (x i : Operand) : evOp E K fz ⟨d, .index t x i, ty, ps, af, g⟩ s = (evIndex E t (opnd E s x) (opnd E s i)).map (s.put d) := rfl
@[simp] theorem evOp_call (c : Call) : evOp E K fz ⟨d, .call c, ty, ps, af, g⟩ s = evCallOp E K c d s := rfl
def pickK (c a b : AV) (d : Option Nat) (s : St) : Option St :=
  match c with
  | .v _ false [.bool q] => match (if q then a else b) with | .v m agg ls => some (s.put d (.v m agg ls)) | _ => none
  | _ => none
def vK (a : AV) (d : Option Nat) (s : St) : Option St := match a with | .v m agg ls => some (s.put d (.v m agg ls)) | _ => none
@[simp] theorem vK_v (m : M) (ag : Bool) (ls : List L) : vK (.v m ag ls) d s = some (s.put d (.v m ag ls)) := rfl
@[simp] theorem pickK_bool (m : M) (q : Bool) (a b : AV) : pickK (.v m false [.bool q]) a b d s = if q = true then vK a d s else vK b d s := by cases q <;> rfl
@[simp] theorem evOp_pick (c a b : Operand) : evOp E K fz ⟨d, .pick c a b, ty, ps, af, g⟩ s = pickK (opnd E s c) (opnd E s a) (opnd E s b) d s := rfl
@[simp] theorem evOp_extract (x : Operand) (k : Nat) : evOp E K fz ⟨d, .extract x k, ty, ps, af, g⟩ s = (match opnd E s x with | .tup xs => (xs[k]?).map (s.put d) | _ => none) := by
  simp only [evOp]; rfl
@[simp] theorem evOp_alloc (t : TypeId) : evOp E K fz ⟨d, .alloc t, ty, ps, af, g⟩ s = (tiOf E.P t).map fun ti => (s.mkBox (.f (d.getD 0) 1) .own ti.zero).2.put d (s.mkBox (.f (d.getD 0) 1) .own ti.zero).1 := rfl
@[simp] theorem evOp_store (t : TypeId) (a x : Operand) : evOp E K fz ⟨d, .store t a x, ty, ps, af, g⟩ s = (evStore E t (opnd E s a) (opnd E s x) (match x with | .tmp t => fz.contains t | _ => false) s).map fun s' => s'.put d .dead := rfl
@[simp] theorem evOp_nilCheck (x : Operand) : evOp E K fz ⟨d, .nilCheck x, ty, ps, af, g⟩ s = (match opnd E s x with | .ad r k0 k1 off hops => (s.getAd r k0 k1 off hops).map fun _ => s.put d (.ad r k0 k1 off hops) | .v m false [.ref ls] => some (s.put d (.v m false [.ref ls])) | _ => none) := rfl
@[simp] theorem evOp_convert (a b : TypeId) (x : Operand) : evOp E K fz ⟨d, .convert a b x, ty, ps, af, g⟩ s = (evConv E a b (opnd E s x) (d.getD 0) s).map fun r => r.2.put d r.1 := rfl
@[simp] theorem evOp_slice (t : TypeId) (x : Operand) (lo hi : Option Operand) : evOp E K fz ⟨d, .slice t x lo hi none, ty, ps, af, g⟩ s = (evSlice E t (opnd E s x) (lo.map (opnd E s)) (hi.map (opnd E s)) s).map fun r => r.2.put d r.1 := rfl
@[simp] theorem evOp_makeSlice (t : TypeId) (l c : Operand) : evOp E K fz ⟨d, .makeSlice t l c, ty, ps, af, g⟩ s = (evMakeSlice E t (opnd E s l) (opnd E s c) (d.getD 0) s).map fun r => r.2.put d r.1 := rfl
@[simp] theorem evOp_makeFunc (f : FuncId) (cs : List Operand) : evOp E K fz ⟨d, .makeFunc (.func f) ⟨[]⟩ ⟨cs⟩, ty, ps, af, g⟩ s = (evCaps (cs.map (opnd E s)) s).map fun r => r.2.put d (.v .ro false [.fn f r.1]) := rfl
def boxK (fz : Bool) (ti : Option TI) (x : Option (M × Bool × List L × St)) (d : Option Nat) : Option St :=
  match ti, x with
  | some ti, some (m, _, ls, s') =>
    if ls.length = ti.size then
      if fz = true then (cap1 (s'.mkBox (.f (d.getD 0) 1) m ls).2 (s'.mkBox (.f (d.getD 0) 1) m ls).1).map fun q => q.2.put d (.v .ro false [q.1])
      else some ((s'.mkBox (.f (d.getD 0) 1) m ls).2.put d (s'.mkBox (.f (d.getD 0) 1) m ls).1)
    else none
  | _, _ => none
@[simp] theorem evOp_box (t : TypeId) (x : Operand) : evOp E K fz ⟨d, .box t x, ty, ps, af, g⟩ s = boxK (boxFz fz d) (tiOf E.P t) (s.embed (match x with | .tmp t => fz.contains t | _ => false) (opnd E s x)) d := rfl
attribute [simp] boxFz
def buildK (r : Option (M × List L × St)) (d : Option Nat) : Option St :=
  match r with
  | some (m, ls, s') => some ((s'.new (.f (d.getD 0) 1) m true ls).2.put d (s'.new (.f (d.getD 0) 1) m true ls).1)
  | none => none
@[simp] theorem evOp_build (t : TypeId) (parts : List (Nat × Operand)) : evOp E K fz ⟨d, .build t ⟨parts⟩, ty, ps, af, g⟩ s =
    match tiOf E.P t with
    | some ti => buildK (match ti.td with
        | .struct fs => if fs.all (fun f => (tiOf E.P f.2).isSome) then fillCells E (fieldPl E.P fs) fz ti.zero .own parts s else none
        | .arr _ e => match tiOf E.P e with | some ei => fillCells E (fun i => some (i * ei.size, ei.size)) fz ti.zero .own parts s | none => none
        | _ => none) d
    | none => none := rfl
def bsK (n sz : Nat) (r : Option (M × List L × St)) (d : Option Nat) : Option St :=
  match r with
  | some (m, ls, s') =>
    some ((if m.isOwn then s'.new (.f (d.getD 0) 1) .own false [.sl (chunk sz n ls)] else (.v m false [.sl (chunk sz n ls)], s')).2.put d
      (if m.isOwn then s'.new (.f (d.getD 0) 1) .own false [.sl (chunk sz n ls)] else (.v m false [.sl (chunk sz n ls)], s')).1)
  | none => none
@[simp] theorem evOp_buildSlice (t : TypeId) (n : Nat) (parts : List (Nat × Operand)) : evOp E K fz ⟨d, .buildSlice t n ⟨parts⟩, ty, ps, af, g⟩ s =
    match tiOf E.P t with
    | some ti =>
      match ti.td with
      | .slice e =>
        match tiOf E.P e with
        | some ei =>
          if n * ei.size ≤ 65536 ∧ 0 < ei.size then
            bsK n ei.size (fillCells E (fun i => some (i * ei.size, ei.size)) fz (List.replicate n ei.zero).flatten .own parts s) d
          else none
        | none => none
      | _ => none
    | none => none := rfl
def ownK (E : Env) (K : Fns) (a : AV) (zs : List AV) (d : Option Nat) (s : St) : Option St :=
  match a with
  | .v m false [.fn g caps] => callFn E K g (zs ++ caps.map fun l => .v m false [l]) d s
  | _ => none
@[simp] theorem evCallOp_value (f : Operand) (zs : List Operand) (ts : Array TypeId) : evCallOp E K ⟨.value f, ⟨zs⟩, ts⟩ d s = ownK E K (opnd E s f) (zs.map (opnd E s)) d s := rfl
@[simp] theorem ownK_fn (m : M) (g : FuncId) (caps : List L) (zs : List AV) : ownK E K (.v m false [.fn g caps]) zs d s = callFn E K g (zs ++ caps.map fun l => .v m false [l]) d s := rfl
@[simp] theorem evCallOp_len (x : Operand) (t : TypeId) (ts : List TypeId) : evCallOp E K ⟨.builtin .len, ⟨[x]⟩, ⟨t :: ts⟩⟩ d s = (evLen E t (opnd E s x) s).map (s.put d) := rfl
@[simp] theorem evCallOp_append (x y : Operand) (ts : List TypeId) : evCallOp E K ⟨.builtin .append, ⟨[x, y]⟩, ⟨ts⟩⟩ d s = (evAppend E ts (opnd E s x) (opnd E s y) (d.getD 0) s).map fun r => r.2.put d r.1 := rfl
@[simp] theorem evCallOp_min (x y : Operand) (ts : List TypeId) : evCallOp E K ⟨.builtin .min, ⟨[x, y]⟩, ⟨ts⟩⟩ d s = (minMax false [opnd E s x, opnd E s y]).map (s.put d) := rfl
@[simp] theorem evCallOp_max (x y : Operand) (ts : List TypeId) : evCallOp E K ⟨.builtin .max, ⟨[x, y]⟩, ⟨ts⟩⟩ d s = (minMax true [opnd E s x, opnd E s y]).map (s.put d) := rfl
end
/-! comparisons, zs words of their own -/
def ltI (a b : Int) : Bool := decide (a < b)
def eqI (a b : Int) : Bool := a == b
def eqS (a b : List UInt8) : Bool := a == b
theorem ltI_iff {a b : Int} : ltI a b = true ↔ a < b := by simp [ltI]
theorem ltI_not {a b : Int} : ltI a b = false ↔ b ≤ a := by simp [ltI]
theorem eqI_iff {a b : Int} : eqI a b = true ↔ a = b := by simp [eqI]
theorem eqI_not {a b : Int} : eqI a b = false ↔ a ≠ b := by simp [eqI]
theorem eqS_iff {a b : List UInt8} : eqS a b = true ↔ a = b := by simp [eqS]
theorem eqS_not {a b : List UInt8} : eqS a b = false ↔ a ≠ b := by simp [eqS]
@[simp] theorem ltI_true {a b : Int} (h : a < b) : ltI a b = true := by simp [ltI, h]
@[simp] theorem ltI_false {a b : Int} (h : b ≤ a) : ltI a b = false := by simp [ltI, h]
@[simp] theorem eqI_self (a : Int) : eqI a a = true := by simp [eqI]
@[simp] theorem eqI_false {a b : Int} (h : ¬ a = b) : eqI a b = false := by simp [eqI, h]
@[simp] theorem eqS_self (a : List UInt8) : eqS a a = true := by simp [eqS]
@[simp] theorem eqS_false {a b : List UInt8} (h : ¬ a = b) : eqS a b = false := by simp [eqS, h]
section
variable (k : IntKind) (a b : Int)
@[simp] theorem ib_add : intBin .add k a b = some (.int k (k.wrap (a + b))) := rfl
@[simp] theorem ib_sub : intBin .sub k a b = some (.int k (k.wrap (a - b))) := rfl
@[simp] theorem ib_mul : intBin .mul k a b = some (.int k (k.wrap (a * b))) := rfl
@[simp] theorem ib_quo : intBin .quo k a b = if eqI b 0 = true then none else some (.int k (k.wrap (a.tdiv b))) := by simp [intBin, eqI]
@[simp] theorem ib_rem : intBin .rem k a b = if eqI b 0 = true then none else some (.int k (a.tmod b)) := by simp [intBin, eqI]
@[simp] theorem ib_eql : intBin .eql k a b = some (.bool (eqI a b)) := rfl
@[simp] theorem ib_neq : intBin .neq k a b = some (.bool (!eqI a b)) := rfl
@[simp] theorem ib_lss : intBin .lss k a b = some (.bool (ltI a b)) := rfl
@[simp] theorem ib_gtr : intBin .gtr k a b = some (.bool (ltI b a)) := rfl
@[simp] theorem ib_leq : intBin .leq k a b = some (.bool (!ltI b a)) := by simp [intBin, ltI, ← Int.not_lt]
@[simp] theorem ib_geq : intBin .geq k a b = some (.bool (!ltI a b)) := by simp [intBin, ltI, ← Int.not_lt]
@[simp] theorem ib_xor : intBin .xor k a b = some (.int k (k.wrap ((BitVec.ofInt k.bits a ^^^ BitVec.ofInt k.bits b).toNat))) := rfl
@[simp] theorem ib_and : intBin .and k a b = some (.int k (k.wrap ((BitVec.ofInt k.bits a &&& BitVec.ofInt k.bits b).toNat))) := rfl
end
@[simp] theorem sb_eql (a b : List UInt8) : strBin .eql a b = some (.bool (eqS a b)) := rfl
@[simp] theorem sb_neq (a b : List UInt8) : strBin .neq a b = some (.bool (!eqS a b)) := rfl
@[simp] theorem sb_add (a b : List UInt8) : strBin .add a b = if a.length + b.length ≤ 4611686018427387904 then some (.str (a ++ b)) else none := rfl
@[simp] theorem leafEq_int (k k' : IntKind) (a b : Int) : leafEq (.int k a) (.int k' b) = if k = k' then some (eqI a b) else none := rfl
@[simp] theorem leafEq_bool (a b : Bool) : leafEq (.bool a) (.bool b) = some (a == b) := rfl
@[simp] theorem leafEq_str (a b : List UInt8) : leafEq (.str a) (.str b) = some (eqS a b) := rfl
def wI (n : Int) : Prop := -9223372036854775808 ≤ n ∧ n ≤ 9223372036854775807
theorem wrap64 {n : Int} (h : -9223372036854775808 ≤ n ∧ n ≤ 9223372036854775807) : IntKind.i64.wrap n = n := by
  have h1 : IntKind.i64.min = -9223372036854775808 := by decide
  have h2 : IntKind.i64.max = 9223372036854775807 := by decide
  simp only [IntKind.wrap]
  simp only [IntKind.signed, IntKind.bits, if_true]
  first | (rw [Int.bmod_eq_of_le] <;> omega) | (simp; omega) | omega
/-! operands, temporaries -/
@[simp] theorem opnd_tmp (E : Env) (s : St) (t : Nat) : opnd E s (.tmp t) = look s.V t := rfl
@[simp] theorem opnd_int (E : Env) (s : St) (k : IntKind) (n : Int) : opnd E s (.const (.int k n)) = .v .ro false [.int k n] := rfl
@[simp] theorem opnd_bool (E : Env) (s : St) (b : Bool) : opnd E s (.const (.bool b)) = .v .ro false [.bool b] := rfl
@[simp] theorem opnd_string (E : Env) (s : St) (b : ByteArray) : opnd E s (.const (.string b)) = .v .ro false [.str b.data.toList] := rfl
@[simp] theorem opnd_nil (E : Env) (s : St) : opnd E s (.const (.slice none 0 0)) = .nil := rfl
@[simp] theorem opnd_func (E : Env) (s : St) (f : Nat) : opnd E s (.func f) = .v .ro false [.fn f []] := rfl
@[simp] theorem look_cons (u : Nat) (a : AV) (r : List (Nat × AV)) (t : Nat) : look ((u, a) :: r) t = if u = t then a else look r t := rfl
@[simp] theorem look_nil (t : Nat) : look [] t = .dead := rfl
@[simp] theorem lookH_cons (u : Root) (a : HC) (r : List (Root × HC)) (t : Root) : lookH ((u, a) :: r) t = if u = t then some a else lookH r t := rfl
@[simp] theorem lookH_nil (t : Root) : lookH [] t = none := rfl
@[simp] theorem put_some (s : St) (d : Nat) (a : AV) : s.put (some d) a = { V := (d, a) :: s.V, H := s.H, ps := s.ps } := rfl
@[simp] theorem put_none (s : St) (a : AV) : s.put none a = s := rfl
@[simp] theorem isOwn_own : M.own.isOwn = true := by simp [M.isOwn]
@[simp] theorem isOwn_ro : M.ro.isOwn = false := by simp [M.isOwn]
@[simp] theorem isOwn_tn : M.tn.isOwn = false := by simp [M.isOwn]
@[simp] theorem isTn_own : M.own.isTn = false := by simp [M.isTn]
@[simp] theorem isTn_ro : M.ro.isTn = false := by simp [M.isTn]
@[simp] theorem isTn_tn : M.tn.isTn = true := by simp [M.isTn]
@[simp] theorem own_join (m : M) : M.own.join m = m := rfl
@[simp] theorem join_own (m : M) : m.join .own = m := by cases m <;> rfl
@[simp] theorem join_ro_ro : M.ro.join .ro = .ro := rfl
@[simp] theorem join_ro_tn : M.ro.join .tn = .tn := rfl
@[simp] theorem join_tn (m : M) : M.tn.join m = .tn := by cases m <;> rfl
@[simp] theorem join_self (m : M) : m.join m = m := by cases m <;> rfl
@[simp] theorem fz_own : M.own.fz = .ro := rfl
@[simp] theorem fz_ro : M.ro.fz = .ro := rfl
@[simp] theorem fz_tn : M.tn.fz = .tn := rfl
theorem notOwn {m : M} (h : m.isOwn = false) : m = .ro ∨ m = .tn := by cases m <;> simp_all
attribute [simp] St.putH L.flat modeOf deadened HC.okAt HC.okAd HC.writable HC.bump HC.set HC.reset place setRange setPlace evLoad evStore evBin evUn evFieldAddr evField evIndexAddr evIndex evLen evSlice evConv evMakeSlice
  intOfAV boundOf ptrAdd addOff addHop St.getAt St.getAd St.peek St.embed St.new St.mkBox binL shiftBin cellsEq leafFits shapeFs shapeT minMax fillCells fieldPl chunk cap1 evCaps boxK buildK bsK evAppend isRowTy srcRows rowsOk flatRows
  callFn moveArgs gotOf argsOf argOf noClash giveBack freezeAll RV.tainted RV.clean mkRV mkRVs putAns Arg.isTn
  canon inPs St.norm addRen renOf ren1 AV.ren keepH enterArg enter evResult evResults outsOf guardT
theorem evBody_of (E : Env) (K : Fns) (f : FuncId) (fn : Func) (c : Code) (rs : List ResultVar) (args : List Arg) (hf : E.P.funcs[f]? = some fn) (hc : fn.body = some c) (hr : fn.results.toList = rs)
    (hl : args.length = fn.params.size + fn.nfree ∧ args.length ≤ fn.ntmps) :
    evBody E K f args = match evCode E K f c (enter 0 args) with
        | some (.normal, s) | some (.ret, s) =>
          match evResults E (E.fz f) rs s with
          | some (rs, s') => (outsOf s' args 0).map fun outs => { rs, outs }
          | none => none
        | _ => none := by
  unfold evBody
  simp only [hf, hc, hr]
  rw [if_pos hl]
  rfl

@[simp] theorem st_P (E : Env) : E.st.P = E.P := rfl
@[simp] theorem st_sig (E : Env) : E.st.sig = E.sig := rfl
@[simp] theorem st_glob (E : Env) : E.st.glob = E.glob := rfl
@[simp] theorem st_fz (E : Env) : E.st.fz = E.fz := rfl
@[simp] theorem st_strict (E : Env) : E.st.strict = true := rfl
attribute [simp] apartOk apart2 notF opTouch opLooks opWr rootsAV root1 rootsArgs Op.operands Call.operands
/-! loops by their place -/
def loopsOf : Code → List Code
  | .seq a b => loopsOf a ++ loopsOf b
  | .cond _ a b => loopsOf a ++ loopsOf b
  | .block _ a => loopsOf a
  | .loop a => a :: loopsOf a
  | _ => []
def lp (f : Func) (k : Nat) : Code := match f.body with | some c => (loopsOf c).getD k .skip | none => .skip
theorem loopC_of (E : Env) (K : Fns) (f : FuncId) (s : St) {a c : Code} (h : a = c) : loopC E K f a s = thenK (evCode E K f c s) (loopC E K f a) := by subst h; exact loopC_eq _ _ _ _ _
end Go.Ev
