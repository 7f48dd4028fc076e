/- My texts joined: EvC. No condition. -/
import Derived.Test.YtngbcdcghbapnaaGreatDoorEn1
set_option linter.unusedVariables false
set_option linter.unusedSimpArgs false

namespace Go.Ev
def thenK (r:Option (Ex × St)) (k:St→Option (Ex × St)):Option (Ex × St) :=
 match r with
 | some (.normal,s)=>k s
 | r=>r
@[simp] theorem thenK_normal (s:St) (k:St→Option (Ex × St)):thenK (some (.normal,s)) k=k s:=rfl
@[simp] theorem thenK_exit (i:Nat) (s:St) (k:St→Option (Ex × St)):thenK (some (.exit i,s)) k=some (.exit i,s):=rfl
@[simp] theorem thenK_ret (s:St) (k:St→Option (Ex × St)):thenK (some (.ret,s)) k=some (.ret,s):=rfl
@[simp] theorem thenK_none (k:St→Option (Ex × St)):thenK none k=none:=rfl
def blockK (id:Nat) (r:Option (Ex × St)):Option (Ex × St) :=
 match r with
 | some (.exit id',s')=>if id'=id then some (.normal,s') else some (.exit id',s')
 | r=>r
@[simp] theorem blockK_normal (id:Nat) (s:St):blockK id (some (.normal,s))=some (.normal,s):=rfl
@[simp] theorem blockK_ret (id:Nat) (s:St):blockK id (some (.ret,s))=some (.ret,s):=rfl
@[simp] theorem blockK_exit (id i:Nat) (s:St):blockK id (some (.exit i,s))=if i=id then some (.normal,s) else some (.exit i,s):=rfl
@[simp] theorem blockK_none (id:Nat):blockK id none=none:=rfl
def condK (a:AV) (x y:St→Option (Ex × St)) (s:St):Option (Ex × St) :=
 match a with
 | .v _ false [.bool q]=>if q then x s else y s
 | _=>none
@[simp] theorem condK_bool (m:M) (q:Bool) (x y:St→Option (Ex × St)) (s:St):condK (.v m false [.bool q]) x y s=if q=true then x s else y s:=rfl
@[simp] theorem ite_isFalse {α:Sort _} (q:Bool) (x y:α):(if q=false then x else y)=if q=true then y else x:=by cases q<;>rfl
@[simp] theorem ite_isNot {α:Sort _} (q:Bool) (x y:α):(if ¬ q=true then x else y)=if q=true then y else x:=by cases q<;>rfl
noncomputable def loopC (E:Env) (K:Fns) (f:FuncId) (a:Code) (s:St):Option (Ex × St):=loopLim (evCode E K f a) s
def regK (live:List Nat) (r:Option St):Option (Ex × St):=r.map fun s'=>(.normal,canon live s')
@[simp] theorem regK_some (live:List Nat) (s:St):regK live (some s)=some (.normal,canon live s):=rfl
@[simp] theorem regK_none (live:List Nat):regK live none=none:=rfl
def opsK (r:Option St) (k:St→Option St):Option St:=r.bind k
@[simp] theorem opsK_some (s:St) (k:St→Option St):opsK (some s) k=k s:=rfl
@[simp] theorem opsK_none (k:St→Option St):opsK none k=none:=rfl
section
variable (E:Env) (K:Fns) (f:FuncId) (fz:List Nat) (s:St)
@[simp] theorem evCode_skip:evCode E K f .skip s=some (.normal,s):=rfl
@[simp] theorem evCode_label (l:Nat):evCode E K f (.label l) s=some (.normal,s):=rfl
@[simp] theorem evCode_exit (i:Nat):evCode E K f (.exit i) s=some (.exit i,s):=rfl
@[simp] theorem evCode_ret:evCode E K f .ret s=some (.ret,s):=rfl
@[simp] theorem evCode_seq (a b:Code):evCode E K f (.seq a b) s=thenK (evCode E K f a s) (evCode E K f b):=rfl
@[simp] theorem evCode_block (i:Nat) (a:Code):evCode E K f (.block i a) s=blockK i (evCode E K f a s):=rfl
@[simp] theorem evCode_cond (c:Operand) (a b:Code):evCode E K f (.cond c a b) s=condK (opnd E s c) (evCode E K f a) (evCode E K f b) s:=rfl
@[simp] theorem evCode_loop (a:Code):evCode E K f (.loop a) s=loopC E K f a s:=rfl
@[simp] theorem evCode_region (i:Nat) (ops:List Oper):evCode E K f (.region i ⟨ops⟩ false) s=regK (E.live f i) (evOps E K ⟨ops⟩ (E.fz f) ops s):=rfl
def drawK (conf:List (Nat × Nat)) (r:Option (List (List Root × List Root × Nat) × St)):Option St :=
 match r with
 | some (tr,s')=>if apartOk tr conf then some s' else none
 | none=>none
@[simp] theorem drawK_some (conf:List (Nat × Nat)) (tr:List (List Root × List Root × Nat)) (s:St):drawK conf (some (tr,s))=if apartOk tr conf then some s else none:=rfl
@[simp] theorem drawK_none (conf:List (Nat × Nat)):drawK conf none=none:=rfl
@[simp] theorem evCode_draw (i:Nat) (ops:List Oper):evCode E K f (.region i ⟨ops⟩ true) s=regK (E.live f i) (drawK (E.conf f i) (evOpsT E.st K ⟨ops⟩ (E.fz f) ops s)):=rfl
theorem loopC_eq (a:Code):loopC E K f a s=thenK (evCode E K f a s) (loopC E K f a):=by
 unfold loopC
 rw [loopLim_eq]
 cases evCode E K f a s with
 | none=>rfl
 | some x=>obtain ⟨e,s'⟩:=x;cases e<;>rfl
variable (ops:Array Oper)
def trK (x:List Root × List Root × Nat) (r:Option (List (List Root × List Root × Nat) × St)):Option (List (List Root × List Root × Nat) × St):=r.map fun q=>(x::q.1,q.2)
@[simp] theorem trK_some (x:List Root × List Root × Nat) (tr:List (List Root × List Root × Nat)) (s:St):trK x (some (tr,s))=some (x::tr,s):=rfl
@[simp] theorem trK_none (x:List Root × List Root × Nat):trK x none=none:=rfl
def stepT (E:Env) (K:Fns) (ops:Array Oper) (fz:List Nat) (x:List Root × List Root × Nat) (os:List Oper) (r:Option St):Option (List (List Root × List Root × Nat) × St) :=
 match r with
 | some s'=>trK x (evOpsT E K ops fz os s')
 | none=>none
@[simp] theorem stepT_some (x:List Root × List Root × Nat) (os:List Oper) (s':St):stepT E K ops fz x os (some s')=trK x (evOpsT E K ops fz os s'):=rfl
@[simp] theorem stepT_none (x:List Root × List Root × Nat) (os:List Oper):stepT E K ops fz x os none=none:=rfl
@[simp] theorem evOpsT_nil:evOpsT E K ops fz [] s=some ([],s):=rfl
@[simp] theorem evOpsT_cons (o:Oper) (os:List Oper):evOpsT E K ops fz (o::os) s=stepT E K ops fz (opTouch E s o,opWr E s o,o.dst.getD 0) os (evG E K ops fz o s):=by
 simp only [evOpsT]
 cases evG E K ops fz o s with
 | none=>rfl
 | some s' =>
  simp only [stepT,trK]
  cases evOpsT E K ops fz os s'<;>rfl
@[simp] theorem evOps_nil:evOps E K ops fz [] s=some s:=rfl
@[simp] theorem evOps_cons (o:Oper) (os:List Oper):evOps E K ops fz (o::os) s=opsK (evG E K ops fz o s) (evOps E K ops fz os):=by
 rw [evOps,opsK];cases evG E K ops fz o s<;>rfl
def guardK (a:AV) (want:Bool) (x y:Option St):Option St :=
 match a with
 | .v _ false [.bool b]=>if b=want then x else y
 | .tup []=>y
 | _=>none
@[simp] theorem guardK_u (want:Bool) (x y:Option St):guardK (.tup []) want x y=y:=rfl
@[simp] theorem guardK_t (m:M) (b:Bool) (x y:Option St):guardK (.v m false [.bool b]) true x y=if b=true then x else y:=rfl
@[simp] theorem guardK_f (m:M) (b:Bool) (x y:Option St):guardK (.v m false [.bool b]) false x y=if b=true then y else x:=by cases b<;>rfl
@[simp] theorem evG_none (d:Option Tmp) (op:Op) (t:TypeId) (ps:String) (af:Array Edge):evG E K ops fz ⟨d,op,t,ps,af,none⟩ s=evOp E K fz ⟨d,op,t,ps,af,none⟩ s:=rfl
def guardT (ops:Array Oper) (j:Nat):Option Nat:=(ops[j]?).bind (·.dst)
def evGK (E:Env) (K:Fns) (fz:List Nat) (o:Oper) (s:St) (want:Bool) (t:Option Nat):Option St :=
 match t with
 | some t =>
  match look s.V t with
  | .v _ false [.bool b]=>if b=want then evOp E K fz o s else some (s.put o.dst (.tup []))
  | .tup []=>some (s.put o.dst (.tup []))
  | _=>none
 | none=>none
@[simp] theorem evGK_bool (E:Env) (K:Fns) (fz:List Nat) (o:Oper) (s:St) (want:Bool) (t:Nat):evGK E K fz o s want (some t)=guardK (look s.V t) want (evOp E K fz o s) (some (s.put o.dst (.tup []))):=rfl
@[simp] theorem evG_some (d:Option Tmp) (op:Op) (t:TypeId) (ps:String) (af:Array Edge) (j:Nat) (want:Bool) :
  evG E K ops fz ⟨d,op,t,ps,af,some (j,want)⟩ s=evGK E K fz ⟨d,op,t,ps,af,some (j,want)⟩ s want (guardT ops j):=rfl
variable (d:Option Tmp) (ty:TypeId) (ps:String) (af:Array Edge) (g:Option (Nat × Bool))
@[simp] theorem evOp_move (x:Operand):evOp E K fz ⟨d,.move x,ty,ps,af,g⟩ s=some (s.put d (opnd E s x)):=rfl
@[simp] theorem evOp_assign (x:Operand):evOp E K fz ⟨d,.assign x,ty,ps,af,g⟩ s=some (s.put d (opnd E s x)):=rfl
@[simp] theorem evOp_load (t:TypeId) (a:Operand):evOp E K fz ⟨d,.load t a,ty,ps,af,g⟩ s=(evLoad E t (opnd E s a) s).map (s.put d):=rfl
@[simp] theorem evOp_binOp (op:BinOp) (t t':TypeId) (x y:Operand):evOp E K fz ⟨d,.binOp op t x y t',ty,ps,af,g⟩ s=(evBinO E op t y (opnd E s x) (opnd E s y)).map (s.put d):=rfl
@[simp] theorem evBinO_tmp (op:BinOp) (t:TypeId) (k:Nat) (a b:AV):evBinO E op t (.tmp k) a b=evBin E op t a b:=rfl
@[simp] theorem evBinO_int (op:BinOp) (t:TypeId) (k:IntKind) (n:Int) (a b:AV):evBinO E op t (.const (.int k n)) a b=evBin E op t a b:=rfl
@[simp] theorem evBinO_bool (op:BinOp) (t:TypeId) (q:Bool) (a b:AV):evBinO E op t (.const (.bool q)) a b=evBin E op t a b:=rfl
@[simp] theorem evBinO_str (op:BinOp) (t:TypeId) (q:ByteArray) (a b:AV):evBinO E op t (.const (.string q)) a b=evBin E op t a b:=rfl
@[simp] theorem evBinO_slice (op:BinOp) (t:TypeId) (p:Option Addr) (n c:Nat) (a b:AV):evBinO E op t (.const (.slice p n c)) a b=evBin E op t a b:=rfl
@[simp] theorem evBinO_nil (op:BinOp) (t:TypeId) (a b:AV):evBinO E op t (.const .nilIface) a b=evNil E op t a:=rfl
@[simp] theorem evOp_unOp (op:UnOp) (t:TypeId) (x:Operand):evOp E K fz ⟨d,.unOp op t x,ty,ps,af,g⟩ s=(evUn op (opnd E s x)).map (s.put d):=rfl
@[simp] theorem evOp_fieldAddr (t:TypeId) (x:Operand) (i:Nat):evOp E K fz ⟨d,.fieldAddr t x i,ty,ps,af,g⟩ s=(evFieldAddr E t (opnd E s x) i s).map (s.put d):=rfl
@[simp] theorem evOp_field (t:TypeId) (x:Operand) (i:Nat):evOp E K fz ⟨d,.field t x i,ty,ps,af,g⟩ s=(evField E t (opnd E s x) i s).map (s.put d):=rfl
@[simp] theorem evOp_indexAddr (t:TypeId) (x i:Operand):evOp E K fz ⟨d,.indexAddr t x i,ty,ps,af,g⟩ s=(evIndexAddr E t (opnd E s x) (opnd E s i) s).map (s.put d):=rfl
@[simp] theorem evOp_index (t:TypeId) (x i:Operand):evOp E K fz ⟨d,.index t x i,ty,ps,af,g⟩ s=(evIndex E t (opnd E s x) (opnd E s i)).map (s.put d):=rfl
@[simp] theorem evOp_call (c:Call):evOp E K fz ⟨d,.call c,ty,ps,af,g⟩ s=evCallOp E K c d s:=rfl
def pickK (c a b:AV) (d:Option Nat) (s:St):Option St :=
 match c with
 | .v _ false [.bool q]=>match (if q then a else b) with | .v m agg ls=>some (s.put d (.v m agg ls)) | _=>none
 | _=>none
def vK (a:AV) (d:Option Nat) (s:St):Option St:=match a with | .v m agg ls=>some (s.put d (.v m agg ls)) | _=>none
@[simp] theorem vK_v (m:M) (ag:Bool) (ls:List L):vK (.v m ag ls) d s=some (s.put d (.v m ag ls)):=rfl
@[simp] theorem pickK_bool (m:M) (q:Bool) (a b:AV):pickK (.v m false [.bool q]) a b d s=if q=true then vK a d s else vK b d s:=by cases q<;>rfl
@[simp] theorem evOp_pick (c a b:Operand):evOp E K fz ⟨d,.pick c a b,ty,ps,af,g⟩ s=pickK (opnd E s c) (opnd E s a) (opnd E s b) d s:=rfl
@[simp] theorem evOp_extract (x:Operand) (k:Nat):evOp E K fz ⟨d,.extract x k,ty,ps,af,g⟩ s=(match opnd E s x with | .tup xs=>(xs[k]?).map (s.put d) | _=>none):=by
 simp only [evOp];rfl
@[simp] theorem evOp_alloc (t:TypeId):evOp E K fz ⟨d,.alloc t,ty,ps,af,g⟩ s=(tiOf E.P t).map fun ti=>(s.mkBox (.f (d.getD 0) 1) .own ti.zero).2.put d (s.mkBox (.f (d.getD 0) 1) .own ti.zero).1:=rfl
@[simp] theorem evOp_store (t:TypeId) (a x:Operand):evOp E K fz ⟨d,.store t a x,ty,ps,af,g⟩ s=(evStore E t (opnd E s a) (opnd E s x) (match x with | .tmp t=>fz.contains t | _=>false) s).map fun s'=>s'.put d .dead:=rfl
@[simp] theorem evOp_nilCheck (x:Operand):evOp E K fz ⟨d,.nilCheck x,ty,ps,af,g⟩ s=(match opnd E s x with | .ad r k0 k1 off hops=>(s.getAd r k0 k1 off hops).map fun _=>s.put d (.ad r k0 k1 off hops) | .v m false [.ref ls]=>some (s.put d (.v m false [.ref ls])) | _=>none):=rfl
@[simp] theorem evOp_convert (a b:TypeId) (x:Operand):evOp E K fz ⟨d,.convert a b x,ty,ps,af,g⟩ s=(evConv E a b (opnd E s x) (d.getD 0) s).map fun r=>r.2.put d r.1:=rfl
@[simp] theorem evOp_slice (t:TypeId) (x:Operand) (lo hi:Option Operand):evOp E K fz ⟨d,.slice t x lo hi none,ty,ps,af,g⟩ s=if boxFz fz d=true then (evWin E t (opnd E s x) (lo.map (opnd E s)) (hi.map (opnd E s)) s).map (s.put d) else (evSlice E t (opnd E s x) (lo.map (opnd E s)) (hi.map (opnd E s)) s).map fun r=>r.2.put d r.1:=rfl
@[simp] theorem evOp_makeSlice (t:TypeId) (l c:Operand):evOp E K fz ⟨d,.makeSlice t l c,ty,ps,af,g⟩ s=(evMakeSlice E t (opnd E s l) (opnd E s c) (d.getD 0) s).map fun r=>r.2.put d r.1:=rfl
@[simp] theorem evOp_makeFunc (f:FuncId) (cs:List Operand):evOp E K fz ⟨d,.makeFunc (.func f) ⟨[]⟩ ⟨cs⟩,ty,ps,af,g⟩ s=(evCaps (cs.map (opnd E s)) s).map fun r=>r.2.put d (.v .ro false [.fn f r.1]):=rfl
def boxK (fz:Bool) (ti:Option TI) (x:Option (M × Bool × List L × St)) (d:Option Nat):Option St :=
 match ti,x with
 | some ti,some (m,_,ls,s') =>
  if ls.length=ti.size then
   if fz=true then (cap1 (s'.mkBox (.f (d.getD 0) 1) m ls).2 (s'.mkBox (.f (d.getD 0) 1) m ls).1).map fun q=>q.2.put d (.v .ro false [q.1])
   else some ((s'.mkBox (.f (d.getD 0) 1) m ls).2.put d (s'.mkBox (.f (d.getD 0) 1) m ls).1)
  else none
 | _,_=>none
@[simp] theorem evOp_box (t:TypeId) (x:Operand):evOp E K fz ⟨d,.box t x,ty,ps,af,g⟩ s=boxK (boxFz fz d) (tiOf E.P t) (s.embed (match x with | .tmp t=>fz.contains t | _=>false) (opnd E s x)) d:=rfl
attribute [simp] boxFz
def buildK (r:Option (M × List L × St)) (d:Option Nat):Option St :=
 match r with
 | some (m,ls,s')=>some ((s'.new (.f (d.getD 0) 1) m true ls).2.put d (s'.new (.f (d.getD 0) 1) m true ls).1)
 | none=>none
@[simp] theorem evOp_build (t:TypeId) (parts:List (Nat × Operand)):evOp E K fz ⟨d,.build t ⟨parts⟩,ty,ps,af,g⟩ s =
  match tiOf E.P t with
  | some ti=>buildK (match ti.td with
    | .struct fs=>if fs.all (fun f=>(tiOf E.P f.2).isSome) then fillCells E (fieldPl E.P fs) fz ti.zero .own parts s else none
    | .arr _ e=>match tiOf E.P e with | some ei=>fillCells E (fun i=>some (i*ei.size,ei.size)) fz ti.zero .own parts s | none=>none
    | _=>none) d
  | none=>none:=rfl
def bsK (n sz:Nat) (r:Option (M × List L × St)) (d:Option Nat):Option St :=
 match r with
 | some (m,ls,s') =>
  some ((if m.isOwn then s'.new (.f (d.getD 0) 1) .own false [.sl (chunk sz n ls)] else (.v m false [.sl (chunk sz n ls)],s')).2.put d
   (if m.isOwn then s'.new (.f (d.getD 0) 1) .own false [.sl (chunk sz n ls)] else (.v m false [.sl (chunk sz n ls)],s')).1)
 | none=>none
@[simp] theorem evOp_buildSlice (t:TypeId) (n:Nat) (parts:List (Nat × Operand)):evOp E K fz ⟨d,.buildSlice t n ⟨parts⟩,ty,ps,af,g⟩ s =
  match tiOf E.P t with
  | some ti =>
   match ti.td with
   | .slice e =>
    match tiOf E.P e with
    | some ei =>
     if n*ei.size≤65536∧0<ei.size then
      bsK n ei.size (fillCells E (fun i=>some (i*ei.size,ei.size)) fz (List.replicate n ei.zero).flatten .own parts s) d
     else none
    | none=>none
   | _=>none
  | none=>none:=rfl
def ownK (E:Env) (K:Fns) (a:AV) (zs:List AV) (d:Option Nat) (s:St):Option St :=
 match a with
 | .v m false [.fn g caps]=>callFn E K g (zs++caps.map fun l=>.v m false [l]) d s
 | _=>none
@[simp] theorem evCallOp_value (f:Operand) (zs:List Operand) (ts:Array TypeId):evCallOp E K ⟨.value f,⟨zs⟩,ts⟩ d s=ownK E K (opnd E s f) (zs.map (opnd E s)) d s:=rfl
@[simp] theorem ownK_fn (m:M) (g:FuncId) (caps:List L) (zs:List AV):ownK E K (.v m false [.fn g caps]) zs d s=callFn E K g (zs++caps.map fun l=>.v m false [l]) d s:=rfl
@[simp] theorem evCallOp_len (x:Operand) (t:TypeId) (ts:List TypeId):evCallOp E K ⟨.builtin .len,⟨[x]⟩,⟨t::ts⟩⟩ d s=(evLen E t (opnd E s x) s).map (s.put d):=rfl
@[simp] theorem evCallOp_append (x y:Operand) (ts:List TypeId):evCallOp E K ⟨.builtin .append,⟨[x,y]⟩,⟨ts⟩⟩ d s=(evAppend E ts (opnd E s x) (opnd E s y) (d.getD 0) s).map fun r=>r.2.put d r.1:=rfl
@[simp] theorem evCallOp_copy (x y:Operand) (ts:List TypeId):evCallOp E K ⟨.builtin .copy,⟨[x,y]⟩,⟨ts⟩⟩ d s=(evCopy E ts (opnd E s x) (opnd E s y) s).map fun r=>r.2.put d r.1:=rfl
@[simp] theorem evCallOp_min (x y:Operand) (ts:List TypeId):evCallOp E K ⟨.builtin .min,⟨[x,y]⟩,⟨ts⟩⟩ d s=(minMax false [opnd E s x,opnd E s y]).map (s.put d):=rfl
@[simp] theorem evCallOp_max (x y:Operand) (ts:List TypeId):evCallOp E K ⟨.builtin .max,⟨[x,y]⟩,⟨ts⟩⟩ d s=(minMax true [opnd E s x,opnd E s y]).map (s.put d):=rfl
end
def ltI (a b:Int):Bool:=decide (a<b)
def eqI (a b:Int):Bool:=a==b
def eqS (a b:List UInt8):Bool:=a==b
theorem ltI_iff {a b:Int}:ltI a b=true↔a<b:=by simp [ltI]
theorem ltI_not {a b:Int}:ltI a b=false↔b≤a:=by simp [ltI]
theorem eqI_iff {a b:Int}:eqI a b=true↔a=b:=by simp [eqI]
theorem eqI_not {a b:Int}:eqI a b=false↔a≠b:=by simp [eqI]
theorem eqS_iff {a b:List UInt8}:eqS a b=true↔a=b:=by simp [eqS]
theorem eqS_not {a b:List UInt8}:eqS a b=false↔a≠b:=by simp [eqS]
@[simp] theorem ltI_true {a b:Int} (h:a<b):ltI a b=true:=by simp [ltI,h]
@[simp] theorem ltI_false {a b:Int} (h:b≤a):ltI a b=false:=by simp [ltI,h]
@[simp] theorem eqI_self (a:Int):eqI a a=true:=by simp [eqI]
@[simp] theorem eqI_false {a b:Int} (h:¬ a=b):eqI a b=false:=by simp [eqI,h]
@[simp] theorem eqS_self (a:List UInt8):eqS a a=true:=by simp [eqS]
@[simp] theorem eqS_false {a b:List UInt8} (h:¬ a=b):eqS a b=false:=by simp [eqS,h]
section
variable (k:IntKind) (a b:Int)
@[simp] theorem ib_add:intBin .add k a b=some (.int k (k.wrap (a+b))):=rfl
@[simp] theorem ib_sub:intBin .sub k a b=some (.int k (k.wrap (a - b))):=rfl
@[simp] theorem ib_mul:intBin .mul k a b=some (.int k (k.wrap (a*b))):=rfl
@[simp] theorem ib_quo:intBin .quo k a b=if eqI b 0=true then none else some (.int k (k.wrap (a.tdiv b))):=by simp [intBin,eqI]
@[simp] theorem ib_rem:intBin .rem k a b=if eqI b 0=true then none else some (.int k (a.tmod b)):=by simp [intBin,eqI]
@[simp] theorem ib_eql:intBin .eql k a b=some (.bool (eqI a b)):=rfl
@[simp] theorem ib_neq:intBin .neq k a b=some (.bool (!eqI a b)):=rfl
@[simp] theorem ib_lss:intBin .lss k a b=some (.bool (ltI a b)):=rfl
@[simp] theorem ib_gtr:intBin .gtr k a b=some (.bool (ltI b a)):=rfl
@[simp] theorem ib_leq:intBin .leq k a b=some (.bool (!ltI b a)):=by simp [intBin,ltI,← Int.not_lt]
@[simp] theorem ib_geq:intBin .geq k a b=some (.bool (!ltI a b)):=by simp [intBin,ltI,← Int.not_lt]
@[simp] theorem ib_xor:intBin .xor k a b=some (.int k (k.wrap ((BitVec.ofInt k.bits a ^^^ BitVec.ofInt k.bits b).toNat))):=rfl
@[simp] theorem ib_and:intBin .and k a b=some (.int k (k.wrap ((BitVec.ofInt k.bits a &&& BitVec.ofInt k.bits b).toNat))):=rfl
end
@[simp] theorem sb_eql (a b:List UInt8):strBin .eql a b=some (.bool (eqS a b)):=rfl
@[simp] theorem sb_neq (a b:List UInt8):strBin .neq a b=some (.bool (!eqS a b)):=rfl
@[simp] theorem sb_add (a b:List UInt8):strBin .add a b=if a.length+b.length≤4611686018427387904 then some (.str (a++b)) else none:=rfl
@[simp] theorem leafEq_int (k k':IntKind) (a b:Int):leafEq (.int k a) (.int k' b)=if k=k' then some (eqI a b) else none:=rfl
@[simp] theorem leafEq_bool (a b:Bool):leafEq (.bool a) (.bool b)=some (a==b):=rfl
@[simp] theorem leafEq_str (a b:List UInt8):leafEq (.str a) (.str b)=some (eqS a b):=rfl
theorem wrap64 {n:Int} (h:-9223372036854775808≤n∧n≤9223372036854775807):IntKind.i64.wrap n=n:=by
 have h1:IntKind.i64.min=-9223372036854775808:=by decide
 have h2:IntKind.i64.max=9223372036854775807:=by decide
 simp only [IntKind.wrap]
 simp only [IntKind.signed,IntKind.bits,if_true]
 first | (rw [Int.bmod_eq_of_le]<;>omega) | (simp;omega) | omega
@[simp] theorem opnd_tmp (E:Env) (s:St) (t:Nat):opnd E s (.tmp t)=look s.V t:=rfl
@[simp] theorem opnd_int (E:Env) (s:St) (k:IntKind) (n:Int):opnd E s (.const (.int k n))=.v .ro false [.int k n]:=rfl
@[simp] theorem opnd_bool (E:Env) (s:St) (b:Bool):opnd E s (.const (.bool b))=.v .ro false [.bool b]:=rfl
@[simp] theorem opnd_string (E:Env) (s:St) (b:ByteArray):opnd E s (.const (.string b))=.v .ro false [.str b.data.toList]:=rfl
@[simp] theorem opnd_nil (E:Env) (s:St):opnd E s (.const (.slice none 0 0))=.nil:=rfl
@[simp] theorem opnd_func (E:Env) (s:St) (f:Nat):opnd E s (.func f)=.v .ro false [.fn f []]:=rfl
@[simp] theorem look_cons (u:Nat) (a:AV) (r:List (Nat × AV)) (t:Nat):look ((u,a)::r) t=if u=t then a else look r t:=rfl
@[simp] theorem look_nil (t:Nat):look [] t=.dead:=rfl
@[simp] theorem lookH_cons (u:Root) (a:HC) (r:List (Root × HC)) (t:Root):lookH ((u,a)::r) t=if u=t then some a else lookH r t:=rfl
@[simp] theorem lookH_nil (t:Root):lookH [] t=none:=rfl
@[simp] theorem put_some (s:St) (d:Nat) (a:AV):s.put (some d) a={ V:=(d,a)::s.V,H:=s.H,ps:=s.ps }:=rfl
@[simp] theorem put_none (s:St) (a:AV):s.put none a=s:=rfl
@[simp] theorem isOwn_own:M.own.isOwn=true:=by simp [M.isOwn]
@[simp] theorem isOwn_ro:M.ro.isOwn=false:=by simp [M.isOwn]
@[simp] theorem isOwn_tn:M.tn.isOwn=false:=by simp [M.isOwn]
@[simp] theorem isTn_own:M.own.isTn=false:=by simp [M.isTn]
@[simp] theorem isTn_ro:M.ro.isTn=false:=by simp [M.isTn]
@[simp] theorem isTn_tn:M.tn.isTn=true:=by simp [M.isTn]
@[simp] theorem own_join (m:M):M.own.join m=m:=rfl
@[simp] theorem join_own (m:M):m.join .own=m:=by cases m<;>rfl
@[simp] theorem join_ro_ro:M.ro.join .ro=.ro:=rfl
@[simp] theorem join_ro_tn:M.ro.join .tn=.tn:=rfl
@[simp] theorem join_tn (m:M):M.tn.join m=.tn:=by cases m<;>rfl
@[simp] theorem join_self (m:M):m.join m=m:=by cases m<;>rfl
@[simp] theorem fz_own:M.own.fz=.ro:=rfl
@[simp] theorem fz_ro:M.ro.fz=.ro:=rfl
@[simp] theorem fz_tn:M.tn.fz=.tn:=rfl
attribute [simp] St.putH L.flat modeOf deadened HC.keeps HC.okAt HC.okAd HC.writable HC.bump HC.set HC.reset place setRange setPlace evLoad St.fresh evStore evBin evNil nilOp evUn evFieldAddr evField evIndexAddr evIndex evLen evSlice evWin evCopy HC.setRows evConv evMakeSlice
 intOfAV boundOf ptrAdd addOff addHop St.getAt St.getAd St.peek St.embed St.new St.mkBox binL shiftBin cellsEq leafFits shapeFs shapeT minMax fillCells fieldPl chunk cap1 evCaps boxK buildK bsK evAppend isRowTy srcRows rowsOk flatRows
 callFn callWith probe Out.bad moveArgs gotOf argsOf argOf noClash giveBack freezeAll RV.tainted RV.clean mkRV mkRVs putAns Arg.isTn
 canon inPs St.norm addRen renOf ren1 AV.ren keepH enterArg enter evResult evResults outsOf guardT
theorem evBody_of (E:Env) (K:Fns) (f:FuncId) (fn:Func) (c:Code) (rs:List ResultVar) (args:List Arg) (hf:E.P.funcs[f]?=some fn) (hc:fn.body=some c) (hr:fn.results.toList=rs)
  (hl:args.length=fn.params.size+fn.nfree∧args.length≤fn.ntmps) :
  evBody E K f args=match evCode E K f c (enter 0 args) with
    | some (.normal,s) | some (.ret,s) =>
     match evResults E (E.fz f) rs s with
     | some (rs,s')=>(outsOf s' args 0).map fun outs=>{ rs,outs }
     | none=>none
    | _=>none:=by
 unfold evBody
 simp only [hf,hc,hr]
 rw [if_pos hl]
 rfl
@[simp] theorem st_P (E:Env):E.st.P=E.P:=rfl
@[simp] theorem st_alt2 (E:Env) (f:FuncId):E.st.alt2 f=E.alt2 f:=rfl
@[simp] theorem st_sig (E:Env):E.st.sig=E.sig:=rfl
@[simp] theorem st_glob (E:Env):E.st.glob=E.glob:=rfl
@[simp] theorem st_fz (E:Env):E.st.fz=E.fz:=rfl
@[simp] theorem st_strict (E:Env):E.st.strict=true:=rfl
attribute [simp] apartOk apart2 notF opTouch opLooks opWr rootsAV root1 rootsArgs asRoots callWr Op.operands Call.operands
def loopsOf:Code→List Code
 | .seq a b=>loopsOf a++loopsOf b
 | .cond _ a b=>loopsOf a++loopsOf b
 | .block _ a=>loopsOf a
 | .loop a=>a::loopsOf a
 | _=>[]
def lp (f:Func) (k:Nat):Code:=match f.body with | some c=>(loopsOf c).getD k .skip | none=>.skip
theorem loopC_of (E:Env) (K:Fns) (f:FuncId) (s:St) {a c:Code} (h:a=c):loopC E K f a s=thenK (evCode E K f c s) (loopC E K f a):=by subst h;exact loopC_eq _ _ _ _ _
end Go.Ev

