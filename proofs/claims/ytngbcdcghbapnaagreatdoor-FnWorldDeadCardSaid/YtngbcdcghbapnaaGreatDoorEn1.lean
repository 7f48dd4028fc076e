/- My texts joined: EvA, EvB, EvS1, EvS2, EvS3, EvS4, EvS5, EvS6, EvS7, EvS8, EvS9, EvS10, EvS11, EvS12, EvS13, EvS14, EvS15, EvS16. No condition. -/
import Derived.Calls
import Derived.Orders
import Derived.Below
import Derived.Laws.Rows
import Derived.Laws.CopyRow
import Derived.Laws.Strings
import Derived.Laws.Tables
import Derived.Laws.BytesArg
import Derived.Laws.AppendOwn
set_option linter.unusedVariables false
set_option linter.unusedSimpArgs false

namespace Go.Ev
inductive L where
  | int (k:IntKind) (n:Int)
  | bool (b:Bool)
  | str (s:List UInt8)
  | sl (xs:List (List L))
  | fn (f:FuncId) (caps:List L)
  | ref (ls:List L)
  | tag (p:Nat)
  | dead
def L.flat:L→Bool
  | .int .. | .bool _ | .str _ | .dead | .tag _=>true
  | _=>false
inductive M where
  | own | ro | tn
def M.join:M→M→M
  | .own,m=>m
  | m,.own=>m
  | .ro,m=>m
  | .tn,_=>.tn
def M.isOwn:M→Bool
  | .own=>true
  | _=>false
def M.isTn:M→Bool
  | .tn=>true
  | _=>false
def M.fz:M→M
  | .own=>.ro
  | m=>m
inductive TD where
  | int (k:IntKind)
  | bool
  | str
  | slice (e:TypeId)
  | arr (n:Nat) (e:TypeId)
  | struct (fs:List (Nat × TypeId))
  | other
structure TI where
  size:Nat
  bytes:Nat
  agg:Bool
  zero:List L
  td:TD
def zeroLeaf:Value→L
  | .int k n=>.int k n
  | .bool b=>.bool b
  | .string s=>.str s.data.toList
  | .slice none 0 0=>.sl []
  | _=>.dead
def tdOf:TypeDesc→TD
  | .int k=>.int k
  | .bool=>.bool
  | .string=>.str
  | .slice e=>.slice e
  | .array n e=>.arr n e
  | .struct fs=>.struct (fs.toList.map fun f=>(f.offset,f.type))
  | _=>.other
def TD.agg:TD→Bool
  | .arr .. | .struct _=>true
  | _=>false
def tiOf (P:Program) (t:TypeId):Option TI :=
  match P.info? t,P.underlying t with
  | some i,some d =>
    match i.zero with
    | some z=>if z.cells.size=i.size∧z.cells.toList.all Value.oneCell'=true∧((tdOf d).agg || i.size==1)=true∧0<i.size then some { size:=i.size,bytes:=i.bytes,agg:=(tdOf d).agg,zero:=z.cells.toList.map zeroLeaf,td:=tdOf d } else none
    | none=>none
  | _,_=>none
abbrev Hop:=Nat × Nat × Nat
def place (ls:List L):Nat→List Hop→Option (List L)
  | off,[]=>if off≤ls.length then some (ls.drop off) else none
  | off,(i,sz,o)::hs =>
    match ls[off]? with
    | some (.sl xs) =>
      match xs[i]? with
      | some row=>if row.length=sz then place row o hs else none
      | none=>none
    | _=>none
def setRange:List L→Nat→List L→List L
  | ls,_,[]=>ls
  | ls,off,x::xs=>setRange (ls.set off x) (off+1) xs
def setPlace (ls:List L) (off:Nat):List Hop→List L→List L
  | [],new=>setRange ls off new
  | (i,_,o)::hs,new =>
    match ls[off]? with
    | some (.sl xs)=>ls.set off (.sl (xs.set i (setPlace (xs.getD i []) o hs new)))
    | _=>ls
inductive Root where
  | p (i:Nat)
  | c (t:Nat)
  | f (d k:Nat)
  deriving DecidableEq
inductive AV where
  | dead
  | nil
  | v (m:M) (agg:Bool) (ls:List L)
  | at (r:Root) (k0 k1:Nat) (off:Nat) (hops:List Hop) (n:Nat) (agg:Bool)
  | ad (r:Root) (k0 k1:Nat) (off:Nat) (hops:List Hop)
  | win (r:Root) (k0 k1 off lo n:Nat)
  | tup (xs:List AV)
structure HC where
  box:Bool
  wr:Bool
  m:M
  ls:List L
  e0:Nat
  e1:Nat
  lz:Option (Nat × Nat):=none
structure St where
  V:List (Nat × AV)
  H:List (Root × HC)
  ps:List Nat
def look:List (Nat × AV)→Nat→AV
  | [],_=>.dead
  | (u,a)::r,t=>if u=t then a else look r t
def lookH:List (Root × HC)→Root→Option HC
  | [],_=>none
  | (u,h)::r,x=>if u=x then some h else lookH r x
def St.put (s:St) (d:Option Nat) (a:AV):St :=
  match d with
  | some d=>{ s with V:=(d,a)::s.V }
  | none=>s
def St.putH (s:St) (r:Root) (h:HC):St:={ s with H:=(r,h)::s.H }
def HC.keeps (h:HC) (off n:Nat):Bool :=
  match h.lz with
  | some (a,m)=>decide (a+m≤off) || decide (off+n≤a)
  | none=>false
def HC.okAt (h:HC) (off n:Nat) (hops:List Hop) (k0 k1:Nat):Bool :=
  match hops with
  | []=>k0==h.e0 || (k0+1==h.e0&&h.keeps off n)
  | _=>k0==h.e0&&k1==h.e1
def HC.okAd (h:HC) (off:Nat) (hops:List Hop) (k0 k1:Nat):Bool :=
  match hops with
  | []=>h.box
  | [_]=>k0==h.e0 || (k0+1==h.e0&&h.keeps off 1)
  | _=>k0==h.e0&&k1==h.e1
def HC.writable (h:HC) (hops:List Hop):Bool :=
  match hops with
  | []=>h.box&&h.wr
  | _=>h.m.isOwn
def HC.bump (h:HC) (off n:Nat) (hops:List Hop):HC :=
  match hops with
  | []=>{ h with e0:=h.e0+1,lz:=some (off,n) }
  | _=>{ h with e1:=h.e1+1 }
def HC.set (h:HC) (off:Nat) (hops:List Hop) (new:List L):HC:={ h.bump off new.length hops with ls:=setPlace h.ls off hops new }
def St.getAt (s:St) (r:Root) (k0 k1 off:Nat) (hops:List Hop) (n:Nat):Option (HC × List L) :=
  match lookH s.H r with
  | some h =>
    if h.okAt off n hops k0 k1 then
      match place h.ls off hops with
      | some suf=>if n≤suf.length then some (h,suf.take n) else none
      | none=>none
    else none
  | none=>none
def St.getAd (s:St) (r:Root) (k0 k1 off:Nat) (hops:List Hop):Option (HC × List L) :=
  match lookH s.H r with
  | some h =>
    if h.okAd off hops k0 k1 then
      match place h.ls off hops with
      | some suf=>some (h,suf)
      | none=>none
    else none
  | none=>none
def St.peek (s:St):AV→Option (M × Bool × List L)
  | .v m agg ls=>some (m,agg,ls)
  | .nil=>some (.ro,false,[.sl []])
  | .at r k0 k1 off hops n agg =>
    match s.getAt r k0 k1 off hops n with
    | some (h,sub)=>some (if h.m.isOwn then .tn else h.m,agg,sub)
    | none=>none
  | _=>none
def modeOf (m:M) (ls:List L):M:=if ls.all L.flat then .own else m
def deadened (ls:List L):List L:=ls.map fun l=>if l.flat then l else .dead
def St.embed (s:St) (fz:Bool):AV→Option (M × Bool × List L × St)
  | .v m agg ls=>some (modeOf m ls,agg,ls,s)
  | .nil=>some (.own,false,[.sl []],s)
  | .at r k0 k1 off hops n agg =>
    match s.getAt r k0 k1 off hops n with
    | some (h,sub) =>
      if h.m.isOwn then
        if fz then some (modeOf .ro sub,agg,sub,s.putH r { h with m:=.ro })
        else some (.own,agg,sub,s.putH r (h.set off hops (deadened sub)))
      else some (modeOf h.m sub,agg,sub,s)
    | none=>none
  | _=>none
def St.new (s:St) (r:Root) (m:M) (agg:Bool) (ls:List L):AV × St :=
  if m.isOwn&&!ls.all L.flat then
    match lookH s.H r with
    | none=>(.at r 0 0 0 [] ls.length agg,s.putH r { box:=false,wr:=true,m:=.own,ls,e0:=0,e1:=0 })
    | some _=>(.dead,s)
  else (.v m agg ls,s)
def St.mkBox (s:St) (r:Root) (m:M) (ls:List L):AV × St :=
  match lookH s.H r with
  | none=>(.ad r 0 0 0 [],s.putH r { box:=true,wr:=true,m,ls,e0:=0,e1:=0 })
  | some _=>(.dead,s)
inductive Mode where
  | ro | own | ptr | io
inductive Arg where
  | v (m:M) (agg:Bool) (ls:List L)
  | own (agg:Bool) (ls:List L)
  | ptr (m:M) (ls:List L)
  | io (agg:Bool) (ls:List L)
inductive RV where
  | v (m:M) (agg:Bool) (ls:List L)
  | ptr (m:M) (ls:List L)
structure Out where
  rs:List RV
  outs:List (M × List L)
structure Env where
  P:Program
  sig:FuncId→List Mode
  glob:Nat→Option (List L)
  live:FuncId→Nat→List Nat
  conf:FuncId→Nat→List (Nat × Nat)
  fz:FuncId→List Nat
  strict:Bool
  ext:FuncId→Option (List Arg→Option Out)
  alt:FuncId→Option (List Mode)
def Env.st (E:Env):Env:={ E with strict:=true }
def Env.alt2 (E:Env) (f:FuncId):Option (List Mode):=E.alt f
abbrev Fns:=FuncId→List Arg→Option Out
section
variable (E:Env) (K:Fns)
def opnd (s:St):Operand→AV
  | .tmp t=>look s.V t
  | .const (.int k n)=>.v .ro false [.int k n]
  | .const (.bool b)=>.v .ro false [.bool b]
  | .const (.string b)=>.v .ro false [.str b.data.toList]
  | .const (.slice none 0 0)=>.nil
  | .const _=>.dead
  | .func f=>.v .ro false [.fn f []]
  | .global g=>match E.glob g with | some ls=>.v .ro false [.ref ls] | none=>.dead
inductive Pre where
  | raw (m:Mode) (x:AV)
  | got (a:Arg)
def gotOf (m:M) (agg:Bool) (ls:List L):Arg:=if m.isOwn&&!ls.all L.flat then .own agg ls else .v m agg ls
def moveArgs:List Mode→List AV→St→Option (List Pre × St)
  | _,[],s=>some ([],s)
  | ms,a::as,s =>
    match ms.headD .ro with
    | .own =>
      match s.embed false a with
      | some (m,agg,ls,s1)=>(moveArgs ms.tail as s1).map fun r=>(.got (gotOf m agg ls)::r.1,r.2)
      | none=>none
    | m=>(moveArgs ms.tail as s).map fun r=>(.raw m a::r.1,r.2)
structure PA where
  args:List Arg
  backs:List Root
  bor:List (Root × Bool)
def argOf (s:St):Pre→Option (Arg × List Root × List (Root × Bool))
  | .got a=>some (a,[],[])
  | .raw .ro (.v m agg ls)=>some (.v m agg ls,[],[])
  | .raw .ro .nil=>some (.v .ro false [.sl []],[],[])
  | .raw .ro (.at r k0 k1 off hops n agg) =>
    match s.getAt r k0 k1 off hops n with
    | some (h,sub)=>if h.m.isOwn then some (.v .tn agg sub,[],[(r,false)]) else some (.v h.m agg sub,[],[])
    | none=>none
  | .raw .ro (.ad r k0 k1 off hops) =>
    match s.getAd r k0 k1 off hops with
    | some (_,suf)=>some (.v .tn false [.ref suf],[],[(r,true)])
    | none=>none
  | .raw .ptr (.ad r _ _ 0 []) =>
    match lookH s.H r with
    | some h=>if h.box&&h.wr then some (.ptr h.m h.ls,[r],[]) else none
    | none=>none
  | .raw .io (.at r k0 k1 0 [] n agg) =>
    match s.getAt r k0 k1 0 [] n with
    | some (h,sub)=>if h.m.isOwn&&!h.box&&h.wr&&(n==h.ls.length) then some (.io agg sub,[r],[]) else none
    | none=>none
  | .raw _ _=>none
def argsOf (s:St):List Pre→Option PA
  | []=>some { args:=[],backs:=[],bor:=[] }
  | p::ps =>
    match argOf s p with
    | some (x,b,o) =>
      match argsOf s ps with
      | some pa=>some { args:=x::pa.args,backs:=b++pa.backs,bor:=o++pa.bor }
      | none=>none
    | none=>none
def noClash:List Root→List (Root × Bool)→Bool
  | [],_=>true
  | b::bs,bor=>bs.all (fun c=>decide (c≠b))&&bor.all (fun x=>decide (x.1≠b))&&noClash bs bor
def giveBack:List Root→List (M × List L)→St→Option St
  | [],[],s=>some s
  | r::bs,(m,ls)::os,s =>
    match lookH s.H r with
    | some h=>if ls.length=h.ls.length then giveBack bs os (s.putH r { h with m,ls,e0:=if h.box then h.e0+1 else h.e0,e1:=h.e1+1,lz:=none }) else none
    | none=>none
  | _,_,_=>none
def freezeAll:List (Root × Bool)→St→St
  | [],s=>s
  | (r,isRef)::rest,s =>
    match lookH s.H r with
    | some h=>freezeAll rest (s.putH r { h with m:=h.m.fz,wr:=h.wr&&!isRef })
    | none=>freezeAll rest s
def RV.tainted:RV→Bool
  | .v m _ ls=>m.isTn&&!ls.all L.flat
  | .ptr m ls=>m.isTn&&!ls.all L.flat
def RV.clean (t:Bool):RV→RV
  | .v m a ls=>.v (if m.isTn&&!t then .ro else m) a ls
  | .ptr m ls=>.ptr (if m.isTn&&!t then .ro else m) ls
def mkRV (r:Root) (s:St):RV→AV × St
  | .v m agg ls=>s.new r m agg ls
  | .ptr m ls=>s.mkBox r m ls
def mkRVs (d:Nat):Nat→List RV→St→List AV × St
  | _,[],s=>([],s)
  | k,x::xs,s=>let (a,s1):=mkRV (.f d k) s x;let (as,s2):=mkRVs d (k+1) xs s1;(a::as,s2)
def Arg.isTn:Arg→Bool
  | .v m _ ls=>m.isTn&&!ls.all L.flat
  | .ptr m ls=>m.isTn&&!ls.all L.flat
  | _=>false
def putAns (dst:Option Nat) (rs:List RV) (s1:St):Option St :=
  match rs with
  | [x]=>let (a,s2):=mkRV (.f (dst.getD 0) 1) s1 x;some (s2.put dst a)
  | xs=>let (as,s2):=mkRVs (dst.getD 0) 1 xs s1;some (s2.put dst (.tup as))
def callWith (lax:Bool) (ms:List Mode) (f:FuncId) (as:List AV) (dst:Option Nat) (s:St):Option St :=
  match moveArgs ms as s with
  | some (ps,s0) =>
    match argsOf s0 ps with
    | some pa =>
      if noClash pa.backs pa.bor then
        match K f pa.args with
        | some out =>
          let dirty:=out.rs.any RV.tainted || out.outs.any fun o=>o.1.isTn&&!o.2.all L.flat
          let t:=pa.args.any Arg.isTn&&dirty
          if E.strict&&!lax&&dirty&&!pa.bor.isEmpty then none else
          match giveBack pa.backs (out.outs.map fun o=>(if o.1.isTn&&!t then .ro else o.1,o.2)) (if dirty then freezeAll pa.bor s0 else s0) with
          | some s1=>putAns dst (out.rs.map (RV.clean t)) s1
          | none=>none
        | none=>none
      else none
    | none=>none
  | none=>none
def Out.bad (o:Out):Bool :=
  match o.rs with
  | [_,.v _ _ [.bool b]]=>!b
  | _=>false
def probe (f:FuncId) (as:List AV) (s:St):Option Out :=
  match moveArgs (E.sig f) as s with
  | some (ps,s0) =>
    match argsOf s0 ps with
    | some pa=>K f pa.args
    | none=>none
  | none=>none
def callFn (f:FuncId) (as:List AV) (dst:Option Nat) (s:St):Option St :=
  match E.alt2 f with
  | none=>callWith E K false (E.sig f) f as dst s
  | some ms=>(probe E K f as s).bind fun o=>if o.bad=true then callWith E K true ms f as dst s else callWith E K false (E.sig f) f as dst s
def intBin (op:BinOp) (k:IntKind) (a b:Int):Option L :=
  match op with
  | .add=>some (.int k (k.wrap (a+b)))
  | .sub=>some (.int k (k.wrap (a - b)))
  | .mul=>some (.int k (k.wrap (a*b)))
  | .quo=>if b=0 then none else some (.int k (k.wrap (a.tdiv b)))
  | .rem=>if b=0 then none else some (.int k (a.tmod b))
  | .eql=>some (.bool (a==b))
  | .neq=>some (.bool (a != b))
  | .lss=>some (.bool (decide (a<b)))
  | .leq=>some (.bool (decide (a≤b)))
  | .gtr=>some (.bool (decide (a > b)))
  | .geq=>some (.bool (decide (a ≥ b)))
  | .xor=>some (.int k (k.wrap ((BitVec.ofInt k.bits a ^^^ BitVec.ofInt k.bits b).toNat)))
  | .and=>some (.int k (k.wrap ((BitVec.ofInt k.bits a &&& BitVec.ofInt k.bits b).toNat)))
  | _=>none
def shiftBin (op:BinOp) (k:IntKind) (a b:Int):Option L :=
  if b<0 then none else
  match op with
  | .shl=>some (.int k (k.wrap (a*2 ^ (min b.toNat k.bits))))
  | .shr=>some (.int k (a.fdiv (2 ^ (min b.toNat k.bits))))
  | _=>none
def strBin (op:BinOp) (a b:List UInt8):Option L :=
  match op with
  | .add=>if a.length+b.length≤4611686018427387904 then some (.str (a++b)) else none
  | .eql=>some (.bool (a==b))
  | .neq=>some (.bool (!(a==b)))
  | _=>none
def leafEq:L→L→Option Bool
  | .int k a,.int k' b=>if k=k' then some (a==b) else none
  | .bool a,.bool b=>some (a==b)
  | .str a,.str b=>some (a==b)
  | _,_=>none
def cellsEq:List L→List L→Option Bool
  | [],[]=>some true
  | a::as,b::bs =>
    match leafEq a b,cellsEq as bs with
    | some x,some y=>some (x&&y)
    | _,_=>none
  | _,_=>none
def binL (op:BinOp) (x y:L):Option L :=
  match x,y with
  | .int k a,.int k' b =>
    match op with
    | .shl | .shr=>shiftBin op k a b
    | _=>if k=k' then intBin op k a b else none
  | .str a,.str b=>strBin op a b
  | _,_=>none
def packed (P:Program):Nat→List Field→Bool
  | _,[]=>true
  | off, f :: fs => decide (f.offset = off) && f.name != "_" && (match tiOf P f.type with | some ti => packed P (off + ti.size) fs | none => false)
def fieldsSize (P:Program):List Field→Nat
  | []=>0
  | f::fs=>(match tiOf P f.type with | some ti=>ti.size | none=>0)+fieldsSize P fs
def eqType (P:Program):Nat→TypeId→Bool
  | 0,_=>false
  | n+1,t =>
    match P.underlying t,tiOf P t with
    | some (.int _),some _=>true
    | some .bool,some _=>true
    | some .string,some _=>true
    | some (.array len e),some ti=>eqType P n e&&(match tiOf P e with | some ei=>decide (ti.size=len*ei.size) | none=>false)
    | some (.struct fs),some ti=>!P.stoodInHeld t&&packed P 0 fs.toList&&decide (fieldsSize P fs.toList=ti.size)&&fs.toList.all fun f=>eqType P n f.type
    | _,_=>false
def eqAgg (P:Program) (t:TypeId):Bool:=eqType P 8 t&&!P.eqGuardType P.depth t&&(match tiOf P t with | some ti=>ti.agg | none=>false)
def leafFits:TD→L→Bool
  | .int _,.int _ _=>true
  | .bool,.bool _=>true
  | .str,.str _=>true
  | _,_=>false
def shapeFs (P:Program) (g:TypeId→List L→Bool):List (Nat × TypeId)→List L→Bool
  | [],as=>as.isEmpty
  | f::fs,as =>
    match tiOf P f.2 with
    | some fi=>decide (fi.size≤as.length)&&g f.2 (as.take fi.size)&&shapeFs P g fs (as.drop fi.size)
    | none=>false
def shapeT (P:Program):Nat→TypeId→List L→Bool
  | 0,_,_=>false
  | n+1,t,as =>
    match tiOf P t with
    | some ti =>
      match ti.td with
      | .struct fs=>shapeFs P (shapeT P n) fs as
      | .arr len e=>(match tiOf P e with | some ei=>decide (as.length=len)&&as.all (leafFits ei.td) | none=>false)
      | td=>(match as with | [l]=>leafFits td l | _=>false)
    | none=>false
def evBin (op:BinOp) (t:TypeId) (x y:AV):Option AV :=
  match x,y with
  | .v _ false [.bool a],.v _ false [.bool b] =>
    match tiOf E.P t with
    | some ti=>match ti.td,op with | .bool,.eql=>some (.v .ro false [.bool (a==b)]) | .bool,.neq=>some (.v .ro false [.bool (!(a==b))]) | _,_=>none
    | none=>none
  | .v _ false [a],.v _ false [b]=>(binL op a b).map fun l=>.v .ro false [l]
  | .v _ true as,.v _ true bs =>
    if eqAgg E.P t&&shapeT E.P 8 t as then
      match op,cellsEq as bs with
      | .eql,some b=>some (.v .ro false [.bool b])
      | .neq,some b=>some (.v .ro false [.bool (!b)])
      | _,_=>none
    else none
  | _,_=>none
def isIface (P:Program) (t:TypeId):Bool :=
  match P.underlying t with
  | some (.interface _)=>true
  | _=>false
def nilOp (op:BinOp) (p:Nat):Option Bool :=
  match op,p with
  | .eql,2=>some true
  | .eql,3=>some false
  | .neq,2=>some false
  | .neq,3=>some true
  | _,_=>none
def evNil (op:BinOp) (t:TypeId) (x:AV):Option AV :=
  match x with
  | .v _ false [.tag p]=>if isIface E.P t=true then (nilOp op p).map fun b=>.v .ro false [.bool b] else none
  | _=>none
def isNilK:Operand→Bool
  | .const .nilIface=>true
  | _=>false
def evBinO (op:BinOp) (t:TypeId) (y:Operand) (a b:AV):Option AV:=if isNilK y=true then evNil E op t a else evBin E op t a b
def evUn (op:UnOp) (x:AV):Option AV :=
  match op,x with
  | .not,.v _ false [.bool b]=>some (.v .ro false [.bool (!b)])
  | .neg,.v _ false [.int k n]=>some (.v .ro false [.int k (k.wrap (0 - n))])
  | _,_=>none
def bytesOfRows:List (List L)→Option (List UInt8)
  | []=>some []
  | [.int .u8 n]::r=>(bytesOfRows r).map (UInt8.ofNat n.toNat::·)
  | _=>none
def rowsOfBytes (s:List UInt8):List (List L):=s.map fun b=>[.int .u8 b.toNat]
def evConv (src dst:TypeId) (x:AV) (d:Nat) (s:St):Option (AV × St) :=
  match tiOf E.P src,tiOf E.P dst with
  | some a,some b =>
    match a.td,b.td,x with
    | .int _,.int k,.v _ false [.int _ n]=>some (.v .ro false [.int k (k.wrap n)],s)
    | .str,.slice e,.v _ false [.str bs] =>
      match tiOf E.P e with
      | some ei=>match ei.td with | .int .u8=>if bs=[] then some (.v .ro false [.sl []],s) else if bs.length≤1099511627776 then some (s.new (.f d 1) .own false [.sl (rowsOfBytes bs)]) else none | _=>none
      | none=>none
    | .slice e,.str,x =>
      match tiOf E.P e,s.peek x with
      | some ei,some (_,false,[.sl xs])=>match ei.td,bytesOfRows xs with | .int .u8,some bs=>some (.v .ro false [.str bs],s) | _,_=>none
      | _,_=>none
    | _,_,_=>none
  | _,_=>none
def fillCells (place:Nat→Option (Nat × Nat)) (fz:List Nat):List L→M→List (Nat × Operand)→St→Option (M × List L × St)
  | ls,m,[],s=>some (m,ls,s)
  | ls,m,(i,x)::rest,s =>
    match place i,s.embed (match x with | .tmp t=>fz.contains t | _=>false) (opnd E s x) with
    | some (off,size),some (m',_,sub,s') =>
      if sub.length=size∧off+size≤ls.length then fillCells place fz (setRange ls off sub) (m.join m') rest s' else none
    | _,_=>none
def fieldPl (P:Program) (fs:List (Nat × TypeId)) (i:Nat):Option (Nat × Nat) :=
  match fs[i]? with
  | some (off,t)=>(tiOf P t).map fun ti=>(off,ti.size)
  | none=>none
def chunk (sz:Nat):Nat→List L→List (List L)
  | 0,_=>[]
  | n+1,ls=>ls.take sz::chunk sz n (ls.drop sz)
def addOff (o:Nat):Nat→List Hop→Nat × List Hop
  | off,[]=>(off+o,[])
  | off,[(i,sz,off')]=>(off,[(i,sz,off'+o)])
  | off,h::hs=>(off,h::(addOff o off hs).2)
def addHop (h:Hop) (hops:List Hop):List Hop:=hops++[h]
def ptrAdd (o:Nat) (s:St):AV→Option AV
  | .v m false [.ref ls]=>if o≤ls.length then some (.v m false [.ref (ls.drop o)]) else none
  | .ad r k0 k1 off hops=>(s.getAd r k0 k1 off hops).map fun _=>.ad r k0 k1 (addOff o off hops).1 (addOff o off hops).2
  | _=>none
def evLoad (t:TypeId) (a:AV) (s:St):Option AV :=
  match tiOf E.P t with
  | some ti =>
    match a with
    | .v m false [.ref ls]=>if ti.size≤ls.length then some (.v m ti.agg (ls.take ti.size)) else none
    | .ad r k0 k1 off hops =>
      match s.getAd r k0 k1 off hops with
      | some (h,suf) =>
        if ti.size≤suf.length then
          if (suf.take ti.size).all L.flat then some (.v .ro ti.agg (suf.take ti.size))
          else if h.m.isOwn then some (.at r h.e0 h.e1 off hops ti.size ti.agg) else some (.v h.m ti.agg (suf.take ti.size))
        else none
      | none=>none
    | _=>none
  | none=>none
def St.fresh (s:St) (a:AV) (n:Nat):St :=
  match a with
  | .ad r _ _ off [] =>
    match lookH s.H r with
    | some h=>if (!h.m.isOwn&&(h.box&&(off==0&&h.ls.length==n)))=true then s.putH r { h with m:=.own,ls:=deadened h.ls,e0:=h.e0+1,lz:=none } else s
    | none=>s
  | _=>s
def evStore (t:TypeId) (a x:AV) (fz:Bool) (s:St):Option St :=
  match tiOf E.P t,s.embed fz x with
  | some ti,some (m',_,sub,s') =>
    match a with
    | .ad r k0 k1 off hops =>
      match (s'.fresh (.ad r k0 k1 off hops) ti.size).getAd r k0 k1 off hops with
      | some (h,suf) =>
        if ti.size≤suf.length∧sub.length=ti.size∧h.writable hops=true then
          some ((s'.fresh (.ad r k0 k1 off hops) ti.size).putH r { h.set off hops sub with m:=h.m.join m' })
        else none
      | none=>none
    | _=>none
  | _,_=>none
def intOfAV:AV→Option Int
  | .v _ false [.int _ n]=>some n
  | _=>none
def evIndexAddr (t:TypeId) (x i:AV) (s:St):Option AV :=
  match tiOf E.P t,intOfAV i with
  | some ti,some n =>
    match ti.td with
    | .slice e =>
      match tiOf E.P e with
      | some ei =>
        if 0≤n then
          match x with
          | .v m false [.sl xs] =>
            match xs[n.toNat]? with
            | some row=>if row.length=ei.size then some (.v m false [.ref row]) else none
            | none=>none
          | .at r k0 k1 off hops 1 false =>
            match s.getAt r k0 k1 off hops 1 with
            | some (h,[.sl xs]) =>
              match xs[n.toNat]? with
              | some row=>if row.length=ei.size then
                  (if h.m.isOwn then some (.ad r k0 k1 off (addHop (n.toNat,ei.size,0) hops)) else some (.v h.m false [.ref row])) else none
              | none=>none
            | _=>none
          | _=>none
        else none
      | none=>none
    | .arr len e =>
      match tiOf E.P e with
      | some ei=>if 0≤n∧n<len then ptrAdd (n.toNat*ei.size) s x else none
      | none=>none
    | _=>none
  | _,_=>none
def evIndex (t:TypeId) (x i:AV):Option AV :=
  match tiOf E.P t,intOfAV i with
  | some ti,some n =>
    match ti.td,x with
    | .str,.v _ false [.str s]=>if 0≤n then (s[n.toNat]?).map fun b=>.v .ro false [.int .u8 b.toNat] else none
    | .arr len e,.v m true ls =>
      match tiOf E.P e with
      | some ei =>
        if 0≤n∧n<len then
          (if ei.agg then (if (n.toNat+1)*ei.size≤ls.length then some (.v m true ((ls.drop (n.toNat*ei.size)).take ei.size)) else none)
           else (if ei.size=1 then (ls[n.toNat]?).map fun l=>.v m false [l] else none))
        else none
      | none=>none
    | _,_=>none
  | _,_=>none
def evField (t:TypeId) (x:AV) (i:Nat) (s:St):Option AV :=
  match tiOf E.P t with
  | some ti =>
    match ti.td with
    | .struct fs =>
      match fs[i]? with
      | some (off,ft) =>
        match tiOf E.P ft with
        | some fi =>
          match x with
          | .v m true ls=>if off+fi.size≤ls.length then some (.v m fi.agg ((ls.drop off).take fi.size)) else none
          | .at r k0 k1 o hops n true =>
            match s.getAt r k0 k1 o hops n with
            | some (h,sub) =>
              if off+fi.size≤sub.length then
                (if ((sub.drop off).take fi.size).all L.flat then some (.v .ro fi.agg ((sub.drop off).take fi.size))
                 else if h.m.isOwn then (let (o',hops'):=addOff off o hops;some (.at r k0 k1 o' hops' fi.size fi.agg))
                 else some (.v h.m fi.agg ((sub.drop off).take fi.size)))
              else none
            | none=>none
          | _=>none
        | none=>none
      | none=>none
    | _=>none
  | none=>none
def evFieldAddr (t:TypeId) (x:AV) (i:Nat) (s:St):Option AV :=
  match tiOf E.P t with
  | some ti =>
    match ti.td with
    | .struct fs =>
      match fs[i]? with
      | some (off,ft) =>
        match tiOf E.P ft with
        | some fi=>if fi.size=0 then none else ptrAdd off s x
        | none=>none
      | none=>none
    | _=>none
  | none=>none
def boundOf (d:Nat) (top:Nat):Option AV→Option Nat
  | none=>some d
  | some a =>
    match intOfAV a with
    | some n=>if 0≤n∧n≤top then some n.toNat else none
    | none=>none
def evSlice (t:TypeId) (x:AV) (lo hi:Option AV) (s:St):Option (AV × St) :=
  match tiOf E.P t with
  | some ti =>
    match ti.td,x with
    | .str,.v _ false [.str bs] =>
      match boundOf bs.length bs.length hi with
      | some h =>
        match boundOf 0 h lo with
        | some l=>some (.v .ro false [.str ((bs.take h).drop l)],s)
        | none=>none
      | none=>none
    | .slice e,x =>
      match tiOf E.P e,s.embed true x with
      | some ei,some (m,false,[.sl xs],s') =>
        match boundOf xs.length xs.length hi with
        | some h =>
          match boundOf 0 h lo with
          | some l=>if (xs.all fun r=>decide (r.length=ei.size))=true then some (.v m.fz false [.sl ((xs.take h).drop l)],s') else none
          | none=>none
        | none=>none
      | _,_=>none
    | _,_=>none
  | none=>none
def flatRows (xs:List (List L)):Bool:=xs.all fun r=>r.all L.flat
def srcRows (s:St) (y:AV):Option (M × List (List L) × St) :=
  match y with
  | .v _ false [.str bs]=>some (.own,rowsOfBytes bs,s)
  | y =>
    match s.peek y with
    | some (_,false,[.sl ys]) =>
      if flatRows ys then some (.own,ys,s)
      else match s.embed false y with
        | some (m,false,[.sl ys'],s')=>some (m,ys',s')
        | _=>none
    | _=>none
def rowsOk (sz:Nat) (xs:List (List L)):Bool:=xs.all fun r=>decide (r.length=sz)
def isRowTy (t:TypeId):Bool :=
  match tiOf E.P t with
  | some ti=>(match ti.td with | .slice _ | .str=>true | _=>false)
  | none=>false
def evAppend (ts:List TypeId) (x y:AV) (d:Nat) (s:St):Option (AV × St) :=
  match ts with
  | [t,t2] =>
    match tiOf E.P t with
    | some ti =>
      match ti.td with
      | .slice e =>
        match tiOf E.P e,s.embed false x with
        | some ei,some (.own,false,[.sl xs],s1) =>
          match srcRows s1 y with
          | some (m,ys,s2) =>
            if isRowTy E t2=true∧rowsOk ei.size xs∧rowsOk ei.size ys∧0<ei.size∧(xs.length+ys.length)*ei.bytes≤17592186044416∧(xs.length+ys.length)≤17592186044416 then
              some (if m.isOwn then s2.new (.f d 1) .own false [.sl (xs++ys)] else (.v m false [.sl (xs++ys)],s2))
            else none
          | none=>none
        | _,_=>none
      | _=>none
    | none=>none
  | _=>none
def evLen (t:TypeId) (x:AV) (s:St):Option AV :=
  match tiOf E.P t with
  | some ti =>
    match ti.td,s.peek x with
    | .str,some (_,false,[.str bs])=>some (.v .ro false [.int .i64 bs.length])
    | .slice _,some (_,false,[.sl xs])=>some (.v .ro false [.int .i64 xs.length])
    | .arr n _,some _=>some (.v .ro false [.int .i64 n])
    | _,_=>none
  | none=>none
def minMax (isMax:Bool):List AV→Option AV
  | [.v _ false [.int k a],.v _ false [.int k' b]] =>
    if k=k' then some (.v .ro false [.int k (if isMax then (if a<b then b else a) else (if b<a then b else a))]) else none
  | _=>none
def evMakeSlice (t:TypeId) (l c:AV) (d:Nat) (s:St):Option (AV × St) :=
  match tiOf E.P t,intOfAV l,intOfAV c with
  | some ti,some n,some n' =>
    match ti.td with
    | .slice e =>
      match tiOf E.P e with
      | some ei =>
        if n=n'∧0≤n∧n*ei.bytes≤17592186044416∧n≤17592186044416∧0<ei.size then some (s.new (.f d 1) .own false [.sl (List.replicate n.toNat ei.zero)]) else none
      | none=>none
    | _=>none
  | _,_,_=>none
def cap1 (s:St):AV→Option (L × St)
  | .v .ro false [l]=>some (l,s)
  | .ad r _ _ 0 [] =>
    match lookH s.H r with
    | some h=>if h.box=true∧h.m.isTn=false then some (.ref h.ls,s.putH r { h with m:=.ro,wr:=false }) else none
    | none=>none
  | _=>none
def evCaps:List AV→St→Option (List L × St)
  | [],s=>some ([],s)
  | a::as,s =>
    match cap1 s a with
    | some (l,s1)=>match evCaps as s1 with | some (ls,s2)=>some (l::ls,s2) | none=>none
    | none=>none
def evWin (t:TypeId) (x:AV) (lo hi:Option AV) (s:St):Option AV :=
  match tiOf E.P t,x with
  | some ti,.at r k0 k1 off [] 1 false =>
    match ti.td,s.getAt r k0 k1 off [] 1 with
    | .slice e,some (h,[.sl xs]) =>
      match tiOf E.P e with
      | some ei =>
        match boundOf xs.length xs.length hi with
        | some u =>
          match boundOf 0 u lo with
          | some l=>if h.m.isOwn=true∧ei.size=1∧l<xs.length then some (.win r h.e0 h.e1 off l (u - l)) else none
          | none=>none
        | none=>none
      | none=>none
    | _,_=>none
  | _,_=>none
def HC.setRows (h:HC) (off:Nat) (xs:List (List L)) (lo:Nat) (ys:List (List L)):HC:={ h with ls:=h.ls.set off (.sl (xs.take lo++ys++xs.drop (lo+ys.length))),e1:=h.e1+ys.length }
def evCopy (ts:List TypeId) (x y:AV) (s:St):Option (AV × St) :=
  match ts,x,y with
  | [t,_],.win r k0 _ off lo n,.v _ false [.str bs] =>
    match tiOf E.P t,lookH s.H r with
    | some ti,some h =>
      match ti.td,h.ls[off]? with
      | .slice e,some (.sl xs) =>
        match tiOf E.P e with
        | some ei =>
          if ei.size=1∧k0=h.e0∧h.m.isOwn=true∧lo<xs.length∧lo+n≤xs.length∧(xs.all fun r=>decide (r.length=1))=true∧xs.length≤4611686018427387904 then
            some (.v .ro false [.int .i64 (min bs.length n:Nat)],s.putH r (h.setRows off xs lo (rowsOfBytes (bs.take n))))
          else none
        | none=>none
      | _,_=>none
    | _,_=>none
  | _,_,_=>none
def evCallOp (c:Call) (d:Option Nat) (s:St):Option St :=
  let as:=c.args.toList.map (opnd E s)
  match c.callee with
  | .value f =>
    match opnd E s f with
    | .v m false [.fn g caps]=>callFn E K g (as++caps.map fun l=>.v m false [l]) d s
    | _=>none
  | .builtin .len=>match as,c.argTypes.toList with | [x],t::_=>(evLen E t x s).map fun a=>s.put d a | _,_=>none
  | .builtin .append=>match as with | [x,y]=>(evAppend E c.argTypes.toList x y (d.getD 0) s).map fun r=>r.2.put d r.1 | _=>none
  | .builtin .copy=>match as with | [x,y]=>(evCopy E c.argTypes.toList x y s).map fun r=>r.2.put d r.1 | _=>none
  | .builtin .min=>(minMax false as).map fun a=>s.put d a
  | .builtin .max=>(minMax true as).map fun a=>s.put d a
  | _=>none
def boxFz (fz:List Nat):Option Nat→Bool
  | some d=>fz.contains d
  | none=>false
def evOp (fz:List Nat) (o:Oper) (s:St):Option St :=
  let d:=o.dst.getD 0
  let ρ:=opnd E s
  match o.op with
  | .move x | .assign x=>some (s.put o.dst (ρ x))
  | .pick c a b =>
    match ρ c with
    | .v _ false [.bool q]=>match (if q then ρ a else ρ b) with | .v m agg ls=>some (s.put o.dst (.v m agg ls)) | _=>none
    | _=>none
  | .alloc t=>(tiOf E.P t).map fun ti=>let (a,s'):=s.mkBox (.f d 1) .own ti.zero;s'.put o.dst a
  | .box t x =>
    match tiOf E.P t,s.embed (match x with | .tmp t=>fz.contains t | _=>false) (ρ x) with
    | some ti,some (m,_,ls,s') =>
      if ls.length=ti.size then
        if boxFz fz o.dst then (cap1 (s'.mkBox (.f d 1) m ls).2 (s'.mkBox (.f d 1) m ls).1).map fun q=>q.2.put o.dst (.v .ro false [q.1])
        else (let (a,s2):=s'.mkBox (.f d 1) m ls;some (s2.put o.dst a))
      else none
    | _,_=>none
  | .build t parts =>
    match tiOf E.P t with
    | some ti =>
      match (match ti.td with
        | .struct fs=>if fs.all (fun f=>(tiOf E.P f.2).isSome) then fillCells E (fieldPl E.P fs) fz ti.zero .own parts.toList s else none
        | .arr _ e=>match tiOf E.P e with | some ei=>fillCells E (fun i=>some (i*ei.size,ei.size)) fz ti.zero .own parts.toList s | none=>none
        | _=>none) with
      | some (m,ls,s')=>let (a,s2):=s'.new (.f d 1) m true ls;some (s2.put o.dst a)
      | none=>none
    | none=>none
  | .buildSlice t n parts =>
    match tiOf E.P t with
    | some ti =>
      match ti.td with
      | .slice e =>
        match tiOf E.P e with
        | some ei =>
          if n*ei.size≤65536∧0<ei.size then
            match fillCells E (fun i=>some (i*ei.size,ei.size)) fz (List.replicate n ei.zero).flatten .own parts.toList s with
            | some (m,ls,s') =>
              let (a,s2):=(if m.isOwn then s'.new (.f d 1) .own false [.sl (chunk ei.size n ls)] else (.v m false [.sl (chunk ei.size n ls)],s'))
              some (s2.put o.dst a)
            | none=>none
          else none
        | none=>none
      | _=>none
    | none=>none
  | .load t a=>(evLoad E t (ρ a) s).map fun x=>s.put o.dst x
  | .store t a x=>(evStore E t (ρ a) (ρ x) (match x with | .tmp t=>fz.contains t | _=>false) s).map fun s'=>s'.put o.dst .dead
  | .nilCheck x=>match ρ x with | .ad r k0 k1 off hops=>(s.getAd r k0 k1 off hops).map fun _=>s.put o.dst (.ad r k0 k1 off hops) | .v m false [.ref ls]=>some (s.put o.dst (.v m false [.ref ls])) | _=>none
  | .binOp op t x y _=>(evBinO E op t y (ρ x) (ρ y)).map fun a=>s.put o.dst a
  | .unOp op _ x=>(evUn op (ρ x)).map fun a=>s.put o.dst a
  | .convert a b x=>(evConv E a b (ρ x) d s).map fun r=>r.2.put o.dst r.1
  | .makeFunc (.func f) first captured =>
    if first.size=0 then (evCaps (captured.toList.map ρ) s).map fun r=>r.2.put o.dst (.v .ro false [.fn f r.1]) else none
  | .makeSlice t l c=>(evMakeSlice E t (ρ l) (ρ c) d s).map fun r=>r.2.put o.dst r.1
  | .slice t x lo hi none=>if boxFz fz o.dst=true then (evWin E t (ρ x) (lo.map ρ) (hi.map ρ) s).map fun a=>s.put o.dst a else (evSlice E t (ρ x) (lo.map ρ) (hi.map ρ) s).map fun r=>r.2.put o.dst r.1
  | .fieldAddr t x i=>(evFieldAddr E t (ρ x) i s).map fun a=>s.put o.dst a
  | .field t x i=>(evField E t (ρ x) i s).map fun a=>s.put o.dst a
  | .indexAddr t x i=>(evIndexAddr E t (ρ x) (ρ i) s).map fun a=>s.put o.dst a
  | .index t x i=>(evIndex E t (ρ x) (ρ i)).map fun a=>s.put o.dst a
  | .extract x k=>match ρ x with | .tup xs=>(xs[k]?).map fun a=>s.put o.dst a | _=>none
  | .call c=>evCallOp E K c o.dst s
  | _=>none
def evG (ops:Array Oper) (fz:List Nat) (o:Oper) (s:St):Option St :=
  match o.guard with
  | none=>evOp E K fz o s
  | some (j,want) =>
    match (ops[j]?).bind (·.dst) with
    | some t =>
      match look s.V t with
      | .v _ false [.bool b]=>if b=want then evOp E K fz o s else some (s.put o.dst (.tup []))
      | .tup []=>some (s.put o.dst (.tup []))
      | _=>none
    | none=>none
def evOps (ops:Array Oper) (fz:List Nat):List Oper→St→Option St
  | [],s=>some s
  | o::os,s =>
    match evG E K ops fz o s with
    | some s'=>evOps ops fz os s'
    | none=>none
def root1:AV→List Root
  | .at r ..=>[r]
  | .ad r ..=>[r]
  | .win r ..=>[r]
  | _=>[]
def rootsAV:AV→List Root
  | .tup xs=>xs.flatMap root1
  | a=>root1 a
def rootsArgs:List Mode→List AV→List Root
  | _,[]=>[]
  | ms,a::as=>(match ms.headD .ro with | .ro=>[] | _=>rootsAV a)++rootsArgs ms.tail as
def asRoots (as:List AV):List Root:=as.flatMap rootsAV
def callWr (E:Env) (g:FuncId) (as:List AV):List Root :=
  match E.alt2 g with
  | none=>rootsArgs (E.sig g) as
  | some _=>asRoots as
def opLooks (o:Oper):Bool :=
  match o.op with
  | .move _ | .assign _ | .extract .. | .pick ..=>false
  | _=>true
def opTouch (s:St) (o:Oper):List Root:=if opLooks o=true then o.op.operands.toList.flatMap fun x=>rootsAV (opnd E s x) else []
def opWr (s:St) (o:Oper):List Root :=
  match o.op with
  | .store _ a x=>rootsAV (opnd E s a)++rootsAV (opnd E s x)
  | .box _ x=>rootsAV (opnd E s x)
  | .build _ ps=>ps.toList.flatMap fun q=>rootsAV (opnd E s q.2)
  | .buildSlice _ _ ps=>ps.toList.flatMap fun q=>rootsAV (opnd E s q.2)
  | .slice _ x _ _ _=>rootsAV (opnd E s x)
  | .makeFunc _ _ cs=>cs.toList.flatMap fun x=>rootsAV (opnd E s x)
  | .call { callee:=.builtin .append,args,.. }=>args.toList.flatMap fun x=>rootsAV (opnd E s x)
  | .call { callee:=.builtin .copy,args,.. }=>args.toList.flatMap fun x=>rootsAV (opnd E s x)
  | .call { callee:=.value f,args,.. } =>
    match opnd E s f with
    | .v _ _ [.fn g _]=>callWr E g (args.toList.map (opnd E s))
    | _=>[]
  | _=>[]
def evOpsT (ops:Array Oper) (fz:List Nat):List Oper→St→Option (List (List Root × List Root × Nat) × St)
  | [],s=>some ([],s)
  | o::os,s =>
    match evG E K ops fz o s with
    | some s' =>
      match evOpsT ops fz os s' with
      | some (tr,s2)=>some ((opTouch E s o,opWr E s o,o.dst.getD 0)::tr,s2)
      | none=>none
    | none=>none
def notF (d:Nat):Root→Bool
  | .f e _=>e != d
  | _=>true
def apart2:List Root × List Root × Nat→List Root × List Root × Nat→Bool
  | (ti,wi,di),(tj,wj,dj)=>(wi.all fun r=>!tj.contains r)&&(wj.all fun r=>!ti.contains r)&&ti.all (notF dj)&&tj.all (notF di)
def apartOk (tr:List (List Root × List Root × Nat)):List (Nat × Nat)→Bool
  | []=>true
  | (i,j)::rest =>
    (match tr[i]?,tr[j]? with
      | some x,some y=>apart2 x y
      | _,_=>false)&&apartOk tr rest
def evDraw (ops:Array Oper) (fz:List Nat) (conf:List (Nat × Nat)) (s:St):Option St :=
  match evOpsT (Env.st E) K ops fz ops.toList s with
  | some (tr,s')=>if apartOk tr conf then some s' else none
  | none=>none
def inPs (ps:List Nat):Root→Bool
  | .p i=>ps.contains i
  | _=>true
def St.norm (s:St):AV→AV
  | .at r k0 k1 off hops n agg=>match lookH s.H r with | some h=>if h.okAt off n hops k0 k1&&inPs s.ps r then .at r 0 0 off hops n agg else .dead | none=>.dead
  | .ad r k0 k1 off hops=>match lookH s.H r with | some h=>if h.okAd off hops k0 k1&&inPs s.ps r then .ad r 0 0 off hops else .dead | none=>.dead
  | .win ..=>.dead
  | .tup _=>.dead
  | a=>a
def addRen (t:Nat) (ren:List (Root × Root)) (r:Root):List (Root × Root) :=
  match r with
  | .p _=>ren
  | r=>if ren.any (fun x=>decide (x.1=r)) then ren else ren++[(r,.c t)]
def renOf:List (Nat × AV)→List (Root × Root)→List (Root × Root)
  | [],ren=>ren
  | (t,.at r ..)::rest,ren=>renOf rest (addRen t ren r)
  | (t,.ad r ..)::rest,ren=>renOf rest (addRen t ren r)
  | _::rest,ren=>renOf rest ren
def ren1 (ren:List (Root × Root)) (r:Root):Root :=
  match ren with
  | []=>r
  | (a,b)::rest=>if a=r then b else ren1 rest r
def AV.ren (ren:List (Root × Root)):AV→AV
  | .at r k0 k1 off hops n agg=>.at (ren1 ren r) k0 k1 off hops n agg
  | .ad r k0 k1 off hops=>.ad (ren1 ren r) k0 k1 off hops
  | a=>a
def HC.reset (h:HC):HC:={ h with e0:=0,e1:=0,lz:=none }
def keepH (s:St):List (Root × Root)→List (Root × HC)
  | []=>[]
  | (r,r')::rest=>match lookH s.H r with | some h=>(r',h.reset)::keepH s rest | none=>keepH s rest
def canon (live:List Nat) (s:St):St :=
  let ents:=live.map fun t=>(t,s.norm (look s.V t))
  let ren:=renOf ents []
  { V:=ents.map fun x=>(x.1,x.2.ren ren),H:=keepH s (s.ps.map (fun i=>(Root.p i,Root.p i))++ren),ps:=s.ps }
inductive Ex where
  | normal | exit (id:Nat) | ret
  deriving DecidableEq
def loopN (body:St→Option (Ex × St)):Nat→St→Option (Ex × St)
  | 0,_=>none
  | n+1,s =>
    match body s with
    | some (.normal,s')=>loopN body n s'
    | r=>r
open Classical in
noncomputable def loopLim (body:St→Option (Ex × St)) (s:St):Option (Ex × St) :=
  if h:∃ r,∃ n,loopN body n s=some r then some h.choose else none
noncomputable def evCode (f:FuncId):Code→St→Option (Ex × St)
  | .skip,s=>some (.normal,s)
  | .label _,s=>some (.normal,s)
  | .region id ops false,s=>(evOps E K ops (E.fz f) ops.toList s).map fun s'=>(.normal,canon (E.live f id) s')
  | .region id ops true,s=>(evDraw E K ops (E.fz f) (E.conf f id) s).map fun s'=>(.normal,canon (E.live f id) s')
  | .seq a b,s =>
    match evCode f a s with
    | some (.normal,s')=>evCode f b s'
    | r=>r
  | .cond c a b,s =>
    match opnd E s c with
    | .v _ false [.bool q]=>if q then evCode f a s else evCode f b s
    | _=>none
  | .block id a,s =>
    match evCode f a s with
    | some (.exit id',s')=>if id'=id then some (.normal,s') else some (.exit id',s')
    | r=>r
  | .loop a,s=>loopLim (evCode f a) s
  | .exit id,s=>some (.exit id,s)
  | .ret,s=>some (.ret,s)
  | _,_=>none
def enterArg (i:Nat):Arg→AV × Option HC
  | .v m agg ls=>(.v m agg ls,none)
  | .own agg ls=>(.at (.p i) 0 0 0 [] ls.length agg,some { box:=false,wr:=true,m:=.own,ls,e0:=0,e1:=0 })
  | .ptr m ls=>(.ad (.p i) 0 0 0 [],some { box:=true,wr:=true,m,ls,e0:=0,e1:=0 })
  | .io agg ls=>(.at (.p i) 0 0 0 [] ls.length agg,some { box:=false,wr:=true,m:=.own,ls,e0:=0,e1:=0 })
def enter:Nat→List Arg→St
  | _,[]=>{ V:=[],H:=[],ps:=[] }
  | i,a::as =>
    let s:=enter (i+1) as
    match enterArg i a with
    | (x,some h)=>{ V:=(i,x)::s.V,H:=(.p i,h)::s.H,ps:=i::s.ps }
    | (x,none)=>{ V:=(i,x)::s.V,H:=s.H,ps:=s.ps }
def evResult (fz:List Nat) (s:St):ResultVar→Option (RV × St)
  | .tmp t =>
    match look s.V t with
    | .ad r _ _ 0 [] =>
      match r,lookH s.H r with
      | .p _,_=>none
      | r,some h=>if h.box&&h.wr then some (.ptr h.m h.ls,s.putH r { box:=false,wr:=false,m:=.own,ls:=[],e0:=h.e0+1,e1:=h.e1+1 }) else none
      | _,none=>none
    | a=>(s.embed (fz.contains t) a).map fun q=>(.v q.1 q.2.1 q.2.2.1,q.2.2.2)
  | .cell t ty =>
    match evLoad E ty (look s.V t) s with
    | some a=>(s.embed (fz.contains t) a).map fun q=>(.v q.1 q.2.1 q.2.2.1,q.2.2.2)
    | none=>none
def evResults (fz:List Nat):List ResultVar→St→Option (List RV × St)
  | [],s=>some ([],s)
  | r::rs,s =>
    match evResult E fz s r with
    | some (x,s')=>match evResults fz rs s' with | some (xs,s2)=>some (x::xs,s2) | none=>none
    | none=>none
def outsOf (s:St):List Arg→Nat→Option (List (M × List L))
  | [],_=>some []
  | .ptr ..::as,i =>
    match lookH s.H (.p i),outsOf s as (i+1) with
    | some h,some r=>if h.box&&h.wr then some ((h.m,h.ls)::r) else none
    | _,_=>none
  | .io ..::as,i =>
    match lookH s.H (.p i),outsOf s as (i+1) with
    | some h,some r=>if !h.box&&h.wr then some ((h.m,h.ls)::r) else none
    | _,_=>none
  | _::as,i=>outsOf s as (i+1)
noncomputable def evBody (f:FuncId) (args:List Arg):Option Out :=
  match E.P.funcs[f]? with
  | some fn =>
    match fn.body with
    | some c =>
      if args.length=fn.params.size+fn.nfree∧args.length≤fn.ntmps then
        match evCode E K f c (enter 0 args) with
        | some (.normal,s) | some (.ret,s) =>
          match evResults E (E.fz f) fn.results.toList s with
          | some (rs,s')=>(outsOf s' args 0).map fun outs=>{ rs,outs }
          | none=>none
        | _=>none
      else none
    | none=>none
  | none=>none
end
noncomputable def evN (E:Env):Nat→Fns
  | 0,_,_=>none
  | n+1,f,args =>
    match E.ext f with
    | some k=>k args
    | none=>evBody E (evN E n) f args
open Classical in
noncomputable def ev (E:Env):Fns:=fun f args =>
  if h:∃ r,∃ n,evN E n f args=some r then some h.choose else none
end Go.Ev


namespace Go.Ev
def Fns.le (K K':Fns):Prop:=∀ f a r,K f a=some r→K' f a=some r
theorem Fns.le_refl (K:Fns):K.le K:=fun _ _ _ h=>h
structure Cont {α:Type} (F:Fns→Option α):Prop where
 mono:∀ K K':Fns,K.le K'→∀ r,F K=some r→F K'=some r
 cont:∀ (K:Nat→Fns) (Kw:Fns),(∀ n,(K n).le (K (n+1)))→(∀ f a r,Kw f a=some r→∃ n,K n f a=some r)→∀ r,F Kw=some r→∃ n,F (K n)=some r
theorem chain_le {K:Nat→Fns} (h:∀ n,(K n).le (K (n+1))) (n d:Nat):(K n).le (K (n+d)):=by
 induction d with
 | zero=>exact Fns.le_refl _
 | succ d ih=>exact fun f a r hr=>h _ f a r (ih f a r hr)
theorem Cont.const {α:Type} (x:Option α):Cont fun _=>x:=⟨fun _ _ _ _ h=>h,fun _ _ _ _ _ h=>⟨0,h⟩⟩
theorem Cont.app (f:FuncId) (a:List Arg):Cont fun K=>K f a:=⟨fun _ _ h r hr=>h f a r hr,fun _ _ _ hl r hr=>hl f a r hr⟩
theorem Cont.bind {α β:Type} {F:Fns→Option α} {G:α→Fns→Option β} (hF:Cont F) (hG:∀ x,Cont (G x)):Cont fun K=>(F K).bind fun x=>G x K:=by
 constructor
 ·intro K K' h r hr
  cases hx:F K with
  | none=>simp [hx] at hr
  | some x=>simp only [hx,Option.bind_some] at hr;simp only [hF.mono _ _ h _ hx,Option.bind_some];exact (hG x).mono _ _ h _ hr
 ·intro K Kw hc hl r hr
  cases hx:F Kw with
  | none=>simp [hx] at hr
  | some x =>
   simp only [hx,Option.bind_some] at hr
   obtain ⟨n,hn⟩:=hF.cont K Kw hc hl _ hx
   obtain ⟨m,hm⟩:=(hG x).cont K Kw hc hl _ hr
   refine ⟨n+m,?_⟩
   simp only [hF.mono _ _ (chain_le hc n m) _ hn,Option.bind_some]
   rw [Nat.add_comm]
   exact (hG x).mono _ _ (chain_le hc m n) _ hm
theorem Cont.congr {α:Type} {F G:Fns→Option α} (h:Cont F) (e:∀ K,F K=G K):Cont G:=by
 have:F=G:=funext e
 exact this ▸ h
theorem Cont.map {α β:Type} {F:Fns→Option α} (f:α→β) (hF:Cont F):Cont fun K=>(F K).map f :=
 (hF.bind fun x=>Cont.const (some (f x))).congr fun K=>by cases F K<;>rfl
theorem Cont.ite {α:Type} {c:Prop} [Decidable c] {F G:Fns→Option α} (hF:Cont F) (hG:Cont G):Cont fun K=>if c then F K else G K:=by
 by_cases h:c
 ·exact hF.congr fun K=>by simp [h]
 ·exact hG.congr fun K=>by simp [h]
theorem loopN_mono {b b':St→Option (Ex × St)} (h:∀ s r,b s=some r→b' s=some r) (n:Nat):∀ s r,loopN b n s=some r→loopN b' n s=some r:=by
 induction n with
 | zero=>intro s r hr;simp [loopN] at hr
 | succ n ih =>
  intro s r hr
  simp only [loopN] at hr ⊢
  cases hb:b s with
  | none=>simp [hb] at hr
  | some x =>
   rw [h s x hb]
   obtain ⟨e,s'⟩:=x
   cases e<;>simp only [hb] at hr ⊢
   ·exact ih _ _ hr
   ·exact hr
   ·exact hr
theorem loopN_succ {b:St→Option (Ex × St)} (n:Nat):∀ s r,loopN b n s=some r→loopN b (n+1) s=some r:=by
 induction n with
 | zero=>intro s r hr;simp [loopN] at hr
 | succ n ih =>
  intro s r hr
  rw [loopN] at hr ⊢
  cases hb:b s with
  | none=>simp [hb] at hr
  | some x =>
   obtain ⟨e,s'⟩:=x
   cases e<;>simp only [hb] at hr ⊢
   ·exact ih _ _ hr
   ·exact hr
   ·exact hr
theorem loopN_add {b:St→Option (Ex × St)} (n d:Nat) (s:St) (r:Ex × St) (h:loopN b n s=some r):loopN b (n+d) s=some r:=by
 induction d with
 | zero=>exact h
 | succ d ih=>exact loopN_succ _ _ _ ih
theorem loopLim_iff {b:St→Option (Ex × St)} {s:St} {r:Ex × St}:loopLim b s=some r↔∃ n,loopN b n s=some r:=by
 unfold loopLim
 constructor
 ·intro h
  split at h
  ·rename_i hx
   obtain ⟨n,hn⟩:=hx.choose_spec
   exact ⟨n,by rw [hn,h]⟩
  ·cases h
 ·rintro ⟨n,hn⟩
  have hx:∃ r,∃ n,loopN b n s=some r:=⟨r,n,hn⟩
  rw [dif_pos hx]
  obtain ⟨m,hm⟩:=hx.choose_spec
  have h1:=loopN_add n m s r hn
  have h2:=loopN_add m n s _ hm
  rw [Nat.add_comm] at h2
  exact h2.symm.trans h1
theorem loopLim_eq (b:St→Option (Ex × St)) (s:St):loopLim b s=match b s with | some (.normal,s')=>loopLim b s' | r=>r:=by
 cases hb:b s with
 | none =>
  cases hl:loopLim b s with
  | none=>rfl
  | some r =>
   obtain ⟨n,hn⟩:=loopLim_iff.1 hl
   cases n with
   | zero=>simp [loopN] at hn
   | succ n=>simp [loopN,hb] at hn
 | some x =>
  obtain ⟨e,s'⟩:=x
  cases e with
  | normal =>
   simp only
   cases h2:loopLim b s' with
   | none =>
    cases hl:loopLim b s with
    | none=>rfl
    | some r =>
     obtain ⟨n,hn⟩:=loopLim_iff.1 hl
     cases n with
     | zero=>simp [loopN] at hn
     | succ n =>
      simp only [loopN,hb] at hn
      rw [loopLim_iff.2 ⟨n,hn⟩] at h2
      cases h2
   | some r =>
    obtain ⟨n,hn⟩:=loopLim_iff.1 h2
    exact loopLim_iff.2 ⟨n+1,by simp [loopN,hb,hn]⟩
  | exit id=>exact loopLim_iff.2 ⟨1,by simp [loopN,hb]⟩
  | ret=>exact loopLim_iff.2 ⟨1,by simp [loopN,hb]⟩
theorem Cont.loop {B:St→Fns→Option (Ex × St)} (h:∀ s,Cont (B s)) (s:St):Cont fun K=>loopLim (fun s=>B s K) s:=by
 constructor
 ·intro K K' hk r hr
  obtain ⟨n,hn⟩:=loopLim_iff.1 hr
  exact loopLim_iff.2 ⟨n,loopN_mono (fun s r=>(h s).mono K K' hk r) n s r hn⟩
 ·intro K Kw hc hl r hr
  obtain ⟨n,hn⟩:=loopLim_iff.1 hr
  clear hr
  suffices ∃ m,loopN (fun s=>B s (K m)) n s=some r by
   obtain ⟨m,hm⟩:=this
   exact ⟨m,loopLim_iff.2 ⟨n,hm⟩⟩
  induction n generalizing s with
  | zero=>simp [loopN] at hn
  | succ n ih =>
   simp only [loopN] at hn
   cases hb:B s Kw with
   | none=>simp [hb] at hn
   | some x =>
    obtain ⟨m,hm⟩:=(h s).cont K Kw hc hl _ hb
    obtain ⟨e,s'⟩:=x
    cases e with
    | normal =>
     simp only [hb] at hn
     obtain ⟨m',hm'⟩:=ih s' hn
     refine ⟨m+m',?_⟩
     simp only [loopN,(h s).mono _ _ (chain_le hc m m') _ hm]
     rw [Nat.add_comm]
     exact loopN_mono (fun s r=>(h s).mono _ _ (chain_le hc m' m) r) n s' r hm'
    | exit id=>simp only [hb] at hn;exact ⟨m,by simp only [loopN,hm];exact hn⟩
    | ret=>simp only [hb] at hn;exact ⟨m,by simp only [loopN,hm];exact hn⟩
section
variable (E:Env)
theorem callWith_cont (lax:Bool) (ms:List Mode) (f:FuncId) (as:List AV) (d:Option Nat) (s:St):Cont fun K=>callWith E K lax ms f as d s:=by
 unfold callWith
 cases moveArgs ms as s with
 | none=>exact Cont.const _
 | some q =>
 obtain ⟨ps,s0⟩:=q
 cases hpa:argsOf s0 ps with
 | none=>simp only [hpa];exact Cont.const _
 | some pa =>
  simp only [hpa]
  refine Cont.ite ?_ (Cont.const _)
  constructor
  ·intro K K' hk r hr
   cases hx:K f pa.args with
   | none=>simp [hx] at hr
   | some out=>simp only [hx] at hr;simp only [hk _ _ _ hx];exact hr
  ·intro K Kw hc hl r hr
   cases hx:Kw f pa.args with
   | none=>simp [hx] at hr
   | some out =>
    obtain ⟨n,hn⟩:=hl _ _ _ hx
    exact ⟨n,by simp only [hx] at hr;simp only [hn];exact hr⟩
theorem probe_cont (f:FuncId) (as:List AV) (s:St):Cont fun K=>probe E K f as s:=by
 unfold probe
 cases moveArgs (E.sig f) as s with
 | none=>exact Cont.const _
 | some q =>
 obtain ⟨ps,s0⟩:=q
 cases hpa:argsOf s0 ps with
 | none=>simp only [hpa];exact Cont.const _
 | some pa=>simp only [hpa];exact Cont.app _ _
theorem callFn_cont (f:FuncId) (as:List AV) (d:Option Nat) (s:St):Cont fun K=>callFn E K f as d s:=by
 unfold callFn
 cases E.alt2 f with
 | none=>exact callWith_cont E _ _ _ _ _ _
 | some ms=>exact (probe_cont E f as s).bind fun o=>Cont.ite (callWith_cont E _ _ _ _ _ _) (callWith_cont E _ _ _ _ _ _)
theorem evCallOp_cont (c:Call) (d:Option Nat) (s:St):Cont fun K=>evCallOp E K c d s:=by
 unfold evCallOp
 simp only
 split
 ·split
  ·exact callFn_cont E _ _ _ _
  ·exact Cont.const _
 all_goals exact Cont.const _
theorem evOp_cont (fz:List Nat) (o:Oper) (s:St):Cont fun K=>evOp E K fz o s:=by
 unfold evOp
 simp only
 split
 all_goals first | exact Cont.const _ | exact evCallOp_cont E _ _ _
theorem evG_cont (ops:Array Oper) (fz:List Nat) (o:Oper) (s:St):Cont fun K=>evG E K ops fz o s:=by
 unfold evG
 split
 ·exact evOp_cont E _ _ _
 ·split
  ·split
   ·exact Cont.ite (evOp_cont E _ _ _) (Cont.const _)
   ·exact Cont.const _
   ·exact Cont.const _
  ·exact Cont.const _
theorem evOps_cont (ops:Array Oper) (fz:List Nat):∀ (os:List Oper) (s:St),Cont fun K=>evOps E K ops fz os s
 | [],s=>Cont.const _
 | o::os,s=>((evG_cont E ops fz o s).bind fun s'=>evOps_cont ops fz os s').congr fun K=>by
  simp only [evOps];cases evG E K ops fz o s<;>rfl
theorem evOpsT_cont (ops:Array Oper) (fz:List Nat):∀ (os:List Oper) (s:St),Cont fun K=>evOpsT E K ops fz os s
 | [],s=>Cont.const _
 | o::os,s=>((evG_cont E ops fz o s).bind fun s'=>(evOpsT_cont ops fz os s').map fun x=>((opTouch E s o,opWr E s o,o.dst.getD 0)::x.1,x.2)).congr fun K=>by
  simp only [evOpsT]
  cases evG E K ops fz o s with
  | none=>rfl
  | some s' =>
   simp only [Option.bind_some]
   cases evOpsT E K ops fz os s' with
   | none=>rfl
   | some x=>rfl
theorem evDraw_cont (ops:Array Oper) (fz:List Nat) (conf:List (Nat × Nat)) (s:St):Cont fun K=>evDraw E K ops fz conf s :=
 ((evOpsT_cont E.st ops fz ops.toList s).bind fun x=>Cont.const (if apartOk x.1 conf then some x.2 else none)).congr fun K=>by
  simp only [evDraw]
  cases evOpsT E.st K ops fz ops.toList s<;>rfl
theorem evCode_cont (f:FuncId):∀ (c:Code) (s:St),Cont fun K=>evCode E K f c s
 | .skip,s=>Cont.const _
 | .label _,s=>Cont.const _
 | .exit _,s=>Cont.const _
 | .ret,s=>Cont.const _
 | .region id ops false,s=>(evOps_cont E ops (E.fz f) ops.toList s).map _
 | .region id ops true,s=>(evDraw_cont E ops (E.fz f) (E.conf f id) s).map _
 | .seq a b,s=>by
  have hb:=evCode_cont f b
  refine (Cont.bind (G:=fun x K=>match x with | (.normal,s')=>evCode E K f b s' | r=>some r) (evCode_cont f a s) ?_).congr fun K=>?_
  ·rintro ⟨e,s'⟩
   cases e
   ·exact hb s'
   ·exact Cont.const _
   ·exact Cont.const _
  ·simp only [evCode]
   cases evCode E K f a s with
   | none=>rfl
   | some x=>obtain ⟨e,s'⟩:=x;cases e<;>rfl
 | .cond c a b,s=>by
  simp only [evCode]
  split
  ·exact Cont.ite (evCode_cont f a s) (evCode_cont f b s)
  ·exact Cont.const _
 | .block id a,s=>((evCode_cont f a s).bind fun x=>Cont.const (match x with
   | (.exit id',s')=>if id'=id then some (.normal,s') else some (.exit id',s')
   | r=>some r)).congr fun K=>by
  simp only [evCode]
  cases evCode E K f a s with
  | none=>rfl
  | some x=>obtain ⟨e,s'⟩:=x;cases e<;>rfl
 | .loop a,s=>(Cont.loop (B:=fun s K=>evCode E K f a s) (fun s=>evCode_cont f a s) s).congr fun K=>by simp only [evCode]
 | .rangeFunc _ _ _ _,s=>Cont.const _
 | .scope _,s=>Cont.const _
 | .goto _,s=>Cont.const _
 | .refuse _,s=>Cont.const _
theorem evBody_cont (f:FuncId) (args:List Arg):Cont fun K=>evBody E K f args:=by
 unfold evBody
 split
 ·split
  ·refine Cont.ite ?_ (Cont.const _)
   rename_i _ fn _ _ c _
   refine ((evCode_cont E f c (enter 0 args)).bind fun x=>Cont.const (match x with
    | (.normal,s) | (.ret,s) =>
     match evResults E (E.fz f) fn.results.toList s with
     | some (rs,s')=>(outsOf s' args 0).map fun outs=>{ rs,outs }
     | none=>none
    | _=>none)).congr fun K=>?_
   cases evCode E K f c (enter 0 args) with
   | none=>rfl
   | some x=>obtain ⟨e,s'⟩:=x;cases e<;>rfl
  ·exact Cont.const _
 ·exact Cont.const _
theorem evN_chain:∀ n,(evN E n).le (evN E (n+1))
 | 0=>fun f a r h=>by simp [evN] at h
 | n+1=>fun f a r h=>by
  rw [evN] at h ⊢
  split at h
  ·exact h
  ·exact (evBody_cont E f a).mono _ _ (evN_chain n) r h
theorem ev_iff {f:FuncId} {a:List Arg} {r:Out}:ev E f a=some r↔∃ n,evN E n f a=some r:=by
 unfold ev
 constructor
 ·intro h
  split at h
  ·rename_i hx
   obtain ⟨n,hn⟩:=hx.choose_spec
   exact ⟨n,by rw [hn,h]⟩
  ·cases h
 ·rintro ⟨n,hn⟩
  have hx:∃ r,∃ n,evN E n f a=some r:=⟨r,n,hn⟩
  rw [dif_pos hx]
  obtain ⟨m,hm⟩:=hx.choose_spec
  have h1:=chain_le (evN_chain E) n m f a r hn
  have h2:=chain_le (evN_chain E) m n f a _ hm
  rw [Nat.add_comm] at h2
  exact h2.symm.trans h1
theorem ev_eq (f:FuncId) (a:List Arg):ev E f a=match E.ext f with | some k=>k a | none=>evBody E (ev E) f a:=by
 have hle:∀ n,(evN E n).le (ev E):=fun n f a r h=>(ev_iff E).2 ⟨n,h⟩
 cases hx:E.ext f with
 | some k =>
  simp only
  cases hk:k a with
  | none =>
   cases hl:ev E f a with
   | none=>rfl
   | some r =>
    obtain ⟨n,hn⟩:=(ev_iff E).1 hl
    cases n with
    | zero=>simp [evN] at hn
    | succ n=>simp [evN,hx,hk] at hn
  | some r=>exact (ev_iff E).2 ⟨1,by simp [evN,hx,hk]⟩
 | none =>
  simp only
  cases hb:evBody E (ev E) f a with
  | none =>
   cases hl:ev E f a with
   | none=>rfl
   | some r =>
    obtain ⟨n,hn⟩:=(ev_iff E).1 hl
    cases n with
    | zero=>simp [evN] at hn
    | succ n =>
     simp only [evN,hx] at hn
     rw [(evBody_cont E f a).mono _ _ (hle n) r hn] at hb
     cases hb
  | some r =>
   obtain ⟨n,hn⟩:=(evBody_cont E f a).cont (evN E) (ev E) (evN_chain E) (fun f a r h=>(ev_iff E).1 h) r hb
   exact (ev_iff E).2 ⟨n+1,by simp [evN,hx,hn]⟩
end
end Go.Ev


namespace Go.Ev
def tagV:Nat→Value→Bool
 | 0,.int .i64 _=>true
 | 1,.nilIface=>true
 | 1,.iface _ _=>true
 | 2,.nilIface=>true
 | 3,.iface _ _=>true
 | _,_=>false
theorem tagV_one {p:Nat} {v:Value} (h:tagV p v=true):v.oneCell'=true:=by
 unfold tagV at h
 split at h<;>first | rfl | cases h
def Same (w w':World) (b:Nat):Prop:=w'.heap[b]?=w.heap[b]?
mutual
inductive RepL (w:World):Bool→Value→L→List Nat→Prop
 | int (o k n):RepL w o (.int k n) (.int k n) []
 | bool (o b):RepL w o (.bool b) (.bool b) []
 | str (o) (b:ByteArray):RepL w o (.string b) (.str b.data.toList) []
 | dead (o v):v.oneCell'=true→RepL w o v .dead []
 | tag (o v p):tagV p v=true→RepL w o v (.tag p) []
 | sle (o a cap):(o=true→cap=0)→RepL w o (.slice a 0 cap) (.sl []) []
 | sl (o b off cap cs T fr xs sz S):w.heap[b]?=some (.cells cs T fr)→xs≠[]→0<sz→(∀ x∈xs,x.length=sz)→xs.length≤cap→off+cap*sz≤cs.size →
   RepLs w o ((cs.toList.drop off).take (xs.length*sz)) xs.flatten S→RepL w o (.slice (some ⟨b,off,none⟩) xs.length cap) (.sl xs) (b::S)
 | fn (f caps vs S):RepLs w false vs caps S→RepL w false (.func (.func f) #[] ⟨vs⟩) (.fn f caps) S
 | ref (b off cs T fr ls S):w.heap[b]?=some (.cells cs T fr)→off+ls.length≤cs.size→RepLs w false ((cs.toList.drop off).take ls.length) ls S→RepL w false (.pointer (some ⟨b,off,none⟩)) (.ref ls) (b::S)
inductive RepLs (w:World):Bool→List Value→List L→List Nat→Prop
 | nil (o):RepLs w o [] [] []
 | cons (o v l vs ls S S'):RepL w o v l S→RepLs w o vs ls S'→RepLs w o (v::vs) (l::ls) (S++S')
end
mutual
theorem RepL.frame {w w':World}:∀ {o v l S},RepL w o v l S→(∀ b∈S,Same w w' b)→RepL w' o v l S
 | _,_,_,_,.int o k n,_=>.int o k n
 | _,_,_,_,.bool o b,_=>.bool o b
 | _,_,_,_,.str o b,_=>.str o b
 | _,_,_,_,.dead o v h,_=>.dead o v h
 | _,_,_,_,.tag o v p h,_=>.tag o v p h
 | _,_,_,_,.sle o a cap h,_=>.sle o a cap h
 | _,_,_,_,.sl o b off cap cs T fr xs sz S hb hne hsz hx hc hl hr,h =>
  .sl o b off cap cs T fr xs sz S ((h b (by simp)).trans hb) hne hsz hx hc hl (RepLs.frame hr fun b hb=>h b (by simp [hb]))
 | _,_,_,_,.fn f caps vs S hr,h=>.fn f caps vs S (RepLs.frame hr h)
 | _,_,_,_,.ref b off cs T fr ls S hb hl hr,h=>.ref b off cs T fr ls S ((h b (by simp)).trans hb) hl (RepLs.frame hr fun b hb=>h b (by simp [hb]))
theorem RepLs.frame {w w':World}:∀ {o vs ls S},RepLs w o vs ls S→(∀ b∈S,Same w w' b)→RepLs w' o vs ls S
 | _,_,_,_,.nil o,_=>.nil o
 | _,_,_,_,.cons o v l vs ls S S' h1 h2,h=>.cons o v l vs ls S S' (RepL.frame h1 fun b hb=>h b (by simp [hb])) (RepLs.frame h2 fun b hb=>h b (by simp [hb]))
end
mutual
theorem RepL.weak {w:World}:∀ {o v l S},RepL w o v l S→RepL w false v l S
 | _,_,_,_,.int o k n=>.int _ k n
 | _,_,_,_,.bool o b=>.bool _ b
 | _,_,_,_,.str o b=>.str _ b
 | _,_,_,_,.dead o v h=>.dead _ v h
 | _,_,_,_,.tag o v p h=>.tag _ v p h
 | _,_,_,_,.sle o a cap h=>.sle _ a cap (by simp)
 | _,_,_,_,.sl o b off cap cs T fr xs sz S hb hne hsz hx hc hl hr=>.sl _ b off cap cs T fr xs sz S hb hne hsz hx hc hl (RepLs.weak hr)
 | _,_,_,_,.fn f caps vs S hr=>.fn f caps vs S hr
 | _,_,_,_,.ref b off cs T fr ls S hb hl hr=>.ref b off cs T fr ls S hb hl hr
theorem RepLs.weak {w:World}:∀ {o vs ls S},RepLs w o vs ls S→RepLs w false vs ls S
 | _,_,_,_,.nil o=>.nil _
 | _,_,_,_,.cons o v l vs ls S S' h1 h2=>.cons _ v l vs ls S S' (RepL.weak h1) (RepLs.weak h2)
end
mutual
theorem RepL.lt {w:World}:∀ {o v l S},RepL w o v l S→∀ b∈S,b<w.heap.size
 | _,_,_,_,.int o k n=>by simp
 | _,_,_,_,.bool o b=>by simp
 | _,_,_,_,.str o b=>by simp
 | _,_,_,_,.dead o v h=>by simp
 | _,_,_,_,.tag o v p h=>by simp
 | _,_,_,_,.sle o a cap h=>by simp
 | _,_,_,_,.sl o b off cap cs T fr xs sz S hb hne hsz hx hc hl hr=>by
  intro c hc'
  rcases List.mem_cons.1 hc' with rfl | h
  ·exact (Array.getElem?_eq_some_iff.1 hb).1
  ·exact RepLs.lt hr c h
 | _,_,_,_,.fn f caps vs S hr=>RepLs.lt hr
 | _,_,_,_,.ref b off cs T fr ls S hb hl hr=>by
  intro c hc'
  rcases List.mem_cons.1 hc' with rfl | h
  ·exact (Array.getElem?_eq_some_iff.1 hb).1
  ·exact RepLs.lt hr c h
theorem RepLs.lt {w:World}:∀ {o vs ls S},RepLs w o vs ls S→∀ b∈S,b<w.heap.size
 | _,_,_,_,.nil o=>by simp
 | _,_,_,_,.cons o v l vs ls S S' h1 h2=>by
  intro c hc
  rcases List.mem_append.1 hc with h | h
  ·exact RepL.lt h1 c h
  ·exact RepLs.lt h2 c h
end
theorem RepL.one {w:World} {o v l S} (h:RepL w o v l S):v.oneCell'=true:=by
 cases h<;>first | rfl | assumption | exact tagV_one ‹_›
theorem RepLs.one {w:World}:∀ {o vs ls S},RepLs w o vs ls S→∀ v∈vs,v.oneCell'=true
 | _,_,_,_,.nil o=>by simp
 | _,_,_,_,.cons o v l vs ls S S' h1 h2=>by
  intro u hu
  rcases List.mem_cons.1 hu with rfl | h
  ·exact h1.one
  ·exact RepLs.one h2 u h
theorem RepLs.len {w:World}:∀ {o vs ls S},RepLs w o vs ls S→vs.length=ls.length
 | _,_,_,_,.nil o=>rfl
 | _,_,_,_,.cons o v l vs ls S S' h1 h2=>by simp [RepLs.len h2]
theorem RepL.flatS {w:World} {o v l S} (h:RepL w o v l S) (hf:l.flat=true):S=[]:=by
 cases h<;>first | rfl | simp [L.flat] at hf
theorem RepLs.flatS {w:World}:∀ {o vs ls S},RepLs w o vs ls S→ls.all L.flat=true→S=[]
 | _,_,_,_,.nil o,_=>rfl
 | _,_,_,_,.cons o v l vs ls S S' h1 h2,hf=>by
  simp only [List.all_cons,Bool.and_eq_true] at hf
  simp [h1.flatS hf.1,RepLs.flatS h2 hf.2]
theorem RepL.flatAny {w:World} {o v l S} (h:RepL w o v l S) (hf:l.flat=true) (w':World) (o':Bool):RepL w' o' v l []:=by
 cases h<;>first | (simp [L.flat] at hf;done) | constructor
 all_goals assumption
theorem RepLs.flatAny {w:World}:∀ {o vs ls S},RepLs w o vs ls S→ls.all L.flat=true→∀ (w':World) (o':Bool),RepLs w' o' vs ls []
 | _,_,_,_,.nil o,_=>fun _ _=>.nil _
 | _,_,_,_,.cons o v l vs ls S S' h1 h2,hf=>fun w' o'=>by
  simp only [List.all_cons,Bool.and_eq_true] at hf
  exact .cons o' v l vs ls [] [] (h1.flatAny hf.1 w' o') (RepLs.flatAny h2 hf.2 w' o')
theorem RepLs.append {w:World} {o:Bool}:∀ {vs vs' ls ls' S S'},RepLs w o vs ls S→RepLs w o vs' ls' S'→RepLs w o (vs++vs') (ls++ls') (S++S')
 | _,_,_,_,_,_,.nil _,h=>h
 | _,_,_,_,_,_,.cons _ v l vs ls S S' h1 h2,h=>by
  simp only [List.cons_append,List.append_assoc]
  exact .cons _ _ _ _ _ _ _ h1 (RepLs.append h2 h)
theorem RepLs.split {w:World} {o:Bool}:∀ (n:Nat) {vs ls S},RepLs w o vs ls S→∃ S1 S2,S=S1++S2∧RepLs w o (vs.take n) (ls.take n) S1∧RepLs w o (vs.drop n) (ls.drop n) S2
 | 0,vs,ls,S,h=>⟨[],S,rfl,.nil _,h⟩
 | n+1,_,_,_,.nil _=>⟨[],[],rfl,.nil _,.nil _⟩
 | n+1,_,_,_,.cons _ v l vs ls S S' h1 h2=>by
  obtain ⟨S1,S2,rfl,h3,h4⟩:=RepLs.split n h2
  exact ⟨S++S1,S2,by simp,.cons _ _ _ _ _ _ _ h1 h3,h4⟩
theorem RepLs.single {w:World} {o v l S} (h:RepL w o v l S):RepLs w o [v] [l] S:=by
 have:=RepLs.cons o v l [] [] S [] h (.nil o)
 simpa using this
theorem RepLs.head {w:World} {o v vs l ls S} (h:RepLs w o (v::vs) (l::ls) S):∃ S1 S2,S=S1++S2∧RepL w o v l S1∧RepLs w o vs ls S2:=by
 cases h with
 | cons _ _ _ _ _ S S' h1 h2=>exact ⟨S,S',rfl,h1,h2⟩
def splice {α:Type} (xs:List α) (off:Nat) (new:List α):List α:=xs.take off++new++xs.drop (off+new.length)
theorem splice_length {α:Type} (xs:List α) (off:Nat) (new:List α) (h:off+new.length≤xs.length):(splice xs off new).length=xs.length:=by
 simp [splice];omega
theorem splice_apart {α:Type} {xs:List α} {off:Nat} {new:List α} (h:off+new.length≤xs.length) {o n:Nat} (hd:off+new.length≤o∨o+n≤off):((splice xs off new).drop o).take n=(xs.drop o).take n:=by
 unfold splice
 apply List.ext_getElem?
 intro j
 simp only [List.getElem?_append,List.getElem?_take,List.getElem?_drop,List.length_append,List.length_take]
 grind
theorem setRange_eq:∀ (new ls:List L) (off:Nat),off+new.length≤ls.length→setRange ls off new=splice ls off new
 | [],ls,off,_=>by simp [setRange,splice]
 | x::xs,ls,off,h=>by
  simp only [List.length_cons] at h
  rw [setRange,setRange_eq xs (ls.set off x) (off+1) (by simp;omega)]
  simp only [splice,List.length_cons]
  rw [List.take_set,List.drop_set_of_lt (by omega)]
  have h1:(ls.take (off+1)).set off x=ls.take off++[x]:=by
   rw [List.take_succ_eq_append_getElem (by omega),List.set_append_right _ _ (by simp;omega)]
   simp [Nat.min_eq_left (show off≤ls.length by omega)]
  rw [h1]
  simp [Nat.add_assoc,Nat.add_comm 1 xs.length]
theorem flatten_drop {α:Type} (sz:Nat):∀ (xs:List (List α)) (i:Nat),(∀ x∈xs,x.length=sz)→xs.flatten.drop (i*sz)=(xs.drop i).flatten
 | xs,0,_=>by simp
 | [],i+1,_=>by simp
 | x::xs,i+1,h=>by
  have hx:=h x (by simp)
  rw [List.flatten_cons,List.drop_append,List.drop_of_length_le (by rw [hx,Nat.succ_mul];omega),hx]
  simp only [List.nil_append,List.drop_succ_cons]
  rw [show (i+1)*sz - sz=i*sz by rw [Nat.succ_mul];omega]
  exact flatten_drop sz xs i fun y hy=>h y (by simp [hy])
theorem flatten_take {α:Type} (sz:Nat):∀ (xs:List (List α)) (i:Nat),(∀ x∈xs,x.length=sz)→xs.flatten.take (i*sz)=(xs.take i).flatten
 | xs,0,_=>by simp
 | [],i+1,_=>by simp
 | x::xs,i+1,h=>by
  have hx:=h x (by simp)
  rw [List.flatten_cons,List.take_append,List.take_of_length_le (by rw [hx,Nat.succ_mul];omega),hx]
  simp only [List.take_succ_cons,List.flatten_cons]
  rw [show (i+1)*sz - sz=i*sz by rw [Nat.succ_mul];omega,flatten_take sz xs i fun y hy=>h y (by simp [hy])]
theorem flatten_len {α:Type} (sz:Nat):∀ (xs:List (List α)),(∀ x∈xs,x.length=sz)→xs.flatten.length=xs.length*sz
 | [],_=>by simp
 | x::xs,h=>by
  simp only [List.flatten_cons,List.length_append,List.length_cons,h x (by simp),flatten_len sz xs fun y hy=>h y (by simp [hy]),Nat.succ_mul]
  omega
theorem flatten_row {α:Type} (sz:Nat) (xs:List (List α)) (i:Nat) (row:List α) (h:∀ x∈xs,x.length=sz) (hi:xs[i]?=some row):(xs.flatten.drop (i*sz)).take sz=row:=by
 obtain ⟨hlt,rfl⟩:=List.getElem?_eq_some_iff.1 hi
 rw [flatten_drop sz xs i h,List.drop_eq_getElem_cons hlt,List.flatten_cons]
 rw [List.take_append_of_le_length (by rw [h _ (List.getElem_mem hlt)];omega),List.take_of_length_le (by rw [h _ (List.getElem_mem hlt)];omega)]
theorem flatten_set {α:Type} (sz:Nat) (xs:List (List α)) (i:Nat) (row new:List α) (h:∀ x∈xs,x.length=sz) (hi:xs[i]?=some row) (hn:new.length=sz) :
  (xs.set i new).flatten=splice xs.flatten (i*sz) new:=by
 obtain ⟨hlt,rfl⟩:=List.getElem?_eq_some_iff.1 hi
 rw [List.set_eq_take_append_cons_drop,if_pos hlt]
 simp only [splice,List.flatten_append,List.flatten_cons]
 rw [flatten_take sz xs i h,hn,show i*sz+sz=(i+1)*sz by rw [Nat.succ_mul],flatten_drop sz xs (i+1) h]
 simp
theorem splice_splice {α:Type} (xs:List α) (p o:Nat) (sz:Nat) (new:List α) (hp:p+sz≤xs.length) (ho:o+new.length≤sz) :
  splice xs p (splice ((xs.drop p).take sz) o new)=splice xs (p+o) new:=by
 have hl:(splice ((xs.drop p).take sz) o new).length=sz:=by rw [splice_length _ _ _ (by simp;omega)];simp;omega
 unfold splice at hl ⊢
 rw [hl]
 apply List.ext_getElem?
 intro j
 simp only [List.getElem?_append,List.getElem?_take,List.getElem?_drop,List.length_append,List.length_take,List.length_drop]
 grind
end Go.Ev


namespace Go.Ev
theorem take_drop_of {α:Type} (ds:List α) (a L p n:Nat) (h:p+n≤L):(((ds.drop a).take L).drop p).take n=(ds.drop (a+p)).take n:=by
 apply List.ext_getElem?;intro j;grind
theorem splice_window {α:Type} (ds v:List α) (a L p:Nat) (h:p+v.length≤L) (hl:a+L≤ds.length):((splice ds (a+p) v).drop a).take L=splice ((ds.drop a).take L) p v:=by
 unfold splice
 apply List.ext_getElem?
 intro j
 simp only [List.getElem?_append,List.getElem?_take,List.getElem?_drop,List.length_append,List.length_take,List.length_drop]
 grind
theorem splice_self {α:Type} (xs:List α) (off n:Nat) (h:off+n≤xs.length):splice xs off ((xs.drop off).take n)=xs:=by
 unfold splice
 rw [List.length_take,List.length_drop,Nat.min_eq_left (by omega),← List.drop_drop,List.append_assoc,List.take_append_drop,List.take_append_drop]
theorem RepLs.range {w:World} {o vs ls S} (h:RepLs w o vs ls S) (off n:Nat) (hle:off+n≤ls.length) :
  ∃ S1 Sm S2,S=S1++Sm++S2∧RepLs w o (vs.take off) (ls.take off) S1∧RepLs w o ((vs.drop off).take n) ((ls.drop off).take n) Sm∧RepLs w o (vs.drop (off+n)) (ls.drop (off+n)) S2:=by
 obtain ⟨S1,S2,rfl,h1,h2⟩:=h.split off
 obtain ⟨S3,S4,rfl,h3,h4⟩:=h2.split n
 refine ⟨S1,S3,S4,by simp,h1,h3,?_⟩
 simpa [List.drop_drop] using h4
theorem RepLs.splice {w:World} {o vs ls S1 S' S2} {off:Nat} {vn new} (hlen:vn.length=new.length) (hv:off+new.length≤ls.length) (h1:RepLs w o (vs.take off) (ls.take off) S1) (h':RepLs w o vn new S') (h2:RepLs w o (vs.drop (off+new.length)) (ls.drop (off+new.length)) S2) :
  RepLs w o (splice vs off vn) (splice ls off new) (S1++S'++S2):=by
 unfold Go.Ev.splice
 rw [hlen]
 exact (h1.append h').append h2
theorem RepLs.nilS {w:World} {o S} (h:RepLs w o [] [] S):S=[]:=by cases h;rfl
def cpl (w:World):List Value→Nat→List Hop→Option (List Value)
 | cs,off,[]=>some (cs.drop off)
 | cs,off,(i,sz,o)::hs =>
  match cs[off]? with
  | some (.slice (some a) _ _) =>
   match w.heap[a.block]? with
   | some (.cells ds _ _)=>cpl w ((ds.toList.drop (a.off+i*sz)).take sz) o hs
   | _=>none
  | _=>none
def cad (w:World):List Value→Nat→List Hop→Option Addr
 | _,_,[]=>none
 | cs,off,(i,sz,o)::hs =>
  match cs[off]? with
  | some (.slice (some a) _ _) =>
   match hs with
   | []=>some ⟨a.block,a.off+i*sz+o,none⟩
   | hs =>
    match w.heap[a.block]? with
    | some (.cells ds _ _)=>cad w ((ds.toList.drop (a.off+i*sz)).take sz) o hs
    | _=>none
  | _=>none
theorem setPlace_len:∀ (hops:List Hop) (ls:List L) (off:Nat) (new suf:List L),place ls off hops=some suf→new.length≤suf.length→(setPlace ls off hops new).length=ls.length
 | [],ls,off,new,suf,hp,hn=>by
  simp only [place] at hp
  split at hp
  ·cases hp
   simp at hn
   rw [setPlace,setRange_eq _ _ _ (by omega),splice_length _ _ _ (by omega)]
  ·cases hp
 | (i,sz,o)::hs,ls,off,new,suf,hp,hn=>by
  simp only [setPlace]
  split<;>simp
structure Lens (w:World) (o:Bool) (cs:List Value) (ls:List L) (S:List Nat) (off:Nat) (hops:List Hop) (n:Nat) (sub:List L) where
 vs:List Value
 S1:List Nat
 Sm:List Nat
 S2:List Nat
 hS:S=S1++Sm++S2
 hc:(cpl w cs off hops).map (·.take n)=some vs
 rep:RepLs w o vs sub Sm
 len:sub.length=n
 same:∀ w' new S',new.length=n→(∀ b∈S1++S2,Same w w' b)→RepLs w' o vs new S'→RepLs w' o cs (setPlace ls off hops new) (S1++S'++S2)
 addr:hops≠[]→∃ b p ds T fr,cad w cs off hops=some ⟨b,p,none⟩∧b∈S1∧w.heap[b]?=some (.cells ds T fr)∧p+n≤ds.size∧(ds.toList.drop p).take n=vs ∧
  ∀ w' ds' T' fr' new vn S',S.Nodup→new.length=n→w'.heap[b]?=some (.cells ds' T' fr')→ds'.toList=splice ds.toList p vn→(∀ c∈S1++S2,c≠b→Same w w' c)→RepLs w' o vn new S' →
   RepLs w' o cs (setPlace ls off hops new) (S1++S'++S2)
theorem RepL.slCases {w:World} {o v xs S} (h:RepL w o v (.sl xs) S) (hne:xs≠[]):∃ b off cap cs T fr sz S0,v=.slice (some ⟨b,off,none⟩) xs.length cap∧S=b::S0∧w.heap[b]?=some (.cells cs T fr)∧0<sz∧(∀ x∈xs,x.length=sz) ∧
  xs.length≤cap∧off+cap*sz≤cs.size∧RepLs w o ((cs.toList.drop off).take (xs.length*sz)) xs.flatten S0:=by
 cases h with
 | sle=>exact absurd rfl hne
 | sl _ b off cap cs T fr _ sz S hb hne hsz hx hc hl hr=>exact ⟨b,off,cap,cs,T,fr,sz,S,rfl,rfl,hb,hsz,hx,hc,hl,hr⟩
theorem lens {w:World} {o:Bool}:∀ (hops:List Hop) {cs ls S off n suf},RepLs w o cs ls S→place ls off hops=some suf→n≤suf.length→Nonempty (Lens w o cs ls S off hops n (suf.take n))
 | [],cs,ls,S,off,n,suf,h,hp,hn=>by
  simp only [place] at hp
  split at hp<;>simp only [Option.some.injEq,reduceCtorEq] at hp
  subst hp
  simp only [List.length_drop] at hn
  obtain ⟨S1,Sm,S2,hS,h1,hm,h2⟩:=h.range off n (by omega)
  refine ⟨{ vs:=(cs.drop off).take n,S1,Sm,S2,hS,hc:=rfl,rep:=hm,len:=by simp;omega,same:=?_,addr:=fun h=>absurd rfl h }⟩
  intro w' new S' hl hs hr
  have hlv:((cs.drop off).take n).length=new.length:=hr.len
  have:=RepLs.splice (vs:=cs) (ls:=ls) (off:=off) hlv (by omega) (h1.frame fun b hb=>hs b (by simp [hb])) hr (by rw [hl];exact h2.frame fun b hb=>hs b (by simp [hb]))
  rw [splice_self cs off n (by have:=h.len;omega)] at this
  rw [setPlace,setRange_eq _ _ _ (by omega)]
  exact this
 | (i,sz,p)::hs,cs,ls,S,off,n,suf,h,hp,hn=>by
  simp only [place] at hp
  split at hp<;>try (simp only [reduceCtorEq] at hp;done)
  rename_i xs hxs
  split at hp<;>try (simp only [reduceCtorEq] at hp;done)
  rename_i row hrow
  split at hp<;>try (simp only [reduceCtorEq] at hp;done)
  rename_i hsz
  obtain ⟨hoff,hxe⟩:=List.getElem?_eq_some_iff.1 hxs
  obtain ⟨S1,Sm,S2,hS,h1,hm,h2⟩:=h.range off 1 (by omega)
  have hcs:=h.len
  have e1:(cs.drop off).take 1=[cs[off]'(by omega)]:=by rw [List.drop_eq_getElem_cons (by omega)];rfl
  have e2:(ls.drop off).take 1=[L.sl xs]:=by rw [List.drop_eq_getElem_cons hoff,hxe];rfl
  rw [e1,e2] at hm
  obtain ⟨Sa,Sb,hSab,hl,hnil⟩:=hm.head
  obtain rfl:=hnil.nilS
  have hne:xs≠[]:=by intro e;subst e;simp at hrow
  obtain ⟨b,aoff,cap,ds,T,fr,sz',S0,hv,hS0,hb,hsz',hx,hcap,hsize,hr⟩:=hl.slCases hne
  have hszz:sz'=sz:=by rw [← hsz];exact (hx row (List.mem_of_getElem? hrow)).symm
  subst hszz
  obtain ⟨hi,hie⟩:=List.getElem?_eq_some_iff.1 hrow
  have hcv:cs[off]?=some (.slice (some ⟨b,aoff,none⟩) xs.length cap):=by rw [List.getElem?_eq_getElem (by omega),hv]
  have hfl:=flatten_len sz' xs hx
  have hisz:i*sz'+sz'≤xs.length*sz':=by have:=Nat.mul_le_mul_right sz' (show i+1≤xs.length by omega);rw [Nat.succ_mul] at this;exact this
  have hcapsz:xs.length*sz'≤cap*sz':=Nat.mul_le_mul_right sz' hcap
  have hds:ds.toList.length=ds.size:=by simp
  -- the leaf put back
  have back:∀ (w':World) (ds':Array Value) (T':TypeId) (fr':Nat × Nat) (xs':List (List L)) (Si:List Nat),xs'.length=xs.length→(∀ x∈xs',x.length=sz')→w'.heap[b]?=some (.cells ds' T' fr')→ds'.size=ds.size →
    (∀ c∈S1++S2,Same w w' c)→RepLs w' o ((ds'.toList.drop aoff).take (xs.length*sz')) xs'.flatten Si→RepLs w' o cs (ls.set off (.sl xs')) (S1++(b::Si)++S2):=by
   intro w' ds' T' fr' xs' Si hlen hx' hb' hsz2 hsm hr'
   have hne':xs'≠[]:=by intro e;rw [e] at hlen;simp at hlen;exact hne (List.eq_nil_of_length_eq_zero hlen.symm)
   have hleaf:=RepL.sl (w:=w') o b aoff cap ds' T' fr' xs' sz' Si hb' hne' hsz' hx' (by omega) (by omega) (by rw [hlen];exact hr')
   rw [hlen] at hleaf
   have hq:=RepLs.splice (vs:=cs) (ls:=ls) (off:=off) (vn:=[.slice (some ⟨b,aoff,none⟩) xs.length cap]) (new:=[.sl xs']) rfl (by simp;omega) (h1.frame fun c hc=>hsm c (by simp [hc])) (RepLs.single hleaf) (h2.frame fun c hc=>hsm c (by simp [hc]))
   have e3:splice cs off [Value.slice (some ⟨b,aoff,none⟩) xs.length cap]=cs:=by
    have:=splice_self cs off 1 (by omega)
    rwa [e1,hv] at this
   rw [e3] at hq
   have e4:splice ls off [L.sl xs']=ls.set off (.sl xs'):=by rw [← setRange_eq _ _ _ (by simp;omega)];rfl
   rwa [e4] at hq
  have hset:∀ new,setPlace ls off ((i,sz',p)::hs) new=ls.set off (.sl (xs.set i (setPlace row p hs new))):=by
   intro new;simp [setPlace,hxs,List.getD,hrow]
  cases hs with
  | nil =>
   simp only [place] at hp
   split at hp<;>simp only [Option.some.injEq,reduceCtorEq] at hp
   rename_i hpl
   subst hp
   simp only [List.length_drop] at hn
   obtain ⟨R1,Rm,R2,hR,r1,rm,r2⟩:=hr.range (i*sz'+p) n (by rw [hfl];omega)
   have erow:(xs.flatten.drop (i*sz'+p)).take n=(row.drop p).take n:=by
    have:=flatten_row sz' xs i row hx hrow
    rw [← this,take_drop_of _ _ _ _ _ (by omega)]
   have ecell:(((ds.toList.drop aoff).take (xs.length*sz')).drop (i*sz'+p)).take n=(ds.toList.drop (aoff+i*sz'+p)).take n:=by
    rw [take_drop_of _ _ _ _ _ (by omega),Nat.add_assoc]
   rw [erow,ecell] at rm
   have efl:∀ new:List L,new.length=n→(xs.set i (setPlace row p [] new)).flatten=splice xs.flatten (i*sz'+p) new:=by
    intro new hnew
    rw [setPlace,setRange_eq _ _ _ (by omega),flatten_set sz' xs i row _ hx hrow (by rw [splice_length _ _ _ (by omega)];exact hsz)]
    have:=splice_splice xs.flatten (i*sz') p sz' new (by omega) (by omega)
    rw [flatten_row sz' xs i row hx hrow] at this
    exact this
   have hx2:∀ new:List L,new.length=n→∀ x∈xs.set i (setPlace row p [] new),x.length=sz':=by
    intro new hnew x hxm
    rcases List.mem_or_eq_of_mem_set hxm with hh | rfl
    ·exact hx x hh
    ·rw [setPlace,setRange_eq _ _ _ (by omega),splice_length _ _ _ (by omega)];exact hsz
   refine ⟨{ vs:=(ds.toList.drop (aoff+i*sz'+p)).take n,S1:=S1++b::R1,Sm:=Rm,S2:=R2++S2,hS:=?_,hc:=?_,rep:=rm,len:=by simp;omega,same:=?_,addr:=?_ }⟩
   ·rw [hS,hSab,hS0,hR];simp
   ·simp only [cpl,hcv,hb,Option.map_some,Option.some.injEq]
    rw [take_drop_of _ _ _ _ _ (by omega)]
   ·intro w' new S' hnew hsm hr'
    have hbs:w'.heap[b]?=some (.cells ds T fr):=(hsm b (by simp)).trans hb
    have hq:=back w' ds T fr (xs.set i (setPlace row p [] new)) (R1++S'++R2) (by simp) (hx2 new hnew) hbs rfl (fun c hc=>hsm c (by simp at hc ⊢;rcases hc with h | h<;>simp [h])) (by
     rw [efl new hnew]
     have:=RepLs.splice (vs:=(ds.toList.drop aoff).take (xs.length*sz')) (ls:=xs.flatten) (off:=i*sz'+p) (hr'.len) (by omega) (r1.frame fun c hc=>hsm c (by simp [hc])) hr' (by rw [hnew];exact r2.frame fun c hc=>hsm c (by simp [hc]))
     rw [← ecell,splice_self _ _ _ (by simp;omega)] at this
     exact this)
    rw [hset]
    simpa using hq
   ·intro _
    refine ⟨b,aoff+i*sz'+p,ds,T,fr,by simp [cad,hcv],by simp,hb,by omega,rfl,?_⟩
    intro w' ds' T' fr' new vn S' hnd hnew hb' hds' hsm hr'
    have hvn:vn.length=n:=by rw [hr'.len,hnew]
    have hnb:∀ c,(c∈S1++S2∨c∈R1++R2)→c≠b:=by
     intro c hc e
     subst e
     rw [hS,hSab,hS0,hR] at hnd
     simp only [List.append_nil,List.nodup_append,List.nodup_cons,List.mem_append,List.mem_cons] at hnd hc
     grind
    have hq:=back w' ds' T' fr' (xs.set i (setPlace row p [] new)) (R1++S'++R2) (by simp) (hx2 new hnew) hb' (by
      rw [← Array.length_toList,hds',splice_length _ _ _ (by omega)];simp) (fun c hc=>hsm c (by simp at hc ⊢;rcases hc with h | h<;>simp [h]) (hnb c (.inl hc))) (by
     rw [efl new hnew,hds',Nat.add_assoc,splice_window _ _ _ _ _ (by omega) (by omega)]
     exact RepLs.splice (by omega) (by omega) (r1.frame fun c hc=>hsm c (by simp [hc]) (hnb c (.inr (by simp [hc])))) hr' (by rw [hnew];exact r2.frame fun c hc=>hsm c (by simp [hc]) (hnb c (.inr (by simp [hc])))))
    rw [hset]
    simpa using hq
  | cons h' hs' =>
   obtain ⟨R1,Rm,R2,hR,r1,rm,r2⟩:=hr.range (i*sz') sz' (by rw [hfl];omega)
   rw [flatten_row sz' xs i row hx hrow,take_drop_of _ _ _ _ _ (by omega)] at rm
   obtain ⟨ln⟩:=lens (h'::hs') rm hp hn
   have efl:∀ new:List L,new.length=n→(xs.set i (setPlace row p (h'::hs') new)).flatten=splice xs.flatten (i*sz') (setPlace row p (h'::hs') new):=by
    intro new hnew
    exact flatten_set sz' xs i row _ hx hrow (by rw [setPlace_len _ _ _ _ _ hp (by omega)];exact hsz)
   have hx2:∀ new:List L,new.length=n→∀ x∈xs.set i (setPlace row p (h'::hs') new),x.length=sz':=by
    intro new hnew x hxm
    rcases List.mem_or_eq_of_mem_set hxm with hh | rfl
    ·exact hx x hh
    ·rw [setPlace_len _ _ _ _ _ hp (by omega)];exact hsz
   -- the row put back
   have rowBack:∀ (w':World) (new:List L) (Si:List Nat),new.length=n→w'.heap[b]?=some (.cells ds T fr)→(∀ c∈S1++S2,Same w w' c)→(∀ c∈R1++R2,Same w w' c) →
     RepLs w' o ((ds.toList.drop (aoff+i*sz')).take sz') (setPlace row p (h'::hs') new) Si→RepLs w' o cs (setPlace ls off ((i,sz',p)::h'::hs') new) (S1++(b::(R1++Si++R2))++S2):=by
    intro w' new Si hnew hb' hsm hsr hr'
    have hlr:(setPlace row p (h'::hs') new).length=sz':=by rw [setPlace_len _ _ _ _ _ hp (by omega)];exact hsz
    rw [hset]
    refine back w' ds T fr _ _ (by simp) (hx2 new hnew) hb' rfl hsm ?_
    rw [efl new hnew]
    have:=RepLs.splice (vs:=(ds.toList.drop aoff).take (xs.length*sz')) (ls:=xs.flatten) (off:=i*sz') hr'.len (by omega) (r1.frame fun c hc=>hsr c (by simp [hc])) hr' (by rw [hlr];exact r2.frame fun c hc=>hsr c (by simp [hc]))
    rw [← take_drop_of ds.toList aoff (xs.length*sz') (i*sz') sz' (by omega),splice_self _ _ _ (by simp;omega)] at this
    exact this
   refine ⟨{ vs:=ln.vs,S1:=S1++b::(R1++ln.S1),Sm:=ln.Sm,S2:=ln.S2++R2++S2,hS:=?_,hc:=?_,rep:=ln.rep,len:=ln.len,same:=?_,addr:=?_ }⟩
   ·rw [hS,hSab,hS0,hR]
    exact (congrArg (fun q=>S1++(b::(R1++q++R2)++[])++S2) ln.hS).trans (by simp)
   ·simp only [cpl,hcv,hb];exact ln.hc
   ·intro w' new S' hnew hsm hr'
    have hi2:=ln.same w' new S' hnew (fun c hc=>hsm c (by simp at hc ⊢;rcases hc with h | h<;>simp [h])) hr'
    have:=rowBack w' new _ hnew ((hsm b (by simp)).trans hb) (fun c hc=>hsm c (by simp at hc ⊢;rcases hc with h | h<;>simp [h])) (fun c hc=>hsm c (by simp at hc ⊢;rcases hc with h | h<;>simp [h])) hi2
    simpa using this
   ·intro _
    obtain ⟨b2,p2,ds2,T2,fr2,hcad,hmem,hb2,hsz2,hvs2,hwr⟩:=ln.addr (by simp)
    refine ⟨b2,p2,ds2,T2,fr2,?_,by simp [hmem],hb2,hsz2,hvs2,?_⟩
    ·simp only [cad,hcv,hb];exact hcad
    ·intro w' ds' T' fr' new vn S' hnd hnew hb' hds' hsm hr'
     have hnd:(S1++(b::(R1++(ln.S1++ln.Sm++ln.S2)++R2)++[])++S2).Nodup:=by
      rw [hS,hSab,hS0,hR] at hnd
      exact (congrArg (fun q=>(S1++(b::(R1++q++R2)++[])++S2).Nodup) ln.hS) ▸ hnd
     have hnb:∀ c,(c∈S1++S2∨c∈R1++R2∨c=b)→c≠b2:=by
      intro c hc e
      subst e
      simp only [List.append_nil,List.nodup_append,List.nodup_cons,List.mem_append,List.mem_cons] at hnd hc
      grind
     have hnd2:Rm.Nodup:=by
      have:(ln.S1++ln.Sm++ln.S2).Nodup:=by
       simp only [List.append_nil,List.nodup_append,List.nodup_cons,List.mem_append,List.mem_cons] at hnd ⊢
       grind
      exact ln.hS ▸ this
     have hi2:=hwr w' ds' T' fr' new vn S' hnd2 hnew hb' hds' (fun c hc hcb=>hsm c (by simp at hc ⊢;rcases hc with h | h<;>simp [h]) hcb) hr'
     have:=rowBack w' new _ hnew ((hsm b (by simp) (hnb b (.inr (.inr rfl)))).trans hb) (fun c hc=>hsm c (by simp at hc ⊢;rcases hc with h | h<;>simp [h]) (hnb c (.inl hc))) (fun c hc=>hsm c (by simp at hc ⊢;rcases hc with h | h<;>simp [h]) (hnb c (.inr (.inl hc)))) hi2
     simpa using this
end Go.Ev


namespace Go.Ev
theorem cpl_same {w w':World} {o:Bool}:∀ (hops:List Hop) {cs ls S off suf},RepLs w o cs ls S→place ls off hops=some suf→(∀ b∈S,Same w w' b) →
  cpl w' cs off hops=cpl w cs off hops∧cad w' cs off hops=cad w cs off hops
 | [],_,_,_,_,_,_,_,_=>⟨rfl,rfl⟩
 | (i,sz,p)::hs,cs,ls,S,off,suf,h,hp,hs'=>by
  simp only [place] at hp
  split at hp<;>try (simp only [reduceCtorEq] at hp;done)
  rename_i xs hxs
  split at hp<;>try (simp only [reduceCtorEq] at hp;done)
  rename_i row hrow
  split at hp<;>try (simp only [reduceCtorEq] at hp;done)
  rename_i hsz
  obtain ⟨hoff,hxe⟩:=List.getElem?_eq_some_iff.1 hxs
  obtain ⟨S1,Sm,S2,hS,h1,hm,h2⟩:=h.range off 1 (by omega)
  have hcs:=h.len
  have e1:(cs.drop off).take 1=[cs[off]'(by omega)]:=by rw [List.drop_eq_getElem_cons (by omega)];rfl
  have e2:(ls.drop off).take 1=[L.sl xs]:=by rw [List.drop_eq_getElem_cons hoff,hxe];rfl
  rw [e1,e2] at hm
  obtain ⟨Sa,Sb,hSab,hl,hnil⟩:=hm.head
  have hne:xs≠[]:=by intro e;subst e;simp at hrow
  obtain ⟨b,aoff,cap,ds,T,fr,sz',S0,hv,hS0,hb,hsz',hx,hcap,hsize,hr⟩:=hl.slCases hne
  have hszz:sz'=sz:=by rw [← hsz];exact (hx row (List.mem_of_getElem? hrow)).symm
  subst hszz
  obtain ⟨hi,hie⟩:=List.getElem?_eq_some_iff.1 hrow
  have hcv:cs[off]?=some (.slice (some ⟨b,aoff,none⟩) xs.length cap):=by rw [List.getElem?_eq_getElem (by omega),hv]
  have hfl:=flatten_len sz' xs hx
  have hisz:i*sz'+sz'≤xs.length*sz':=by have:=Nat.mul_le_mul_right sz' (show i+1≤xs.length by omega);rw [Nat.succ_mul] at this;exact this
  have hb':w'.heap[b]?=some (.cells ds T fr):=(hs' b (by rw [hS,hSab,hS0];simp)).trans hb
  obtain ⟨R1,Rm,R2,hR,r1,rm,r2⟩:=hr.range (i*sz') sz' (by rw [hfl];omega)
  rw [flatten_row sz' xs i row hx hrow,take_drop_of _ _ _ _ _ (by omega)] at rm
  obtain ⟨ih1,ih2⟩:=cpl_same hs rm hp (fun c hc=>hs' c (by rw [hS,hSab,hS0,hR];simp [hc]))
  constructor
  ·simp only [cpl,hcv,hb,hb'];exact ih1
  ·simp only [cad,hcv,hb,hb']
   cases hs with
   | nil=>rfl
   | cons h2 hs2=>simp only;exact ih2
theorem cad_one (w w':World) (cs:List Value) (off:Nat) (h:Hop):cad w cs off [h]=cad w' cs off [h]:=by
 obtain ⟨i,sz,o⟩:=h
 simp only [cad]
inductive Loc where
 | blk (b:Nat)
 | vals (cs:List Value)
def Loc.cells (w:World):Loc→List Value
 | .blk b=>match w.heap[b]? with | some (.cells cs _ _)=>cs.toList | _=>[]
 | .vals cs=>cs
def Al (R B:Nat→Prop):M→Nat→Prop
 | .own=>fun _=>False
 | .ro=>R
 | .tn=>fun b=>R b∨B b
theorem Al.sub {R B:Nat→Prop} {m:M} {b:Nat} (h:Al R B m b):R b∨B b:=by
 cases m with
 | own=>exact h.elim
 | ro=>exact .inl h
 | tn=>exact h
theorem Al.mono {R R' B:Nat→Prop} {m:M} {b:Nat} (hr:∀ b,R b→R' b) (h:Al R B m b):Al R' B m b:=by
 cases m with
 | own=>exact h.elim
 | ro=>exact hr b h
 | tn=>exact h.imp (hr b) id
def Free (w:World) (b:Nat):Prop:=∃ cs T fr,w.heap[b]?=some (.cells cs T fr)∧∀ o,o<cs.size→¬ (fr.1≤o∧o<fr.2)
theorem Free.same {w w':World} {b:Nat} (h:Free w b) (hs:Same w w' b):Free w' b:=by
 obtain ⟨cs,T,fr,h1,h2⟩:=h
 exact ⟨cs,T,fr,hs.trans h1,h2⟩
theorem Free.lt {w:World} {b:Nat} (h:Free w b):b<w.heap.size:=by
 obtain ⟨cs,T,fr,h1,_⟩:=h
 exact (Array.getElem?_eq_some_iff.1 h1).1
def boxRep (w:World) (R:Nat→Prop) (h:HC) (loc:Loc) (ob:List Nat):Prop :=
 (h.box=true∧∃ b cs T fr,loc=.blk b∧w.heap[b]?=some (.cells cs T fr)∧((h.wr=true∧ob=[b])∨(h.wr=false∧ob=[]∧R b)))∨(h.box=false∧(∃ cs,loc=.vals cs)∧ob=[])
structure HRep (w:World) (R B:Nat→Prop) (h:HC) (loc:Loc) (fp:List Nat) where
 S:List Nat
 ob:List Nat
 rep:RepLs w h.m.isOwn (loc.cells w) h.ls S
 fpe:fp=ob++(if h.m.isOwn then S else [])
 al:h.m.isOwn=true∨∀ b∈S,Al R B h.m b
 bx:boxRep w R h loc ob
def isAgg:Value→Bool
 | .agg _=>true
 | _=>false
def AVRep1 (w:World) (R B:Nat→Prop) (H:List (Root × HC)) (loc:Root→Loc) (v:Value):AV→Prop
 | .dead=>True
 | .nil=>∃ a,v=.slice a 0 0
 | .v m agg ls=>∃ S,RepLs w false v.cells.toList ls S∧isAgg v=agg∧(∀ b∈S,Al R B m b)∧(m.isOwn=true→ls.all L.flat=true)
 | .at r k0 k1 off hops n agg=>∃ h,lookH H r=some h∧k0≤h.e0∧k1≤h.e1∧(h.okAt off n hops k0 k1=true→(place h.ls off hops).isSome=true→isAgg v=agg∧(cpl w ((loc r).cells w) off hops).map (·.take n)=some v.cells.toList)
 | .ad r k0 k1 off hops=>∃ h,lookH H r=some h∧k0≤h.e0∧k1≤h.e1∧(h.okAd off hops k0 k1=true →
   match hops with
   | []=>∃ b,loc r=.blk b∧v=.pointer (some ⟨b,off,none⟩)
   | [_]=>∃ a,cad w ((loc r).cells w) off hops=some a∧v=.pointer (some a)
   | _=>(place h.ls off hops).isSome=true→∃ a,cad w ((loc r).cells w) off hops=some a∧v=.pointer (some a))
 | .win r k0 k1 off lo n=>∃ h,lookH H r=some h∧k0≤h.e0∧k1≤h.e1∧(k0=h.e0→∃ a cap,cad w ((loc r).cells w) off [(lo,1,0)]=some a∧v=.slice (some a) n cap)
 | .tup _=>False
def AVRep (w:World) (R B:Nat→Prop) (H:List (Root × HC)) (loc:Root→Loc) (v:Value):AV→Prop
 | .tup xs=>∃ vs:List Value,v=.tuple ⟨vs⟩∧vs.length=xs.length∧∀ (i:Nat) (u:Value) (x:AV),vs[i]?=some u→xs[i]?=some x→AVRep1 w R B H loc u x
 | a=>AVRep1 w R B H loc v a
structure Kp (w0 w:World) (G:Nat→Prop):Prop where
 os:w.os=w0.os
 tape:w.tape=w0.tape
 output:w.output=w0.output
 size:w0.heap.size≤w.heap.size
 block:∀ k,k<w0.heap.size→¬ G k→w.heap[k]?=w0.heap[k]?
def Loc.isBlk:Loc→Bool
 | .blk _=>true
 | .vals _=>false
structure Cf where
 w0:World
 G:Nat→Prop
 R0:Nat→Prop
 B:Nat→Prop
 N:Nat
 PL:Nat→Option Loc
def Held (C:Cf) (w:World) (R:Nat→Prop) (b:Nat):Prop:=¬ R b∧¬ C.B b∧Free w b∧(C.w0.heap.size≤b∨C.G b)
structure Inv (C:Cf) (s:St) (a:Act) (w:World) (R:Nat→Prop) (loc:Root→Loc) (fp:Root→List Nat) (F:List Nat):Prop where
 kp:Kp C.w0 w C.G
 r0:∀ b,C.R0 b→R b
 rnew:∀ b,R b→C.R0 b∨C.w0.heap.size≤b∨C.G b
 rlt:∀ b,R b∨C.B b→b<w.heap.size
 rep:∀ r h,lookH s.H r=some h→Nonempty (HRep w R C.B h (loc r) (fp r))
 held:∀ r h,lookH s.H r=some h→∀ b∈fp r,Held C w R b
 nd:∀ r h,lookH s.H r=some h→(fp r).Nodup
 dj:∀ r h r' h',lookH s.H r=some h→lookH s.H r'=some h'→r≠r'→∀ b∈fp r,b ∉ fp r'
 fheld:∀ b∈F,Held C w R b
 fnd:F.Nodup
 fdj:∀ r h,lookH s.H r=some h→∀ b∈F,b ∉ fp r
 av:∀ t,AVRep w R C.B s.H loc (a.tmps.getD t undef) (look s.V t)
 df:a.defers=[]
 sz:a.tmps.size=C.N
 pl:∀ i b,C.PL i=some b→loc (.p i)=b∧i∈s.ps∧∃ h,lookH s.H (.p i)=some h∧h.box=b.isBlk
structure Wst (w w':World) (X:Nat→Prop):Prop where
 os:w'.os=w.os
 tape:w'.tape=w.tape
 output:w'.output=w.output
 size:w.heap.size≤w'.heap.size
 block:∀ k,k<w.heap.size→¬ X k→w'.heap[k]?=w.heap[k]?
theorem Wst.refl (w:World):Wst w w fun _=>False:=⟨rfl,rfl,rfl,Nat.le_refl _,fun _ _ _=>rfl⟩
theorem Wst.alloc (w:World) (o:Obj):Wst w (w.alloc o) fun _=>False :=
 ⟨rfl,rfl,rfl,by show w.heap.size≤(w.heap.push o).size;rw [Array.size_push];omega,fun k hk _=>by show (w.heap.push o)[k]?=_;rw [Array.getElem?_push,if_neg (by omega)]⟩
theorem RepLs.any {w:World} {o vs ls S} (h:RepLs w o vs ls S):(o=true→RepLs w true vs ls S)∧RepLs w false vs ls S:=⟨fun e=>e ▸ h,h.weak⟩
theorem Loc.cells_same {w w':World} {R:Nat→Prop} {h:HC} {loc:Loc} {ob:List Nat} (hb:boxRep w R h loc ob) (hs:∀ b,b∈ob∨R b→Same w w' b):loc.cells w'=loc.cells w:=by
 rcases hb with ⟨_,b,cs,T,fr,rfl,hbb,hw⟩ | ⟨_,⟨cs,rfl⟩,_⟩
 ·have:Same w w' b:=by
   rcases hw with ⟨_,rfl⟩ | ⟨_,_,hr⟩
   ·exact hs b (.inl (by simp))
   ·exact hs b (.inr hr)
  simp only [Loc.cells,this.trans hbb,hbb]
 ·rfl
theorem HRep.frame {w w':World} {R R' B:Nat→Prop} {h:HC} {loc:Loc} {fp:List Nat} (hr:HRep w R B h loc fp) (hR:∀ b,R b→R' b) (hs:∀ b,b∈fp∨R b∨B b→Same w w' b) :
  Nonempty (HRep w' R' B h loc fp)∧loc.cells w'=loc.cells w:=by
 have hob:∀ b,b∈hr.ob∨R b→Same w w' b:=by
  intro b hb
  rcases hb with hb | hb
  ·exact hs b (.inl (by rw [hr.fpe];simp [hb]))
  ·exact hs b (.inr (.inl hb))
 have hc:=Loc.cells_same hr.bx hob
 have hS:∀ b∈hr.S,Same w w' b:=by
  intro b hb
  rcases hr.al with ho | ha
  ·exact hs b (.inl (by rw [hr.fpe,ho];simp [hb]))
  ·exact hs b (.inr (ha b hb).sub)
 refine ⟨⟨{ S:=hr.S,ob:=hr.ob,rep:=hc ▸ hr.rep.frame hS,fpe:=hr.fpe,al:=hr.al.imp id fun ha b hb=>(ha b hb).mono hR,bx:=?_ }⟩,hc⟩
 rcases hr.bx with ⟨h1,b,cs,T,fr,h2,hbb,hw⟩ | h3
 ·left
  refine ⟨h1,b,cs,T,fr,h2,?_,hw.imp id fun ⟨x,y,z⟩=>⟨x,y,hR b z⟩⟩
  rcases hw with ⟨_,e⟩ | ⟨_,_,hrb⟩
  ·exact (hob b (.inl (by rw [e];simp))).trans hbb
  ·exact (hob b (.inr hrb)).trans hbb
 ·exact .inr h3
theorem AVRep1.frame {w w':World} {R R' B:Nat→Prop} {H H':List (Root × HC)} {loc loc':Root→Loc} {fp:Root→List Nat} {v:Value} {x:AV} (hx:AVRep1 w R B H loc v x)
  (hrep:∀ r h,lookH H r=some h→Nonempty (HRep w R B h (loc r) (fp r))) (hR:∀ b,R b→R' b) (hRB:∀ b,R b∨B b→Same w w' b) (bad:Root→Prop)
  (hH:∀ r h,lookH H r=some h→¬ bad r→lookH H' r=some h∧loc' r=loc r∧∀ b∈fp r,Same w w' b)
  (hbad:∀ r,bad r→r∈root1 x→AVRep1 w' R' B H' loc' v x):AVRep1 w' R' B H' loc' v x:=by
 cases x with
 | dead=>trivial
 | nil=>exact hx
 | tup xs=>exact hx.elim
 | v m agg ls =>
  obtain ⟨S,h1,h2,h3,h4⟩:=hx
  exact ⟨S,h1.frame fun b hb=>hRB b (h3 b hb).sub,h2,fun b hb=>(h3 b hb).mono hR,h4⟩
 | «at» r k0 k1 off hops n agg =>
  by_cases hb:bad r
  ·exact hbad r hb (by simp [root1])
  ·obtain ⟨h,h1,h2,h3,h4⟩:=hx
   obtain ⟨g1,g2,g3⟩:=hH r h h1 hb
   refine ⟨h,g1,h2,h3,fun ok hp=>?_⟩
   obtain ⟨h5,h6⟩:=h4 ok hp
   obtain ⟨hr⟩:=hrep r h h1
   obtain ⟨suf,hsuf⟩:=Option.isSome_iff_exists.1 hp
   have hc:=Loc.cells_same hr.bx (w':=w') fun b hb'=>hb'.elim (fun q=>g3 b (by rw [hr.fpe];simp [q])) fun q=>hRB b (.inl q)
   refine ⟨h5,?_⟩
   rw [g2,hc,(cpl_same hops hr.rep hsuf fun b hb'=>?_).1]
   ·exact h6
   ·rcases hr.al with ho | ha
    ·exact g3 b (by rw [hr.fpe,ho];simp [hb'])
    ·exact hRB b (ha b hb').sub
 | win r k0 k1 off lo n =>
  by_cases hb:bad r
  ·exact hbad r hb (by simp [root1])
  ·obtain ⟨h,h1,h2,h3,h4⟩:=hx
   obtain ⟨g1,g2,g3⟩:=hH r h h1 hb
   refine ⟨h,g1,h2,h3,fun ok=>?_⟩
   obtain ⟨hr⟩:=hrep r h h1
   have hc:=Loc.cells_same hr.bx (w':=w') fun b hb'=>hb'.elim (fun q=>g3 b (by rw [hr.fpe];simp [q])) fun q=>hRB b (.inl q)
   obtain ⟨a,cap,ha,hv⟩:=h4 ok
   refine ⟨a,cap,?_,hv⟩
   rw [g2,hc]
   exact (cad_one w' w _ _ _).trans ha
 | ad r k0 k1 off hops =>
  by_cases hb:bad r
  ·exact hbad r hb (by simp [root1])
  ·obtain ⟨h,h1,h2,h3,h4⟩:=hx
   obtain ⟨g1,g2,g3⟩:=hH r h h1 hb
   refine ⟨h,g1,h2,h3,fun ok=>?_⟩
   have h5:=h4 ok
   obtain ⟨hr⟩:=hrep r h h1
   have hc:=Loc.cells_same hr.bx (w':=w') fun b hb'=>hb'.elim (fun q=>g3 b (by rw [hr.fpe];simp [q])) fun q=>hRB b (.inl q)
   match hops,h5 with
   | [],h5=>rw [g2];exact h5
   | [hp1],⟨a,ha,hv⟩ =>
    refine ⟨a,?_,hv⟩
    rw [g2,hc]
    exact (cad_one w' w _ _ _).trans ha
   | hp1::hp2::hps,h5 =>
    intro hp
    obtain ⟨suf,hsuf⟩:=Option.isSome_iff_exists.1 hp
    obtain ⟨a,ha,hv⟩:=h5 hp
    refine ⟨a,?_,hv⟩
    rw [g2,hc,(cpl_same _ hr.rep hsuf fun b hb'=>?_).2]
    ·exact ha
    ·rcases hr.al with ho | hal
     ·exact g3 b (by rw [hr.fpe,ho];simp [hb'])
     ·exact hRB b (hal b hb').sub
theorem AVRep.frame {w w':World} {R R' B:Nat→Prop} {H H':List (Root × HC)} {loc loc':Root→Loc} {fp:Root→List Nat} {v:Value} {x:AV} (hx:AVRep w R B H loc v x)
  (hrep:∀ r h,lookH H r=some h→Nonempty (HRep w R B h (loc r) (fp r))) (hR:∀ b,R b→R' b) (hRB:∀ b,R b∨B b→Same w w' b) (bad:Root→Prop)
  (hH:∀ r h,lookH H r=some h→¬ bad r→lookH H' r=some h∧loc' r=loc r∧∀ b∈fp r,Same w w' b)
  (hbad:∀ r y u,bad r→r∈root1 y→AVRep1 w R B H loc u y→AVRep1 w' R' B H' loc' u y):AVRep w' R' B H' loc' v x:=by
 have key:∀ u y,AVRep1 w R B H loc u y→AVRep1 w' R' B H' loc' u y:=fun u y hy=>AVRep1.frame hy hrep hR hRB bad hH fun r hb hr=>hbad r y u hb hr hy
 cases x with
 | tup xs =>
  obtain ⟨vs,h1,h2,h3⟩:=hx
  exact ⟨vs,h1,h2,fun i u x hu hx=>key u x (h3 i u x hu hx)⟩
 | dead=>exact key v .dead hx
 | nil=>exact key v .nil hx
 | v m agg ls=>exact key v (.v m agg ls) hx
 | «at» r k0 k1 off hops n agg=>exact key v (.at r k0 k1 off hops n agg) hx
 | ad r k0 k1 off hops=>exact key v (.ad r k0 k1 off hops) hx
 | win r k0 k1 off lo n=>exact key v (.win r k0 k1 off lo n) hx
def upd {α:Type} (f:Root→α) (r:Root) (x:α):Root→α:=fun q=>if q=r then x else f q
@[simp] theorem upd_same {α:Type} (f:Root→α) (r:Root) (x:α):upd f r x r=x:=by simp [upd]
theorem upd_ne {α:Type} (f:Root→α) {r q:Root} (x:α) (h:q≠r):upd f r x q=f q:=by simp [upd,h]
theorem lookH_put (s:St) (r:Root) (h:HC) (q:Root):lookH (s.putH r h).H q=if r=q then some h else lookH s.H q:=rfl
theorem Inv.root {C:Cf} {s:St} {a:Act} {w w':World} {R R':Nat→Prop} {loc:Root→Loc} {fp:Root→List Nat} {F F':List Nat} (I:Inv C s a w R loc fp F) (r:Root) (h':HC) (locr:Loc) (fpr:List Nat)
  (mine:Nat→Prop) (hmine:∀ b,mine b→b∈F∨((∃ h,lookH s.H r=some h)∧b∈fp r))
  (ws:Wst w w' mine) (hR:∀ b,R b→R' b) (hR':∀ b,R' b→R b∨mine b∨(w.heap.size≤b∧b<w'.heap.size))
  (hrep:Nonempty (HRep w' R' C.B h' locr fpr))
  (hfr:∀ b∈fpr++F',(mine b∨w.heap.size≤b)∧¬ R' b∧Free w' b) (hnd:(fpr++F').Nodup)
  (hF:∀ b∈F,b ∉ F'→mine b∨True)
  (hal:∀ y u,r∈root1 y→AVRep1 w R C.B s.H loc u y→AVRep1 w' R' C.B (s.putH r h').H (upd loc r locr) u y)
  (hpl:∀ i b,r=.p i→C.PL i=some b→locr=b∧h'.box=b.isBlk) :
  Inv C (s.putH r h') a w' R' (upd loc r locr) (upd fp r fpr) F':=by
 have hmH:∀ b,mine b→Held C w R b:=fun b hb=>(hmine b hb).elim (I.fheld b) fun ⟨⟨h,hh⟩,q⟩=>I.held r h hh b q
 have hRB:∀ b,R b∨C.B b→Same w w' b:=fun b hb=>ws.block b (I.rlt b hb) fun hm=>hb.elim (hmH b hm).1 (hmH b hm).2.1
 have hother:∀ q h,lookH s.H q=some h→q≠r→∀ b∈fp q,Same w w' b∧¬ mine b∧b<w.heap.size:=by
  intro q h hq hne b hb
  have hlt:=(I.held q h hq b hb).2.2.1.lt
  have hnm:¬ mine b:=by
   intro hm
   rcases hmine b hm with h1 | ⟨⟨h2,hh2⟩,h3⟩
   ·exact I.fdj q h hq b h1 hb
   ·exact I.dj r h2 q h hh2 hq (fun e=>hne e.symm) b h3 hb
  exact ⟨ws.block b hlt hnm,hnm,hlt⟩
 have hRlt:∀ b,R' b→b<w'.heap.size:=fun b hb=>by
  rcases hR' b hb with h1 | h1 | h1
  ·have:=I.rlt b (.inl h1);have:=ws.size;omega
  ·have:=(hmH b h1).2.2.1.lt;have:=ws.size;omega
  ·exact h1.2
 have hold:∀ q h,lookH s.H q=some h→q≠r→∀ b∈fp q,Held C w' R' b:=by
  intro q h hq hne b hb
  obtain ⟨h1,h2,h3⟩:=hother q h hq hne b hb
  obtain ⟨k1,k2,k3,k4⟩:=I.held q h hq b hb
  refine ⟨fun hr=>?_,k2,k3.same h1,k4⟩
  rcases hR' b hr with g | g | g
  ·exact k1 g
  ·exact h2 g
  ·omega
 have hnew:∀ b∈fpr++F',Held C w' R' b:=by
  intro b hb
  obtain ⟨h1,h2,h3⟩:=hfr b hb
  refine ⟨h2,?_,h3,?_⟩
  ·rcases h1 with h1 | h1
   ·exact (hmH b h1).2.1
   ·intro hB;have:=I.rlt b (.inr hB);omega
  ·rcases h1 with h1 | h1
   ·exact (hmH b h1).2.2.2
   ·have:=I.kp.size;exact .inl (by omega)
 have hapart:∀ q h,lookH s.H q=some h→q≠r→∀ b∈fpr++F',b ∉ fp q:=by
  intro q h hq hne b hb hbq
  obtain ⟨_,h2,h3⟩:=hother q h hq hne b hbq
  rcases (hfr b hb).1 with g | g
  ·exact h2 g
  ·omega
 have hndp:=List.nodup_append.1 hnd
 refine
  {kp:=⟨ws.os.trans I.kp.os,ws.tape.trans I.kp.tape,ws.output.trans I.kp.output,Nat.le_trans I.kp.size ws.size,fun k hk hg=>?_⟩
   r0:=fun b hb=>hR b (I.r0 b hb)
   rnew:=fun b hb=>?_
   rlt:=fun b hb=>hb.elim (hRlt b) fun q=>Nat.lt_of_lt_of_le (I.rlt b (.inr q)) ws.size
   rep:=fun q h hq=>?_,held:=fun q h hq=>?_,nd:=fun q h hq=>?_,dj:=fun q h q' h2 hq hq' hne=>?_
   fheld:=fun b hb=>hnew b (by simp [hb]),fnd:=hndp.2.1,fdj:=fun q h hq b hb=>?_
   av:=fun t=>?_,df:=I.df,sz:=I.sz
   pl:=fun i b hb=>by
    obtain ⟨e1,e2,h,e3,e4⟩:=I.pl i b hb
    by_cases e:r=.p i
    ·obtain ⟨q1,q2⟩:=hpl i b e hb
     exact ⟨by rw [← e,upd_same];exact q1,e2,h',by rw [lookH_put,if_pos e],q2⟩
    ·exact ⟨by rw [upd_ne _ _ fun x=>e x.symm];exact e1,e2,h,by rw [lookH_put,if_neg e];exact e3,e4⟩ }
 ·rw [ws.block k (by have:=I.kp.size;omega) fun hm=>?_]
  ·exact I.kp.block k hk hg
  ·rcases (hmH k hm).2.2.2 with g | g
   ·omega
   ·exact hg g
 ·rcases hR' b hb with g | g | g
  ·exact I.rnew b g
  ·exact .inr (hmH b g).2.2.2
  ·have:=I.kp.size;exact .inr (.inl (by omega))
 ·rw [lookH_put] at hq
  by_cases e:r=q
  ·subst e;simp only [if_true,Option.some.injEq] at hq;subst hq;simp only [upd_same];exact hrep
  ·rw [if_neg e] at hq
   have hne:q≠r:=fun x=>e x.symm
   rw [upd_ne _ _ hne,upd_ne _ _ hne]
   obtain ⟨hr⟩:=I.rep q h hq
   exact (hr.frame hR fun b hb=>hb.elim (fun x=>(hother q h hq hne b x).1) (hRB b)).1
 ·rw [lookH_put] at hq
  by_cases e:r=q
  ·subst e;simp only [upd_same];exact fun b hb=>hnew b (by simp [hb])
  ·rw [if_neg e] at hq
   have hne:q≠r:=fun x=>e x.symm
   rw [upd_ne _ _ hne]
   exact hold q h hq hne
 ·rw [lookH_put] at hq
  by_cases e:r=q
  ·subst e;simp only [upd_same];exact hndp.1
  ·rw [if_neg e] at hq
   rw [upd_ne _ _ (fun x=>e x.symm)]
   exact I.nd q h hq
 ·rw [lookH_put] at hq hq'
  by_cases e:r=q
  ·subst e
   have hne':q'≠r:=fun x=>hne x.symm
   rw [if_neg hne] at hq'
   simp only [upd_same,upd_ne _ _ hne']
   exact fun b hb=>hapart q' h2 hq' hne' b (by simp [hb])
  ·rw [if_neg e] at hq
   have hqr:q≠r:=fun x=>e x.symm
   rw [upd_ne _ _ hqr]
   by_cases e':r=q'
   ·subst e'
    simp only [upd_same]
    exact fun b hb hb'=>hapart q h hq hqr b (by simp [hb']) hb
   ·rw [if_neg e'] at hq'
    rw [upd_ne _ _ (fun x=>e' x.symm)]
    exact I.dj q h q' h2 hq hq' hne
 ·rw [lookH_put] at hq
  by_cases e:r=q
  ·subst e;simp only [upd_same];exact fun hb'=>hndp.2.2 b hb' b hb rfl
  ·rw [if_neg e] at hq
   have hne:q≠r:=fun x=>e x.symm
   rw [upd_ne _ _ hne]
   exact hapart q h hq hne b (by simp [hb])
 ·refine AVRep.frame (I.av t) I.rep hR hRB (fun q=>q=r) (fun q h hq hne=>⟨?_,upd_ne _ _ hne,fun b hb=>(hother q h hq hne b hb).1⟩) fun q y u hb hr hy=>hal y u (hb ▸ hr) hy
  rw [lookH_put,if_neg fun e=>hne e.symm];exact hq
theorem Inv.plKeep {C:Cf} {s:St} {a:Act} {w:World} {R:Nat→Prop} {loc:Root→Loc} {fp:Root→List Nat} {F:List Nat} {r:Root} {h h':HC} (I:Inv C s a w R loc fp F) (hh:lookH s.H r=some h) (hb:h'.box=h.box):∀ i b,r=.p i→C.PL i=some b→loc r=b∧h'.box=b.isBlk:=by
 rintro i b rfl hp
 obtain ⟨e1,_,h0,e3,e4⟩:=I.pl i b hp
 rw [hh] at e3;cases e3
 exact ⟨e1,hb.trans e4⟩
theorem Inv.plNew {C:Cf} {s:St} {a:Act} {w:World} {R:Nat→Prop} {loc:Root→Loc} {fp:Root→List Nat} {F:List Nat} {r:Root} {h':HC} {locr:Loc} (I:Inv C s a w R loc fp F) (hn:lookH s.H r=none):∀ i b,r=.p i→C.PL i=some b→locr=b∧h'.box=b.isBlk:=by
 rintro i b rfl hp
 obtain ⟨_,_,h0,e3,_⟩:=I.pl i b hp
 rw [hn] at e3;cases e3
end Go.Ev


namespace Go.Ev
theorem getD_put (a:Act) (d:Option Nat) (v:Value) (t N:Nat) (hN:a.tmps.size=N) (hd:∀ x,d=some x→x<N):(a.put d v).tmps.getD t undef=if d=some t then v else a.tmps.getD t undef:=by
 cases d with
 | none=>simp [Act.put]
 | some x =>
  have:=hd x rfl
  simp only [Act.put,Option.some.injEq,Array.getD_eq_getD_getElem?,Array.getElem?_setIfInBounds]
  by_cases h:x=t
  ·subst h;simp [hN,this]
  ·simp [h]
theorem Inv.put {C:Cf} {s:St} {a:Act} {w:World} {R:Nat→Prop} {loc:Root→Loc} {fp:Root→List Nat} {F:List Nat} (I:Inv C s a w R loc fp F) {d:Option Nat} {v:Value} {x:AV}
  (hd:∀ y,d=some y→y<C.N) (hx:AVRep w R C.B s.H loc v x):Inv C (s.put d x) (a.put d v) w R loc fp F:=by
 cases d with
 | none=>exact I
 | some d =>
  exact { I with
   av:=fun t=>by
    rw [getD_put a (some d) v t C.N I.sz (fun y hy=>hd y hy)]
    simp only [St.put,look,Option.some.injEq]
    by_cases h:d=t
    ·simp only [if_pos h];exact hx
    ·simp only [if_neg h];exact I.av t
   sz:=by simpa [Act.put] using I.sz }
theorem Inv.drop {C:Cf} {s:St} {a:Act} {w:World} {R:Nat→Prop} {loc:Root→Loc} {fp:Root→List Nat} {F:List Nat} (F':List Nat) (I:Inv C s a w R loc fp F) (h:∀ b∈F',b∈F) (hn:F'.Nodup):Inv C s a w R loc fp F' :=
 { I with fheld:=fun b hb=>I.fheld b (h b hb),fnd:=hn,fdj:=fun r hh hr b hb=>I.fdj r hh hr b (h b hb) }
theorem alias_set {w w':World} {R R' B:Nat→Prop} {s:St} {loc loc':Root→Loc} {r:Root} {h h':HC} {y:AV} {u:Value} (hy:AVRep1 w R B s.H loc u y) (hr:r∈root1 y) (hh:lookH s.H r=some h)
  (hl:loc' r=loc r) (hbox:h'.box=h.box) (hlen:h'.ls.length=h.ls.length)
  (hc:(h'.e0=h.e0+1∧h.e1≤h'.e1∧(h'.lz=none∨∃ a m,h'.lz=some (a,m)∧∀ o n,a+m≤o∨o+n≤a→(((loc r).cells w').drop o).take n=(((loc r).cells w).drop o).take n))∨(h'.e0=h.e0∧h'.e1=h.e1+1∧h'.lz=h.lz∧(loc r).cells w'=(loc r).cells w)):AVRep1 w' R' B (s.putH r h').H loc' u y:=by
 have hp:lookH (s.putH r h').H r=some h':=by simp [lookH_put]
 cases y with
 | dead=>trivial
 | nil=>exact hy
 | v m agg ls=>simp [root1] at hr
 | tup xs=>exact hy.elim
 | «at» q k0 k1 off hops n agg =>
  simp only [root1,List.mem_singleton] at hr
  subst hr
  obtain ⟨h0,g1,g2,g3,g4⟩:=hy
  rw [hh] at g1
  cases g1
  refine ⟨h',hp,by omega,by omega,fun ok pl=>?_⟩
  cases hops with
  | nil =>
   have hpl:(place h.ls off []).isSome=true:=by
    simp only [place] at pl ⊢
    split at pl<;>simp at pl
    rw [if_pos (by omega)];rfl
   simp only [HC.okAt,Bool.or_eq_true,Bool.and_eq_true,beq_iff_eq] at ok
   rcases hc with ⟨c1,_,c3⟩ | ⟨c1,_,c2,c3⟩
   ·rcases ok with ok | ⟨ok,kp⟩
    ·omega
    ·rcases c3 with c3 | ⟨a,m,c3,c4⟩
     ·simp [HC.keeps,c3] at kp
     ·simp only [HC.keeps,c3,Bool.or_eq_true,decide_eq_true_eq] at kp
      obtain ⟨t1,t2⟩:=g4 (by simp [HC.okAt];omega) hpl
      refine ⟨t1,?_⟩
      rw [hl]
      simp only [cpl,Option.map_some,Option.some.injEq] at t2 ⊢
      rw [c4 off n kp]
      exact t2
   ·have:=g4 (by
     simp only [HC.okAt,Bool.or_eq_true,Bool.and_eq_true,beq_iff_eq]
     rw [c1] at ok
     exact ok.imp id fun q=>⟨q.1,by simpa [HC.keeps,c2] using q.2⟩) hpl
    rw [hl,c3]
    exact this
  | cons h1 hs =>
   simp only [HC.okAt,Bool.and_eq_true,beq_iff_eq] at ok
   omega
 | ad q k0 k1 off hops =>
  simp only [root1,List.mem_singleton] at hr
  subst hr
  obtain ⟨h0,g1,g2,g3,g4⟩:=hy
  rw [hh] at g1
  cases g1
  refine ⟨h',hp,by omega,by omega,fun ok=>?_⟩
  match hops,g4,ok with
  | [],g4,ok=>rw [hl];exact g4 (by simpa [HC.okAd,hbox] using ok)
  | [h1],g4,ok =>
   simp only [HC.okAd,Bool.or_eq_true,Bool.and_eq_true,beq_iff_eq] at ok
   rcases hc with ⟨c1,_,c3⟩ | ⟨c1,_,c2,c3⟩
   ·rcases ok with ok | ⟨ok,kp⟩
    ·omega
    ·rcases c3 with c3 | ⟨a0,m0,c3,c4⟩
     ·simp [HC.keeps,c3] at kp
     ·simp only [HC.keeps,c3,Bool.or_eq_true,decide_eq_true_eq] at kp
      obtain ⟨a,ha,hv⟩:=g4 (by simp [HC.okAd];omega)
      have he:=c4 off 1 kp
      have he2:((loc r).cells w')[off]?=((loc r).cells w)[off]?:=by
       have:=congrArg (fun l:List Value=>l[0]?) he
       simpa [List.getElem?_take,List.getElem?_drop] using this
      refine ⟨a,?_,hv⟩
      rw [hl,← ha]
      obtain ⟨i,sz,p⟩:=h1
      simp only [cad,he2]
   ·obtain ⟨a,ha,hv⟩:=g4 (by
     simp only [HC.okAd,Bool.or_eq_true,Bool.and_eq_true,beq_iff_eq]
     rw [c1] at ok
     exact ok.imp id fun q=>⟨q.1,by simpa [HC.keeps,c2] using q.2⟩)
    exact ⟨a,by rw [hl,c3];exact (cad_one w' w _ _ _).trans ha,hv⟩
  | h1::h2::hs,g4,ok =>
   simp only [HC.okAd,Bool.and_eq_true,beq_iff_eq] at ok
   omega
 | win q k0 k1 off lo n =>
  simp only [root1,List.mem_singleton] at hr
  subst hr
  obtain ⟨h0,g1,g2,g3,g4⟩:=hy
  rw [hh] at g1
  cases g1
  refine ⟨h',hp,by omega,by omega,fun ok=>?_⟩
  rcases hc with ⟨c1,_⟩ | ⟨c1,_,_,c3⟩
  ·omega
  ·obtain ⟨a,cap,ha,hv⟩:=g4 (by omega)
   exact ⟨a,cap,by rw [hl,c3];exact (cad_one w' w _ _ _).trans ha,hv⟩
theorem alias_freeze {w:World} {R R' B:Nat→Prop} {s:St} {loc loc':Root→Loc} {r:Root} {h h':HC} {y:AV} {u:Value} (hy:AVRep1 w R B s.H loc u y) (hr:r∈root1 y) (hh:lookH s.H r=some h)
  (hl:loc' r=loc r) (hbox:h'.box=h.box) (hls:h'.ls=h.ls) (h0:h'.e0=h.e0) (h1:h'.e1=h.e1) (hz:h'.lz=h.lz):AVRep1 w R' B (s.putH r h').H loc' u y:=by
 have hp:lookH (s.putH r h').H r=some h':=by simp [lookH_put]
 cases y with
 | dead=>trivial
 | nil=>exact hy
 | v m agg ls=>simp [root1] at hr
 | tup xs=>exact hy.elim
 | «at» q k0 k1 off hops n agg =>
  simp only [root1,List.mem_singleton] at hr
  subst hr
  obtain ⟨hx,g1,g2,g3,g4⟩:=hy
  rw [hh] at g1
  cases g1
  refine ⟨h',hp,by omega,by omega,fun ok pl=>?_⟩
  rw [hl]
  refine g4 ?_ (by rw [← hls];exact pl)
  cases hops<;>simpa [HC.okAt,HC.keeps,h0,h1,hz] using ok
 | ad q k0 k1 off hops =>
  simp only [root1,List.mem_singleton] at hr
  subst hr
  obtain ⟨hx,g1,g2,g3,g4⟩:=hy
  rw [hh] at g1
  cases g1
  refine ⟨h',hp,by omega,by omega,fun ok=>?_⟩
  have:=g4 (by
   match hops,ok with
   | [],ok=>simpa [HC.okAd,hbox] using ok
   | [_],ok=>simpa [HC.okAd,HC.keeps,h0,hz] using ok
   | _::_::_,ok=>simpa [HC.okAd,h0,h1] using ok)
  rw [hl,hls]
  exact this
 | win q k0 k1 off lo n =>
  simp only [root1,List.mem_singleton] at hr
  subst hr
  obtain ⟨hx,g1,g2,g3,g4⟩:=hy
  rw [hh] at g1
  cases g1
  refine ⟨h',hp,by omega,by omega,fun ok=>?_⟩
  rw [hl]
  exact g4 (by omega)
theorem lookH_same (s:St) (r:Root) (h:HC):lookH (s.putH r h).H r=some h:=by simp [lookH_put]
theorem getAt_spec {s:St} {r k0 k1 off hops n h sub} (hg:s.getAt r k0 k1 off hops n=some (h,sub)):lookH s.H r=some h∧h.okAt off n hops k0 k1=true∧∃ suf,place h.ls off hops=some suf∧n≤suf.length∧sub=suf.take n:=by
 unfold St.getAt at hg
 split at hg<;>try (cases hg;done)
 rename_i h0 hh
 split at hg<;>try (cases hg;done)
 rename_i ok
 split at hg<;>try (cases hg;done)
 rename_i suf hs
 split at hg<;>try (cases hg;done)
 rename_i hn
 simp only [Option.some.injEq,Prod.mk.injEq] at hg
 obtain ⟨rfl,rfl⟩:=hg
 exact ⟨hh,ok,suf,hs,hn,rfl⟩
theorem getAd_spec {s:St} {r k0 k1 off hops h suf} (hg:s.getAd r k0 k1 off hops=some (h,suf)):lookH s.H r=some h∧h.okAd off hops k0 k1=true∧place h.ls off hops=some suf:=by
 unfold St.getAd at hg
 split at hg<;>try (cases hg;done)
 rename_i h0 hh
 split at hg<;>try (cases hg;done)
 rename_i ok
 split at hg<;>try (cases hg;done)
 rename_i sf hs
 simp only [Option.some.injEq,Prod.mk.injEq] at hg
 obtain ⟨rfl,rfl⟩:=hg
 exact ⟨hh,ok,hs⟩
theorem own_of {m:M} (h:m.isOwn=true):m=.own:=by cases m<;>simp [M.isOwn] at h;rfl
section
variable {C:Cf} {s:St} {a:Act} {w:World} {R:Nat→Prop} {loc:Root→Loc} {fp:Root→List Nat} {F:List Nat}
theorem Inv.atVal (I:Inv C s a w R loc fp F) {v:Value} {r k0 k1 off hops n agg h sub} (hv:AVRep1 w R C.B s.H loc v (.at r k0 k1 off hops n agg)) (hg:s.getAt r k0 k1 off hops n=some (h,sub)) :
  ∃ (hr:HRep w R C.B h (loc r) (fp r)) (ln:Lens w h.m.isOwn ((loc r).cells w) h.ls hr.S off hops n sub),lookH s.H r=some h∧isAgg v=agg∧ln.vs=v.cells.toList:=by
 obtain ⟨hh,ok,suf,hp,hn,rfl⟩:=getAt_spec hg
 obtain ⟨h0,g1,g2,g3,g4⟩:=hv
 rw [hh] at g1
 cases g1
 obtain ⟨e1,e2⟩:=g4 ok (by rw [hp];rfl)
 obtain ⟨hr⟩:=I.rep r h hh
 obtain ⟨ln⟩:=lens hops hr.rep hp hn
 refine ⟨hr,ln,hh,e1,?_⟩
 have:=ln.hc
 rw [e2] at this
 exact (Option.some.inj this).symm
theorem Inv.peek (I:Inv C s a w R loc fp F) {v:Value} {x:AV} {m agg ls} (hv:AVRep w R C.B s.H loc v x) (hp:s.peek x=some (m,agg,ls)) :
  ∃ S,RepLs w false v.cells.toList ls S∧isAgg v=agg∧(∀ b∈S,b<w.heap.size):=by
 cases x with
 | dead=>simp [St.peek] at hp
 | tup xs=>simp [St.peek] at hp
 | ad r k0 k1 off hops=>simp [St.peek] at hp
 | win r k0 k1 off lo n=>simp [St.peek] at hp
 | nil =>
  simp only [St.peek,Option.some.injEq,Prod.mk.injEq] at hp
  obtain ⟨rfl,rfl,rfl⟩:=hp
  obtain ⟨a',rfl⟩:=hv
  exact ⟨[],RepLs.single (.sle _ _ _ (by simp)),rfl,by simp⟩
 | v m' agg' ls' =>
  simp only [St.peek,Option.some.injEq,Prod.mk.injEq] at hp
  obtain ⟨rfl,rfl,rfl⟩:=hp
  obtain ⟨S,h1,h2,h3,_⟩:=hv
  exact ⟨S,h1,h2,h1.lt⟩
 | «at» r k0 k1 off hops n agg' =>
  simp only [St.peek] at hp
  split at hp<;>try (cases hp;done)
  rename_i h sub hg
  simp only [Option.some.injEq,Prod.mk.injEq] at hp
  obtain ⟨rfl,rfl,rfl⟩:=hp
  obtain ⟨hr,ln,hh,e1,e2⟩:=I.atVal hv hg
  refine ⟨ln.Sm,e2 ▸ ln.rep.weak,e1,ln.rep.lt⟩
theorem deadened_rep {w:World} {o:Bool}:∀ {vs ls S},RepLs w o vs ls S→∀ (w':World) (o':Bool),RepLs w' o' vs (deadened ls) []
 | _,_,_,.nil _,w',o'=>.nil _
 | _,_,_,.cons _ v l vs ls S S' h1 h2,w',o'=>by
  have ih:=deadened_rep h2 w' o'
  refine .cons o' v _ vs (deadened ls) [] [] ?_ ih
  by_cases hf:l.flat=true
  ·simp only [hf,if_true];exact h1.flatAny hf w' o'
  ·simp only [if_neg hf];exact .dead _ _ h1.one
theorem deadened_len (ls:List L):(deadened ls).length=ls.length:=by simp [deadened]
structure Taken (C:Cf) (s':St) (a:Act) (w:World) (R:Nat→Prop) (F:List Nat) (v:Value) (m:M) (agg:Bool) (ls:List L) (V:List (Nat × AV)) where
 R':Nat→Prop
 loc':Root→Loc
 fp':Root→List Nat
 S:List Nat
 inv:Inv C s' a w R' loc' fp' (F++(if m.isOwn then S else []))
 rep:RepLs w m.isOwn v.cells.toList ls S
 agg:isAgg v=agg
 al:m.isOwn=true∨∀ b∈S,Al R' C.B m b
 mono:∀ b,R b→R' b
 hV:s'.V=V
theorem Inv.keep (I:Inv C s a w R loc fp F) {v:Value} {m agg ls S} (hr:RepLs w false v.cells.toList ls S) (hA:isAgg v=agg) (hal:∀ b∈S,Al R C.B m b) (hm:m.isOwn=true→ls.all L.flat=true) :
  Nonempty (Taken C s a w R F v (modeOf m ls) agg ls s.V):=by
 by_cases hf:ls.all L.flat=true
 ·refine ⟨{ R':=R,loc':=loc,fp':=fp,S:=[],inv:=by simpa using I,rep:=?_,agg:=hA,al:=?_,mono:=fun _ h=>h,hV:=rfl }⟩
  ·exact hr.flatAny hf w _
  ·left;simp [modeOf,hf,M.isOwn]
 ·have:modeOf m ls=m:=by simp [modeOf,hf]
  rw [this]
  have hm':m.isOwn=false:=by cases h:m.isOwn with | false=>rfl | true=>exact absurd (hm h) hf
  refine ⟨{ R':=R,loc':=loc,fp':=fp,S:=S,inv:=by simpa [hm'] using I,rep:=by rw [hm'];exact hr,agg:=hA,al:=.inr hal,mono:=fun _ h=>h,hV:=rfl }⟩
theorem Inv.embed (I:Inv C s a w R loc fp F) {v:Value} {x:AV} {fz m agg ls s'} (hv:AVRep w R C.B s.H loc v x) (he:s.embed fz x=some (m,agg,ls,s')) :
  Nonempty (Taken C s' a w R F v m agg ls s.V):=by
 cases x with
 | dead=>simp [St.embed] at he
 | tup xs=>simp [St.embed] at he
 | ad r k0 k1 off hops=>simp [St.embed] at he
 | win r k0 k1 off lo n=>simp [St.embed] at he
 | nil =>
  simp only [St.embed,Option.some.injEq,Prod.mk.injEq] at he
  obtain ⟨rfl,rfl,rfl,rfl⟩:=he
  obtain ⟨a',rfl⟩:=hv
  exact ⟨{ R':=R,loc':=loc,fp':=fp,S:=[],inv:=by simpa using I,rep:=RepLs.single (.sle _ _ _ (by simp)),agg:=rfl,al:=.inl rfl,mono:=fun _ h=>h,hV:=rfl }⟩
 | v m' agg' ls' =>
  simp only [St.embed,Option.some.injEq,Prod.mk.injEq] at he
  obtain ⟨rfl,rfl,rfl,rfl⟩:=he
  obtain ⟨S,h1,h2,h3,h4⟩:=hv
  exact I.keep h1 h2 h3 h4
 | «at» r k0 k1 off hops n agg' =>
  simp only [St.embed] at he
  split at he<;>try (cases he;done)
  rename_i h sub hg
  obtain ⟨hr,ln,hh,e1,e2⟩:=I.atVal hv hg
  obtain ⟨_,_,suf,hpl,hn,hsub⟩:=getAt_spec hg
  split at he
  ·rename_i hown
   have hfp:fp r=hr.ob++hr.S:=hr.fpe.trans (by rw [hown];rfl)
   have hnd1:(hr.ob++hr.S).Nodup:=by have:=I.nd r h hh;rwa [hfp] at this
   split at he
   ·-- frozen
    simp only [Option.some.injEq,Prod.mk.injEq] at he
    obtain ⟨rfl,rfl,rfl,rfl⟩:=he
    have hfn:(hr.ob++F).Nodup:=by
     refine List.nodup_append.2 ⟨(List.nodup_append.1 (hnd1)).1,I.fnd,fun b hb c hc e=>I.fdj r h hh c hc (by rw [hfp,← e];simp [hb])⟩
    have hnS:∀ b,b∈hr.ob→b ∉ hr.S:=fun b hb hb'=>(List.nodup_append.1 (hnd1)).2.2 b hb b hb' rfl
    have hnS':∀ b,b∈F→b ∉ hr.S:=fun b hb hb'=>I.fdj r h hh b hb (by rw [hfp];simp [hb'])
    have J:=I.root r { h with m:=.ro } (loc r) hr.ob (w':=w) (R':=fun b=>R b∨b∈hr.S) (F':=F) (fun b=>b∈F∨b∈fp r)
     (fun b hb=>hb.imp id fun q=>⟨⟨h,hh⟩,q⟩) ⟨rfl,rfl,rfl,Nat.le_refl _,fun _ _ _=>rfl⟩ (fun b hb=>.inl hb) (fun b hb=>hb.imp id fun q=>.inl (.inr (by rw [hfp];simp [q])))
     ⟨{ S:=hr.S,ob:=hr.ob,rep:=hr.rep.weak,fpe:=by simp [M.isOwn],al:=.inr fun b hb=>.inr hb,bx:=hr.bx.imp (fun ⟨p,b,cs,T,fr,q1,q2,q3⟩=>⟨p,b,cs,T,fr,q1,q2,q3.imp id fun ⟨x,y,z⟩=>⟨x,y,.inl z⟩⟩) id }⟩
     (fun b hb=>by
      rcases List.mem_append.1 hb with hb | hb
      ·have:=I.held r h hh b (by rw [hfp];simp [hb])
       exact ⟨.inl (.inr (by rw [hfp];simp [hb])),fun q=>q.elim this.1 (hnS b hb),this.2.2.1⟩
      ·have:=I.fheld b hb
       exact ⟨.inl (.inl hb),fun q=>q.elim this.1 (hnS' b hb),this.2.2.1⟩)
     hfn (fun _ _ _=>.inr trivial) (fun y u hy hu=>alias_freeze hu hy hh (by simp) rfl rfl rfl rfl rfl) (I.plKeep hh rfl)
    have hsubS:∀ b∈ln.Sm,b∈hr.S:=fun b hb=>by rw [ln.hS];simp [hb]
    by_cases hf:sub.all L.flat=true
    ·refine ⟨{ R':=fun b=>R b∨b∈hr.S,loc':=upd loc r (loc r),fp':=upd fp r hr.ob,S:=[],inv:=?_,rep:=?_,agg:=e1,al:=?_,mono:=fun _ h=>Or.inl h,hV:=rfl }⟩
     ·simpa [modeOf,hf,M.isOwn] using J
     ·exact e2 ▸ ln.rep.flatAny hf w _
     ·left;simp [modeOf,hf,M.isOwn]
    ·refine ⟨{ R':=fun b=>R b∨b∈hr.S,loc':=upd loc r (loc r),fp':=upd fp r hr.ob,S:=ln.Sm,inv:=?_,rep:=?_,agg:=e1,al:=?_,mono:=fun _ h=>Or.inl h,hV:=rfl }⟩
     ·simpa [modeOf,hf,M.isOwn] using J
     ·rw [show modeOf .ro sub=.ro by simp [modeOf,hf]];exact e2 ▸ ln.rep.weak
     ·rw [show modeOf .ro sub=.ro by simp [modeOf,hf]];exact .inr fun b hb=>.inr (hsubS b hb)
   ·-- moved
    simp only [Option.some.injEq,Prod.mk.injEq] at he
    obtain ⟨rfl,rfl,rfl,rfl⟩:=he
    have hS:=ln.hS
    have hlen:(deadened sub).length=n:=by rw [deadened_len];exact ln.len
    have hrep2:=ln.same w (deadened sub) [] hlen (fun _ _=>rfl) (deadened_rep ln.rep w _)
    have hnd0:=hnd1
    rw [hS] at hnd0
    have hmem:∀ b,b∈(hr.ob++(ln.S1++[]++ln.S2))++(F++ln.Sm)→b∈F∨b∈fp r:=by
     intro b hb
     rw [hfp,hS]
     simp only [List.append_nil,List.mem_append] at hb ⊢
     grind
    have hnd:((hr.ob++(ln.S1++[]++ln.S2))++(F++ln.Sm)).Nodup:=by
     have hF:=I.fnd
     have hd:=I.fdj r h hh
     rw [hfp,hS] at hd
     simp only [List.append_nil,List.nodup_append,List.mem_append] at hnd0 hd ⊢
     grind
    have J:=I.root r (h.set off hops (deadened sub)) (loc r) (hr.ob++(ln.S1++[]++ln.S2)) (w':=w) (R':=R) (F':=F++ln.Sm) (fun b=>b∈F∨b∈fp r)
     (fun b hb=>hb.imp id fun q=>⟨⟨h,hh⟩,q⟩) ⟨rfl,rfl,rfl,Nat.le_refl _,fun _ _ _=>rfl⟩ (fun b hb=>hb) (fun b hb=>.inl hb)
     ⟨{ S:=ln.S1++[]++ln.S2,ob:=hr.ob,rep:=by cases hops<;>exact hrep2,fpe:=by cases hops<;>simp [HC.set,HC.bump,hown],al:=.inl (by cases hops<;>simpa [HC.set,HC.bump] using hown),bx:=by cases hops<;>exact hr.bx }⟩
     (fun b hb=>by
      have h1:=hmem b hb
      have h2:Held C w R b:=h1.elim (I.fheld b) (I.held r h hh b)
      exact ⟨.inl h1,h2.1,h2.2.2.1⟩)
     hnd (fun _ _ _=>.inr trivial) (fun y u hy hu=>alias_set hu hy hh (by simp) (by cases hops<;>rfl) (by
      cases hops<;>exact setPlace_len _ _ _ _ _ hpl (by omega)) (by
      cases hops with
      | nil=>left;exact ⟨rfl,Nat.le_refl _,.inr ⟨_,_,rfl,fun _ _ _=>rfl⟩⟩
      | cons h1 hs=>right;exact ⟨rfl,rfl,rfl,rfl⟩)) (I.plKeep hh (by cases hops<;>rfl))
    refine ⟨{ R':=_,loc':=_,fp':=_,S:=ln.Sm,inv:=by simpa [M.isOwn] using J,rep:=?_,agg:=e1,al:=.inl rfl,mono:=fun _ h=>h,hV:=rfl }⟩
    exact e2 ▸ (ln.rep.any).1 hown
  ·rename_i hown
   simp only [Option.some.injEq,Prod.mk.injEq] at he
   obtain ⟨rfl,rfl,rfl,rfl⟩:=he
   have hal:∀ b∈ln.Sm,Al R C.B h.m b:=by
    rcases hr.al with ho | hal
    ·exact absurd ho hown
    ·exact fun b hb=>hal b (by rw [ln.hS];simp [hb])
   exact I.keep (e2 ▸ ln.rep.weak) e1 hal fun h=>absurd h hown
end
end Go.Ev


namespace Go.Ev
theorem tiOf_spec {P:Program} {t:TypeId} {ti:TI} (h:tiOf P t=some ti):∃ i d z,P.info? t=some i∧P.underlying t=some d∧i.zero=some z∧z.cells.size=i.size∧(∀ v∈z.cells.toList,v.oneCell'=true)∧(ti.agg=false→ti.size=1)∧0<ti.size ∧
  ti.size=i.size∧ti.bytes=i.bytes∧ti.agg=(tdOf d).agg∧ti.zero=z.cells.toList.map zeroLeaf∧ti.td=tdOf d:=by
 unfold tiOf at h
 split at h<;>try (cases h;done)
 rename_i i d hi hd
 split at h<;>try (cases h;done)
 rename_i z hz
 split at h<;>try (cases h;done)
 rename_i hs
 cases h
 obtain ⟨h1,h2,h3,h4⟩:=hs
 exact ⟨i,d,z,hi,hd,hz,h1,fun v hv=>List.all_eq_true.1 h2 v hv,fun h=>by simpa [show (tdOf d).agg=false from h] using h3,h4,rfl,rfl,rfl,rfl,rfl⟩
section
variable {P:Program} (w:World)
theorem run_typeInfo' {t i} (h:P.info? t=some i):(typeInfo t).run P w=.ok i w:=by simp [typeInfo,h]
theorem run_underlying' {t d} (h:P.underlying t=some d):(underlying t).run P w=.ok d w:=by simp [underlying,h]
theorem run_sizeOf' {t i} (h:P.info? t=some i):(sizeOf t).run P w=.ok i.size w:=by simp [Go.sizeOf,run_typeInfo' w h]
theorem run_zeroValue' {t i z} (h:P.info? t=some i) (hz:i.zero=some z):(zeroValue t).run P w=.ok z w:=by simp [zeroValue,run_typeInfo' w h,hz]
theorem tdAgg (d:TypeDesc):(tdOf d).agg=(match d with | .struct _ | .array _ _=>true | _=>false):=by cases d<;>rfl
theorem run_isAgg' {t d} (h:P.underlying t=some d):(Go.isAgg t).run P w=.ok (tdOf d).agg w:=by
 rw [tdAgg]
 simp only [Go.isAgg,Sem.run_bind,run_underlying' w h,Result.andThen_ok]
 cases d<;>rfl
end
section
variable (P:Program) {w:World} {b:Nat} {ds:Array Value} {T:TypeId} {fr:Nat × Nat} (hb:w.heap[b]?=some (.cells ds T fr))
include hb
theorem cell_at (j:Nat):w.cell? ⟨b,j,none⟩=ds[j]?:=by simp [World.cell?,hb]
omit hb in
theorem add_at (b p j:Nat):(⟨b,p,none⟩:Addr).add j=⟨b,p+j,none⟩:=by unfold Addr.add;split<;>simp_all
theorem run_loadCells' (p n:Nat) (h:p+n≤ds.size):(loadCells ⟨b,p,none⟩ n).run P w=.ok ⟨(ds.toList.drop p).take n⟩ w:=by
 have:=run_loadCells_list (P:=P) w ⟨b,p,none⟩ ((ds.toList.drop p).take n) (fun j v hj=>by
  rw [add_at,cell_at hb]
  rw [List.getElem?_take] at hj
  split at hj
  ·simpa using hj
  ·cases hj)
 rwa [show ((ds.toList.drop p).take n).length=n by simp;omega] at this
theorem run_load' (p:Nat) (v:Value) (h:ds[p]?=some v):(load ⟨b,p,none⟩).run P w=.ok v w:=by
 rw [run_load,cell_at hb,h]
theorem frozen_at (hf:∀ o,o<ds.size→¬ (fr.1≤o∧o<fr.2)) (j:Nat) (hj:j<ds.size):w.frozen? ⟨b,j,none⟩=false:=by
 obtain ⟨lo,hi⟩:=fr
 have:=hf j hj
 simp only [World.frozen?,hb,Bool.and_eq_false_iff,decide_eq_false_iff_not]
 simp only at this
 by_cases h:lo≤j
 ·right;exact fun h2=>this ⟨h,h2⟩
 ·left;exact h
end
theorem run_storeCells' (P:Program) (b p:Nat) (T:TypeId) (fr:Nat × Nat):∀ (vs:List Value) (i:Nat) (ds:Array Value) (w:World),w.heap[b]?=some (.cells ds T fr)→(∀ o,o<ds.size→¬ (fr.1≤o∧o<fr.2)) →
  p+i+vs.length≤ds.size→(∀ v∈vs,v.oneCell'=true)→(storeCells ⟨b,p,none⟩ vs i).run P w=.ok () (w.setRow b (splice ds.toList (p+i) vs).toArray)
 | [],i,ds,w,hb,_,_,_=>by
  have:(splice ds.toList (p+i) ([]:List Value)).toArray=ds:=by simp [splice]
  rw [this,setRow_self w b ds T fr hb]
  rfl
 | v::rest,i,ds,w,hb,hf,hl,h1=>by
  simp only [List.length_cons] at hl
  have hi:p+i<ds.size:=by omega
  have hst:(store ((⟨b,p,none⟩:Addr).add i) v).run P w=.ok () (w.setRow b (ds.setIfInBounds (p+i) v)):=by
   rw [add_at]
   have hc:w.cell? ⟨b,p+i,none⟩=some ds[p+i]:=by rw [cell_at hb];simp [hi]
   have ho:=h1 v (by simp)
   have hfz:=frozen_at hb hf (p+i) hi
   rw [← setCell_eq_setRow w b (p+i) ds T fr v hb]
   cases v<;>simp [store,Sem.run,hc,hfz,Value.oneCell'] at ho ⊢
  simp only [storeCells,Sem.run_bind,hst,Result.andThen_ok]
  have hb':(w.setRow b (ds.setIfInBounds (p+i) v)).heap[b]?=some (.cells (ds.setIfInBounds (p+i) v) T fr):=setRow_heap w b ds _ T fr hb
  rw [run_storeCells' P b p T fr rest (i+1) _ _ hb' (by simpa using hf) (by simp;omega) (fun u hu=>h1 u (by simp [hu])),setRow_setRow]
  congr 2
  apply Array.ext'
  simp only [Array.toList_setIfInBounds,splice,List.length_cons]
  rw [← Nat.add_assoc,List.take_set,List.drop_set_of_lt (by omega)]
  have h1:(ds.toList.take (p+i+1)).set (p+i) v=ds.toList.take (p+i)++[v]:=by
   rw [List.take_succ_eq_append_getElem (by simpa using hi),List.set_append_right _ _ (by simp;omega)]
   simp [Nat.min_eq_left (show p+i≤ds.size by omega)]
  rw [h1]
  simp [Nat.add_assoc,Nat.add_comm 1 rest.length]
theorem Wst.setRow {w:World} {b:Nat} {ds:Array Value} {T:TypeId} {fr:Nat × Nat} (hb:w.heap[b]?=some (.cells ds T fr)) (cs:Array Value):Wst w (w.setRow b cs) fun k=>k=b :=
 ⟨rfl,rfl,rfl,by simp,fun k _ hk=>setRow_other w b k cs hk⟩
theorem opVal {P:Program} {o:Oper} {a:Act} {w w':World} {next:Act→World→Prop} {Q:Exit→Act→World→Prop} {v:Value} (h:(execOp a.eval o).run P w=.ok (.value v) w') (hn:next (a.put o.dst v) w'):o.wp P a w next Q:=by
 unfold Oper.wp;rw [h];exact hn
theorem opSkip {P:Program} {o:Oper} {a:Act} {w w':World} {next:Act→World→Prop} {Q:Exit→Act→World→Prop} (h:(execOp a.eval o).run P w=.ok .skip w') (hn:next (a.put o.dst undef) w'):o.wp P a w next Q:=by
 unfold Oper.wp;rw [h];exact hn
theorem zeroLeaf_rep (w:World) (v:Value) (h:v.oneCell'=true):RepL w true v (zeroLeaf v) []:=by
 cases v with
 | slice a len cap =>
  cases a with
  | none =>
   cases len with
   | zero =>
    cases cap with
    | zero=>exact .sle _ _ _ (by simp)
    | succ n=>exact .dead _ _ rfl
   | succ n=>exact .dead _ _ rfl
  | some x=>exact .dead _ _ rfl
 | int k n=>exact .int _ _ _
 | bool b=>exact .bool _ _
 | string s=>exact .str _ _
 | agg cs=>simp [Value.oneCell'] at h
 | tuple vs=>simp [Value.oneCell'] at h
 | _=>exact .dead _ _ rfl
theorem zeros_rep (w:World):∀ (vs:List Value),(∀ v∈vs,v.oneCell'=true)→RepLs w true vs (vs.map zeroLeaf) []
 | [],_=>.nil _
 | v::vs,h=>.cons _ _ _ _ _ [] [] (zeroLeaf_rep w v (h v (by simp))) (zeros_rep w vs fun u hu=>h u (by simp [hu]))
end Go.Ev


namespace Go.Ev
structure GlobOk (E:Env) (C:Cf):Prop where
 glob:∀ g ls,E.glob g=some ls→∃ cs T fr S,C.w0.heap[g]?=some (.cells cs T fr)∧ls.length=cs.size∧RepLs C.w0 false (cs.toList.take ls.length) ls S∧∀ b∈g::S,C.R0 b
 r0:∀ b,C.R0 b∨C.B b→b<C.w0.heap.size∧¬ C.G b
def InvX (C:Cf) (s:St) (a:Act) (w:World):Prop:=∃ R loc fp,Inv C s a w R loc fp []
section
variable {E:Env} {C:Cf} {s:St} {a:Act} {w:World} {R:Nat→Prop} {loc:Root→Loc} {fp:Root→List Nat} {F:List Nat}
theorem Inv.freeze (I:Inv C s a w R loc fp F) (A:List Nat) (F':List Nat) (hF:∀ b,b∈A∨b∈F'→b∈F) (hnd:(A++F').Nodup):Inv C s a w (fun b=>R b∨b∈A) loc fp F':=by
 have hA:∀ b∈A,b∈F:=fun b hb=>hF b (.inl hb)
 have hne:∀ r h,lookH s.H r=some h→∀ b∈fp r,b ∉ A:=fun r h hr b hb hb'=>I.fdj r h hr b (hA b hb') hb
 have hn:=List.nodup_append.1 hnd
 exact
  {kp:=I.kp,r0:=fun b hb=>.inl (I.r0 b hb)
   rnew:=fun b hb=>hb.elim (I.rnew b) fun q=>.inr (I.fheld b (hA b q)).2.2.2
   rlt:=fun b hb=>by
    rcases hb with (h | h) | h
    ·exact I.rlt b (.inl h)
    ·exact (I.fheld b (hA b h)).2.2.1.lt
    ·exact I.rlt b (.inr h)
   rep:=fun r h hr=>by obtain ⟨x⟩:=I.rep r h hr;exact (x.frame (fun b hb=>.inl hb) fun _ _=>rfl).1
   held:=fun r h hr b hb=>by
    obtain ⟨k1,k2,k3,k4⟩:=I.held r h hr b hb
    exact ⟨fun q=>q.elim k1 (hne r h hr b hb),k2,k3,k4⟩
   nd:=I.nd,dj:=I.dj
   fheld:=fun b hb=>by
    obtain ⟨k1,k2,k3,k4⟩:=I.fheld b (hF b (.inr hb))
    exact ⟨fun q=>q.elim k1 fun q=>hn.2.2 b q b hb rfl,k2,k3,k4⟩
   fnd:=hn.2.1
   fdj:=fun r h hr b hb=>I.fdj r h hr b (hF b (.inr hb))
   av:=fun t=>AVRep.frame (I.av t) I.rep (fun b hb=>.inl hb) (fun _ _=>rfl) (fun _=>False) (fun r h hr _=>⟨hr,rfl,fun _ _=>rfl⟩) fun _ _ _ hb=>hb.elim
   df:=I.df,sz:=I.sz,pl:=I.pl }
structure Val (C:Cf) (s:St) (a:Act) (w:World) (m:M) (cs:List Value) (ls:List L) where
 R:Nat→Prop
 loc:Root→Loc
 fp:Root→List Nat
 S:List Nat
 inv:Inv C s a w R loc fp (if m.isOwn then S else [])
 rep:RepLs w m.isOwn cs ls S
 al:m.isOwn=true∨∀ b∈S,Al R C.B m b
theorem Val.x {m cs ls} (v:Val C s a w m cs ls):InvX C s a w:=⟨v.R,v.loc,v.fp,v.inv.drop [] (by simp) (by simp)⟩
theorem isOwn_join (m m':M):(m.join m').isOwn=(m.isOwn&&m'.isOwn):=by cases m<;>cases m'<;>rfl
theorem Al.join {R B:Nat→Prop} {m m':M} {b:Nat} (h:Al R B m b) (hm:m.isOwn=false):Al R B (m.join m') b:=by
 cases m<;>cases m'<;>simp [M.isOwn,M.join,Al] at *<;>simp_all
theorem Al.join' {R B:Nat→Prop} {m m':M} {b:Nat} (h:Al R B m' b) (hm:m'.isOwn=false):Al R B (m.join m') b:=by
 cases m<;>cases m'<;>simp [M.isOwn,M.join,Al] at *<;>simp_all
theorem Al.ro {R B:Nat→Prop} {m:M} {b:Nat} (h:R b) (hm:m.isOwn=false):Al R B m b:=by
 cases m<;>simp [M.isOwn,Al] at *<;>simp_all
theorem combine {m1 m2 c1 c2 l1 l2 S1 S2} {off:Nat} (I:Inv C s a w R loc fp ((if m1.isOwn then S1 else [])++(if m2.isOwn then S2 else [])))
  (r1:RepLs w m1.isOwn c1 l1 S1) (r2:RepLs w m2.isOwn c2 l2 S2) (a1:m1.isOwn=true∨∀ b∈S1,Al R C.B m1 b) (a2:m2.isOwn=true∨∀ b∈S2,Al R C.B m2 b) (hl:off+l2.length≤l1.length) :
  Nonempty (Val C s a w (m1.join m2) (splice c1 off c2) (splice l1 off l2)):=by
 obtain ⟨T1,Tm,T2,hS,h1,hm,h2⟩:=r1.range off l2.length hl
 cases e1:m1.isOwn with
 | true =>
  cases e2:m2.isOwn with
  | true =>
   simp only [e1,e2,if_true] at I
   have hn:=I.fnd
   rw [hS] at hn
   rw [e1] at h1 h2;rw [e2] at r2
   refine ⟨{ R,loc,fp,S:=T1++S2++T2,inv:=?_,rep:=?_,al:=.inl (by simp [isOwn_join,e1,e2]) }⟩
   ·simp only [isOwn_join,e1,e2,Bool.and_true,if_true]
    refine I.drop _ (fun b hb=>?_) ?_
    ·rw [hS];simp only [List.mem_append] at hb ⊢;grind
    ·simp only [List.nodup_append,List.mem_append] at hn ⊢;grind
   ·rw [isOwn_join,e1,e2]
    exact RepLs.splice r2.len hl h1 r2 h2
  | false =>
   simp only [e1,e2,if_true,if_false,List.append_nil,Bool.false_eq_true] at I
   have hal2:=a2.resolve_left (by simp [e2])
   refine ⟨{ R:=fun b=>R b∨b∈S1,loc,fp,S:=T1++S2++T2,inv:=?_,rep:=?_,al:=.inr fun b hb=>?_ }⟩
   ·simp only [isOwn_join,e1,e2,Bool.and_false,if_false,Bool.false_eq_true]
    exact I.freeze S1 [] (by simp) (by simpa using I.fnd)
   ·rw [isOwn_join,e1,e2]
    rw [e2] at r2
    exact RepLs.splice r2.len hl h1.weak r2 h2.weak
   ·simp only [List.mem_append] at hb
    rcases hb with (hb | hb) | hb
    ·exact Al.ro (.inr (by rw [hS];simp [hb])) (by simp [isOwn_join,e2])
    ·exact ((hal2 b hb).mono fun b h=>.inl h).join' e2
    ·exact Al.ro (.inr (by rw [hS];simp [hb])) (by simp [isOwn_join,e2])
 | false =>
  have hal1:=a1.resolve_left (by simp [e1])
  rw [e1] at h1 h2
  cases e2:m2.isOwn with
  | true =>
   simp only [e1,e2,if_true,if_false,List.nil_append,Bool.false_eq_true] at I
   refine ⟨{ R:=fun b=>R b∨b∈S2,loc,fp,S:=T1++S2++T2,inv:=?_,rep:=?_,al:=.inr fun b hb=>?_ }⟩
   ·simp only [isOwn_join,e1,Bool.false_and,if_false,Bool.false_eq_true]
    exact I.freeze S2 [] (by simp) (by simpa using I.fnd)
   ·rw [isOwn_join,e1]
    exact RepLs.splice r2.len hl h1.weak r2.weak h2.weak
   ·simp only [List.mem_append] at hb
    rcases hb with (hb | hb) | hb
    ·exact ((hal1 b (by rw [hS];simp [hb])).mono fun b h=>.inl h).join e1
    ·exact Al.ro (.inr hb) (by simp [isOwn_join,e1])
    ·exact ((hal1 b (by rw [hS];simp [hb])).mono fun b h=>.inl h).join e1
  | false =>
   simp only [e1,e2,if_false,List.append_nil,Bool.false_eq_true] at I
   have hal2:=a2.resolve_left (by simp [e2])
   refine ⟨{ R,loc,fp,S:=T1++S2++T2,inv:=?_,rep:=?_,al:=.inr fun b hb=>?_ }⟩
   ·simp only [isOwn_join,e1,Bool.false_and,if_false,Bool.false_eq_true]
    exact I
   ·rw [isOwn_join,e1]
    exact RepLs.splice r2.len hl h1.weak r2.weak h2.weak
   ·simp only [List.mem_append] at hb
    rcases hb with (hb | hb) | hb
    ·exact (hal1 b (by rw [hS];simp [hb])).join e1
    ·exact (hal2 b hb).join' e2
    ·exact (hal1 b (by rw [hS];simp [hb])).join e1
theorem Inv.same0 (I:Inv C s a w R loc fp F) (gk:GlobOk E C) {b:Nat} (hb:C.R0 b∨C.B b):Same C.w0 w b:=I.kp.block b (gk.r0 b hb).1 (gk.r0 b hb).2
theorem opnd_rep (gk:GlobOk E C) (I:Inv C s a w R loc fp F) (x:Operand):AVRep w R C.B s.H loc (a.eval x) (opnd E s x):=by
 cases x with
 | tmp t=>exact I.av t
 | func f=>exact ⟨[],RepLs.single (.fn f [] [] [] (.nil _)),rfl,by simp,by simp [M.isOwn]⟩
 | global g =>
  simp only [opnd]
  split
  ·rename_i ls hg
   obtain ⟨cs,T,fr,S,h1,h2,h3,h4⟩:=gk.glob g ls hg
   have hs:∀ b∈g::S,Same C.w0 w b:=fun b hb=>I.same0 gk (.inl (h4 b hb))
   refine ⟨g::S,RepLs.single (.ref g 0 cs T fr ls S ((hs g (by simp)).trans h1) (by omega) ?_),rfl,fun b hb=>I.r0 b (h4 b hb),by simp [M.isOwn]⟩
   simpa using h3.frame fun b hb=>hs b (by simp [hb])
  ·trivial
 | const v =>
  cases v with
  | int k n=>exact ⟨[],RepLs.single (.int _ _ _),rfl,by simp,by simp [M.isOwn]⟩
  | bool b=>exact ⟨[],RepLs.single (.bool _ _),rfl,by simp,by simp [M.isOwn]⟩
  | string b=>exact ⟨[],RepLs.single (.str _ _),rfl,by simp,by simp [M.isOwn]⟩
  | slice p l c =>
   cases p with
   | some p=>trivial
   | none =>
    cases l with
    | succ l=>trivial
    | zero =>
     cases c with
     | zero=>exact ⟨none,rfl⟩
     | succ c=>trivial
  | _=>trivial
theorem opnd_V (s s':St) (h:s'.V=s.V) (x:Operand):opnd E s' x=opnd E s x:=by
 cases x<;>simp only [opnd,h]
structure Pointed (C:Cf) (s:St) (w:World) (R:Nat→Prop) (loc:Root→Loc) (fp:Root→List Nat) (v:Value) (r:Root) (off:Nat) (hops:List Hop) (n:Nat) (h:HC) (sub:List L) where
 b:Nat
 p:Nat
 ds:Array Value
 T:TypeId
 fr:Nat × Nat
 hr:HRep w R C.B h (loc r) (fp r)
 ln:Lens w h.m.isOwn ((loc r).cells w) h.ls hr.S off hops n sub
 hh:lookH s.H r=some h
 hv:v=.pointer (some ⟨b,p,none⟩)
 hb:w.heap[b]?=some (.cells ds T fr)
 hp:p+n≤ds.size
 hc:(ds.toList.drop p).take n=ln.vs
 base:hops=[]→loc r=.blk b∧p=off∧(loc r).cells w=ds.toList
 deep:hops≠[]→b∈ln.S1∧cad w ((loc r).cells w) off hops=some ⟨b,p,none⟩
theorem Inv.pointed (I:Inv C s a w R loc fp F) {v:Value} {r k0 k1 off hops h suf} {n:Nat} (hv:AVRep1 w R C.B s.H loc v (.ad r k0 k1 off hops)) (hg:s.getAd r k0 k1 off hops=some (h,suf)) (hn:n≤suf.length) :
  Nonempty (Pointed C s w R loc fp v r off hops n h (suf.take n)):=by
 obtain ⟨hh,ok,hp⟩:=getAd_spec hg
 obtain ⟨h0,g1,g2,g3,g4⟩:=hv
 rw [hh] at g1
 cases g1
 have g5:=g4 ok
 obtain ⟨hr⟩:=I.rep r h hh
 obtain ⟨ln⟩:=lens hops hr.rep hp hn
 cases hops with
 | nil =>
  obtain ⟨b,hl,hv⟩:=g5
  rcases hr.bx with ⟨hbx,b',cs,T,fr,hl',hbb,_⟩ | ⟨hbx,⟨cs,hl'⟩,_⟩
  ·rw [hl] at hl';cases hl'
   have hcells:(loc r).cells w=cs.toList:=by rw [hl];simp [Loc.cells,hbb]
   have hlen:=hr.rep.len
   rw [hcells] at hlen
   simp only [place] at hp
   split at hp<;>simp only [Option.some.injEq,reduceCtorEq] at hp
   subst hp
   simp only [List.length_drop] at hn
   refine ⟨{ b,p:=off,ds:=cs,T,fr,hr,ln,hh,hv,hb:=hbb,hp:=by simp at hlen;omega,hc:=?_,base:=fun _=>⟨hl,rfl,hcells⟩,deep:=fun h=>absurd rfl h }⟩
   have:=ln.hc
   simp only [cpl,Option.map_some,Option.some.injEq,hcells] at this
   exact this
  ·rw [hl] at hl';cases hl'
 | cons h1 hs =>
  obtain ⟨b,p,ds,T,fr,hcad,hmem,hbb,hsz,hvs,_⟩:=ln.addr (by simp)
  have hv:v=.pointer (some ⟨b,p,none⟩):=by
   cases hs with
   | nil =>
    obtain ⟨a',ha,hv⟩:=g5
    rw [hcad] at ha;cases ha;exact hv
   | cons h2 hs =>
    obtain ⟨a',ha,hv⟩:=g5 (by rw [hp];rfl)
    rw [hcad] at ha;cases ha;exact hv
  exact ⟨{ b,p,ds,T,fr,hr,ln,hh,hv,hb:=hbb,hp:=hsz,hc:=hvs,base:=fun h=>absurd h (by simp),deep:=fun _=>⟨hmem,hcad⟩ }⟩
theorem Pointed.al {v r off hops n h sub} (q:Pointed C s w R loc fp v r off hops n h sub) (hm:h.m.isOwn=false):∀ b∈q.ln.Sm,Al R C.B h.m b:=by
 rcases q.hr.al with ho | hal
 ·rw [hm] at ho;cases ho
 ·exact fun b hb=>hal b (by rw [q.ln.hS];simp [hb])
theorem oneRep {w:World} {o:Bool} {v:Value} {l:L} {S:List Nat} (h:RepLs w o v.cells.toList [l] S) (ha:isAgg v=false):RepL w o v l S:=by
 have hc:v.cells.toList=[v]:=by cases v<;>first | rfl | simp [isAgg] at ha
 rw [hc] at h
 obtain ⟨S1,S2,rfl,h1,h2⟩:=h.head
 obtain rfl:=h2.nilS
 simpa using h1
theorem run_loadVar' {t:TypeId} {ti:TI} (ht:tiOf E.P t=some ti) {w:World} {b p:Nat} {ds:Array Value} {T:TypeId} {fr:Nat × Nat} (hb:w.heap[b]?=some (.cells ds T fr)) (hp:p+ti.size≤ds.size) (h1:∀ v∈(ds.toList.drop p).take ti.size,v.oneCell'=true) :
  ∃ v,(loadVar t ⟨b,p,none⟩).run E.P w=.ok v w∧v.cells.toList=(ds.toList.drop p).take ti.size∧isAgg v=ti.agg:=by
 obtain ⟨i,d,z,hi,hd,hz,hzs,hz1,hn,h0,e1,e2,e3,e4,e5⟩:=tiOf_spec ht
 rw [e1] at hp h1
 cases hagg:ti.agg with
 | true =>
  refine ⟨.agg ⟨(ds.toList.drop p).take i.size⟩,?_,by rw [e1];rfl,rfl⟩
  simp only [loadVar,Sem.run_bind,run_isAgg' w hd,Result.andThen_ok,← e3,hagg,if_true,run_sizeOf' w hi,run_loadCells' E.P hb p i.size hp]
  rfl
 | false =>
  have hs:i.size=1:=by rw [← e1];exact hn hagg
  rw [hs] at hp h1
  have hlt:p<ds.size:=by omega
  have e:(ds.toList.drop p).take 1=[ds[p]]:=by rw [List.drop_eq_getElem_cons (by simpa using hlt)];simp
  have hv1:=h1 ds[p] (by rw [e];simp)
  refine ⟨ds[p],?_,?_,?_⟩
  ·simp only [loadVar,Sem.run_bind,run_isAgg' w hd,Result.andThen_ok,← e3,hagg]
   simp [run_load' E.P hb p ds[p] (by simp [hlt])]
  ·rw [e1,hs,e]
   cases h:ds[p]<;>simp [h,Value.oneCell'] at hv1<;>rfl
  ·cases h:ds[p]<;>simp [h,Value.oneCell'] at hv1<;>rfl
end
end Go.Ev


namespace Go.Ev
section
variable {E:Env} {C:Cf} {s:St} {a:Act} {w:World} {R:Nat→Prop} {loc:Root→Loc} {fp:Root→List Nat} {F:List Nat}
theorem Inv.toX {F} (I:Inv C s a w R loc fp F):InvX C s a w:=⟨R,loc,fp,I.drop [] (by simp) (by simp)⟩
theorem InvX.put {d:Option Nat} {v:Value} {x:AV} (I:Inv C s a w R loc fp F) (hd:∀ y,d=some y→y<C.N) (hx:AVRep w R C.B s.H loc v x):InvX C (s.put d x) (a.put d v) w:=(I.put hd hx).toX
theorem scal {v:Value} {m:M} {l:L} (h:AVRep w R C.B s.H loc v (.v m false [l])):∃ S,RepL w false v l S∧(∀ b∈S,Al R C.B m b)∧(m.isOwn=true→l.flat=true):=by
 obtain ⟨S,h1,h2,h3,h4⟩:=h
 exact ⟨S,oneRep h1 h2,h3,by simpa using h4⟩
theorem mkScal {v:Value} {l:L} {m:M} {S:List Nat} (h:RepL w false v l S) (hal:∀ b∈S,Al R C.B m b) (hm:m.isOwn=true→l.flat=true):AVRep w R C.B s.H loc v (.v m false [l]):=by
 have hc:v.cells.toList=[v]∧isAgg v=false:=by
  have ho:=h.one
  cases v<;>first | exact ⟨rfl,rfl⟩ | simp [Value.oneCell'] at ho
 exact ⟨S,by rw [hc.1];exact RepLs.single h,hc.2,hal,by simpa using hm⟩
theorem mkFlat {v:Value} {l:L} {S:List Nat} (h:RepL w false v l S) (hf:l.flat=true):AVRep w R C.B s.H loc v (.v .ro false [l]) :=
 mkScal (h.flatAny hf w false) (by simp) (by simp [M.isOwn])
theorem asInt_of {v:Value} {x:AV} {n:Int} (h:AVRep w R C.B s.H loc v x) (hn:intOfAV x=some n):∃ k,v=.int k n:=by
 unfold intOfAV at hn
 split at hn<;>cases hn
 obtain ⟨S,h1,_⟩:=scal h
 cases h1
 exact ⟨_,rfl⟩
theorem ok_move {P:Program} {fz:List Nat} {o:Oper} {x:Operand} {s':St} {Q} (gk:GlobOk E C) (I:Inv C s a w R loc fp F) (ho:o.op=.move x∨o.op=.assign x) (hd:∀ y,o.dst=some y→y<C.N)
  (h:some (s.put o.dst (opnd E s x))=some s'):o.wp P a w (InvX C s') Q:=by
 have hx:=opnd_rep gk I x
 refine opVal (w':=w) (v:=a.eval x) (by rcases ho with ho | ho<;>simp only [execOp,ho]<;>rfl) ?_
 cases h
 exact InvX.put I hd hx
theorem ok_pick {P:Program} {o:Oper} {c x y:Operand} {s':St} {Q} (gk:GlobOk E C) (I:Inv C s a w R loc fp F) (ho:o.op=.pick c x y) (hd:∀ y,o.dst=some y→y<C.N)
  (h:(match opnd E s c with
   | .v _ false [.bool q]=>(match (if q then opnd E s x else opnd E s y) with | .v m agg ls=>some (s.put o.dst (.v m agg ls)) | _=>none)
   | _=>none)=some s'):o.wp P a w (InvX C s') Q:=by
 have hc:=opnd_rep gk I c
 have hx:=opnd_rep gk I x
 have hy:=opnd_rep gk I y
 split at h<;>try (cases h;done)
 rename_i m q hq
 rw [hq] at hc
 obtain ⟨S,h1,_⟩:=scal hc
 generalize hcv:a.eval c=cv at h1
 cases h1
 refine opVal (w':=w) (v:=if q then a.eval x else a.eval y) (by simp only [execOp,ho,hcv,asBool];cases q<;>rfl) ?_
 cases q
 ·simp only [Bool.false_eq_true,if_false] at h ⊢
  split at h<;>cases h
  rename_i he
  rw [he] at hy
  exact InvX.put I hd hy
 ·simp only [if_true] at h ⊢
  split at h<;>cases h
  rename_i he
  rw [he] at hx
  exact InvX.put I hd hx
theorem ok_extract {P:Program} {o:Oper} {x:Operand} {k:Nat} {s':St} {Q} (gk:GlobOk E C) (I:Inv C s a w R loc fp F) (ho:o.op=.extract x k) (hd:∀ y,o.dst=some y→y<C.N)
  (h:(match opnd E s x with | .tup xs=>(xs[k]?).map (s.put o.dst) | _=>none)=some s'):o.wp P a w (InvX C s') Q:=by
 have hx:=opnd_rep gk I x
 split at h<;>try (cases h;done)
 rename_i xs hq
 rw [hq] at hx
 obtain ⟨vs,hv,hl,hr⟩:=hx
 cases hk:xs[k]? with
 | none=>simp [hk] at h
 | some y =>
  simp only [hk,Option.map_some,Option.some.injEq] at h
  subst h
  obtain ⟨hlt,_⟩:=List.getElem?_eq_some_iff.1 hk
  have hu:vs[k]?=some (vs[k]'(by omega)):=List.getElem?_eq_getElem _
  refine opVal (w':=w) (v:=vs[k]'(by omega)) (by simp [execOp,ho,Instr.extract,hv,hu]) ?_
  refine InvX.put I hd ?_
  have:=hr k _ y hu hk
  cases y with
  | tup ys=>exact this.elim
  | _=>exact this
theorem ok_load {fz:List Nat} {o:Oper} {t:TypeId} {x:Operand} {y:AV} {Q} (gk:GlobOk E C) (I:Inv C s a w R loc fp F) (ho:o.op=.load t x) (hd:∀ y,o.dst=some y→y<C.N)
  (h:evLoad E t (opnd E s x) s=some y):o.wp E.P a w (InvX C (s.put o.dst y)) Q:=by
 have hx:=opnd_rep gk I x
 unfold evLoad at h
 split at h<;>try (cases h;done)
 rename_i ti ht
 split at h
 ·rename_i m ls hq
  rw [hq] at hx
  split at h<;>cases h
  rename_i hn
  obtain ⟨S,h1,h2,h3⟩:=scal hx
  generalize hxv:a.eval x=xv at h1
  cases h1 with
  | ref b p cs T fr _ S hb hl hr =>
   have hr':=(hr.split ti.size)
   obtain ⟨S1,S2,rfl,hr1,hr2⟩:=hr'
   have hcut:((cs.toList.drop p).take ls.length).take ti.size=(cs.toList.drop p).take ti.size:=by rw [List.take_take,Nat.min_eq_left hn]
   rw [hcut] at hr1
   obtain ⟨v,hrun,hcells,hagg⟩:=run_loadVar' ht hb (by omega) hr1.one
   refine opVal (w':=w) (v:=v) (by simp [execOp,ho,Instr.loadAt,hxv,Instr.sureAddr,hrun]) ?_
   refine InvX.put I hd ⟨S1,by rw [hcells];exact hr1,hagg,fun c hc=>h2 c (by simp [hc]),fun hm=>absurd (h3 hm) (by simp [L.flat])⟩
 ·rename_i r k0 k1 off hops hq
  rw [hq] at hx
  split at h<;>try (cases h;done)
  rename_i hh suf hg
  split at h<;>try (cases h;done)
  rename_i hn
  obtain ⟨q⟩:=I.pointed hx hg hn
  obtain ⟨v,hrun,hcells,hagg⟩:=run_loadVar' ht q.hb q.hp (by rw [q.hc];exact q.ln.rep.one)
  rw [q.hc] at hcells
  refine opVal (w':=w) (v:=v) (by simp [execOp,ho,Instr.loadAt,q.hv,Instr.sureAddr,hrun]) ?_
  refine InvX.put I hd ?_
  split at h
  ·rename_i hf
   cases h
   exact ⟨[],by rw [hcells];exact q.ln.rep.flatAny hf w false,hagg,by simp,by simp [M.isOwn]⟩
  ·split at h
   ·cases h
    refine ⟨hh,q.hh,Nat.le_refl _,Nat.le_refl _,fun _ _=>⟨hagg,?_⟩⟩
    rw [hcells];exact q.ln.hc
   ·rename_i hm
    cases h
    exact ⟨q.ln.Sm,by rw [hcells];exact q.ln.rep.weak,hagg,q.al (by simpa using hm),fun h=>absurd h hm⟩
 ·cases h
end
end Go.Ev


namespace Go.Ev
section
variable {E:Env} {C:Cf} {s:St} {a:Act} {w:World} {R:Nat→Prop} {loc:Root→Loc} {fp:Root→List Nat} {F:List Nat}
theorem run_binL {P:Program} {op:BinOp} {t:TypeId} {x y l:L} {u v:Value} {S S':List Nat} (hu:RepL w false u x S) (hv:RepL w false v y S') (h:binL op x y=some l) (p q:Operand) :
    ∃ r,(do eqGuard op t p q u v;binOp op t u v:Sem Value).run P w=.ok r w∧RepL w false r l []∧l.flat=true:=by
  unfold binL at h
  split at h
  · rename_i k n k' n'
    cases hu;cases hv
    have hg:(eqGuard op t p q (.int k n) (.int k' n')).run P w=.ok () w:=by
      unfold eqGuard
      cases op<;>rfl
    simp only [Sem.run_bind,hg,Result.andThen_ok]
    split at h
    · -- shl
      unfold shiftBin at h
      split at h
      · cases h
      · rename_i hb
        simp only [Option.some.injEq] at h
        subst h
        exact ⟨_,by simp [binOp,Op.shift,hb],.int _ _ _,rfl⟩
    · unfold shiftBin at h
      split at h
      · cases h
      · rename_i hb
        simp only [Option.some.injEq] at h
        subst h
        exact ⟨_,by simp [binOp,Op.shift,hb],.int _ _ _,rfl⟩
    · split at h
      · rename_i hk
        subst hk
        unfold intBin at h
        split at h<;>first | (cases h;done) | skip
        all_goals first
          | (cases h
             refine ⟨_,?_,RepL.int _ _ _,rfl⟩
             simp only [binOp,ne_eq,not_true_eq_false,if_false]
             rfl)
          | (cases h
             refine ⟨_,?_,RepL.bool _ _,rfl⟩
             simp only [binOp,ne_eq,not_true_eq_false,if_false]
             rfl)
          | (split at h
             · cases h
             · rename_i hb
               cases h
               refine ⟨_,?_,RepL.int _ _ _,rfl⟩
               simp only [binOp,ne_eq,not_true_eq_false,if_false,Op.intDiv,hb]
               rfl)
      · cases h
  · rename_i b c
    generalize hx:L.str b=x' at hu
    generalize hy:L.str c=y' at hv
    cases hu<;>cases hx
    cases hv<;>cases hy
    rename_i p1 p2
    have hg:(eqGuard op t p q (.string p1) (.string p2)).run P w=.ok () w:=by
      unfold eqGuard
      cases op<;>rfl
    simp only [Sem.run_bind,hg,Result.andThen_ok]
    unfold strBin at h
    split at h
    · split at h<;>cases h
      rename_i hle
      refine ⟨.string (p1++p2),?_,?_,rfl⟩
      · have:¬ ((p1.size+p2.size:Nat):Int) > IntKind.i64.max:=by
          have h1:p1.size=p1.data.toList.length:=(Array.length_toList (xs:=p1.data)).symm
          have h2:p2.size=p2.data.toList.length:=(Array.length_toList (xs:=p2.data)).symm
          have h3:IntKind.i64.max=9223372036854775807:=by rfl
          rw [h3];omega
        simp only [binOp,Op.stringOp]
        rw [if_neg this];rfl
      · have:p1.data.toList++p2.data.toList=(p1++p2).data.toList:=by simp
        rw [this];exact .str _ _
    · cases h
      refine ⟨_,by simp [binOp,Op.stringOp];rfl,?_,rfl⟩
      rw [ByteArray.toList_eq,ByteArray.toList_eq];exact .bool _ _
    · cases h
      refine ⟨_,by simp [binOp,Op.stringOp];rfl,?_,rfl⟩
      rw [ByteArray.toList_eq,ByteArray.toList_eq];exact .bool _ _
    · cases h
  · cases h
theorem run_equalBool {P:Program} {t:TypeId} (h:P.underlying t=some .bool) (p q:Bool):(Op.equal t (.bool p) (.bool q)).run P w=.ok (p==q) w:=by
  unfold Op.equal
  show (Op.equalIn (9999+1) t (.bool p) (.bool q)).run P w=_
  rw [Op.equalIn]
  simp only [Sem.run_bind,run_underlying' w h,Result.andThen_ok]
  rfl
theorem isNilK_spec {y:Operand} (h:isNilK y=true):y=.const .nilIface:=by
  unfold isNilK at h
  split at h
  · rfl
  · cases h
theorem run_equalNil {P:Program} {t:TypeId} {ms} (h:P.underlying t=some (.interface ms)):(Op.equal t .nilIface .nilIface).run P w=.ok true w∧∀ a b,(Op.equal t (.iface a b) .nilIface).run P w=.ok false w:=by
  unfold Op.equal
  refine ⟨?_,fun a b=>?_⟩
  · show (Op.equalIn (9999+1) t .nilIface .nilIface).run P w=_
    rw [Op.equalIn]
    simp only [Sem.run_bind,run_underlying' w h,Result.andThen_ok]
    rfl
  · show (Op.equalIn (9999+1) t (.iface a b) .nilIface).run P w=_
    rw [Op.equalIn]
    simp only [Sem.run_bind,run_underlying' w h,Result.andThen_ok]
    rfl
theorem run_nilGuard {P:Program} {t:TypeId} (op:BinOp) (x:Operand) (v:Value):(eqGuard op t x (.const .nilIface) v .nilIface).run P w=.ok () w:=by
  unfold eqGuard
  cases op<;>cases v<;>first | rfl | simp
theorem ok_nil {o:Oper} {op:BinOp} {t t':TypeId} {x y:Operand} {z:AV} {Q} (gk:GlobOk E C) (I:Inv C s a w R loc fp F) (ho:o.op=.binOp op t x y t') (hd:∀ y,o.dst=some y→y<C.N) (hk:isNilK y=true)
    (h:evNil E op t (opnd E s x)=some z):o.wp E.P a w (InvX C (s.put o.dst z)) Q:=by
  have hy:=isNilK_spec hk
  subst hy
  have hx:=opnd_rep gk I x
  unfold evNil at h
  split at h<;>try (cases h;done)
  rename_i m p hp
  rw [hp] at hx
  split at h<;>try (cases h;done)
  rename_i hif
  obtain ⟨ms,hdd⟩:∃ ms,E.P.underlying t=some (.interface ms):=by
    unfold isIface at hif
    split at hif
    · exact ⟨_,by assumption⟩
    · cases hif
  obtain ⟨S,h1,_⟩:=scal hx
  generalize hxv:a.eval x=xv at h1
  have htag:tagV p xv=true:=by
    cases h1 with
    | tag _ _ _ g=>exact g
  have hyv:a.eval (.const .nilIface)=.nilIface:=rfl
  obtain ⟨q1,q2⟩:=run_equalNil (w:=w) hdd
  simp only [Option.map_eq_some_iff] at h
  obtain ⟨b,hb,rfl⟩:=h
  refine opVal (w':=w) (v:=.bool b) ?_ (InvX.put I hd (mkFlat (.bool _ _) rfl))
  have e:(do eqGuard op t x (.const .nilIface) xv .nilIface;binOp op t xv .nilIface:Sem Value).run E.P w=.ok (.bool b) w:=by
    unfold nilOp at hb
    split at hb<;>cases hb
    all_goals
      unfold tagV at htag
      split at htag<;>simp at *
    all_goals rw [run_nilGuard,Result.andThen_ok]
    · show ((do pure (.bool (← Op.equal t .nilIface .nilIface)):Sem Value).run E.P w)=_
      rw [Sem.run_bind,q1];rfl
    · show ((do pure (.bool (← Op.equal t (.iface _ _) .nilIface)):Sem Value).run E.P w)=_
      rw [Sem.run_bind,q2];rfl
    · show ((do pure (.bool (!(← Op.equal t .nilIface .nilIface))):Sem Value).run E.P w)=_
      rw [Sem.run_bind,q1];rfl
    · show ((do pure (.bool (!(← Op.equal t (.iface _ _) .nilIface))):Sem Value).run E.P w)=_
      rw [Sem.run_bind,q2];rfl
  simp only [execOp,ho,hxv,hyv]
  rw [Sem.run_bind,e];rfl
theorem ok_binOp {o:Oper} {op:BinOp} {t t':TypeId} {x y:Operand} {z:AV} {Q} (gk:GlobOk E C) (I:Inv C s a w R loc fp F) (ho:o.op=.binOp op t x y t') (hd:∀ y,o.dst=some y→y<C.N)
    (heq:∀ (op:BinOp) (u v:Value) (as bs:List L) (S S':List Nat) (b:Bool),(eqAgg E.P t&&shapeT E.P 8 t as)=true→isAgg u=true→isAgg v=true→RepLs w false u.cells.toList as S→RepLs w false v.cells.toList bs S'→cellsEq as bs=some b →
      (do eqGuard .eql t x y u v;binOp .eql t u v:Sem Value).run E.P w=.ok (.bool b) w∧(do eqGuard .neq t x y u v;binOp .neq t u v:Sem Value).run E.P w=.ok (.bool (!b)) w)
    (h:evBinO E op t y (opnd E s x) (opnd E s y)=some z):o.wp E.P a w (InvX C (s.put o.dst z)) Q:=by
  unfold evBinO at h
  split at h
  · rename_i hk
    exact ok_nil gk I ho hd hk h
  have hx:=opnd_rep gk I x
  have hy:=opnd_rep gk I y
  unfold evBin at h
  split at h
  · rename_i m p m' q hp hq
    rw [hp] at hx
    rw [hq] at hy
    obtain ⟨S,h1,_⟩:=scal hx
    obtain ⟨S',h2,_⟩:=scal hy
    generalize hxv:a.eval x=xv at h1
    generalize hyv:a.eval y=yv at h2
    cases h1;cases h2
    split at h<;>try (cases h;done)
    rename_i ti ht
    obtain ⟨i,d,zz,hi,hdd,hz,hzs,hz1,hn,h0,e1,e2,e3,e4,e5⟩:=tiOf_spec ht
    split at h<;>cases h
    · rename_i hb
      have hdb:d=.bool:=by rw [e5] at hb;cases d<;>simp [tdOf] at hb;rfl
      subst hdb
      refine opVal (w':=w) (v:=.bool (p==q)) ?_ (InvX.put I hd (mkFlat (.bool _ _) rfl))
      have e:(do eqGuard .eql t x y (.bool p) (.bool q);binOp .eql t (.bool p) (.bool q):Sem Value).run E.P w=.ok (.bool (p==q)) w:=by
        have e1:(eqGuard .eql t x y (.bool p) (.bool q)).run E.P w=.ok () w:=rfl
        have e2:binOp .eql t (.bool p) (.bool q)=(do pure (.bool (← Op.equal t (.bool p) (.bool q)))):=rfl
        simp only [Sem.run_bind,e1,e2,Result.andThen_ok,run_equalBool hdd];rfl
      simp only [execOp,ho,hxv,hyv]
      rw [Sem.run_bind,e];rfl
    · rename_i hb
      have hdb:d=.bool:=by rw [e5] at hb;cases d<;>simp [tdOf] at hb;rfl
      subst hdb
      refine opVal (w':=w) (v:=.bool (!(p==q))) ?_ (InvX.put I hd (mkFlat (.bool _ _) rfl))
      have e:(do eqGuard .neq t x y (.bool p) (.bool q);binOp .neq t (.bool p) (.bool q):Sem Value).run E.P w=.ok (.bool (!(p==q))) w:=by
        have e1:(eqGuard .neq t x y (.bool p) (.bool q)).run E.P w=.ok () w:=rfl
        have e2:binOp .neq t (.bool p) (.bool q)=(do pure (.bool (!(← Op.equal t (.bool p) (.bool q))))):=rfl
        simp only [Sem.run_bind,e1,e2,Result.andThen_ok,run_equalBool hdd];rfl
      simp only [execOp,ho,hxv,hyv]
      rw [Sem.run_bind,e];rfl
  · rename_i m p m' q _ hp hq
    rw [hp] at hx
    rw [hq] at hy
    obtain ⟨S,h1,_⟩:=scal hx
    obtain ⟨S',h2,_⟩:=scal hy
    cases hb:binL op p q with
    | none=>simp [hb] at h
    | some l =>
      simp only [hb,Option.map_some,Option.some.injEq] at h
      subst h
      obtain ⟨r,hr,hr1,hr2⟩:=run_binL (P:=E.P) (t:=t) h1 h2 hb x y
      refine opVal (w':=w) (v:=r) ?_ (InvX.put I hd (mkFlat hr1 hr2))
      simp only [execOp,ho]
      rw [Sem.run_bind,hr];rfl
  · rename_i m p m' q hp hq
    rw [hp] at hx
    rw [hq] at hy
    obtain ⟨S,h1,h2,_⟩:=hx
    obtain ⟨S',h3,h4,_⟩:=hy
    split at h<;>try (cases h;done)
    rename_i hag
    split at h<;>try (cases h;done)
    · rename_i b hb
      cases h
      refine opVal (w':=w) (v:=.bool b) ?_ (InvX.put I hd (mkFlat (.bool _ _) rfl))
      have:=(heq .eql _ _ _ _ _ _ b hag h2 h4 h1 h3 hb).1
      simp only [execOp,ho]
      rw [Sem.run_bind,this];rfl
    · rename_i b hb
      cases h
      refine opVal (w':=w) (v:=.bool (!b)) ?_ (InvX.put I hd (mkFlat (.bool _ _) rfl))
      have:=(heq .neq _ _ _ _ _ _ b hag h2 h4 h1 h3 hb).2
      simp only [execOp,ho]
      rw [Sem.run_bind,this];rfl
  · cases h
theorem ok_unOp {o:Oper} {op:UnOp} {t:TypeId} {x:Operand} {z:AV} {Q} (gk:GlobOk E C) (I:Inv C s a w R loc fp F) (ho:o.op=.unOp op t x) (hd:∀ y,o.dst=some y→y<C.N)
    (h:evUn op (opnd E s x)=some z):o.wp E.P a w (InvX C (s.put o.dst z)) Q:=by
  have hx:=opnd_rep gk I x
  unfold evUn at h
  split at h<;>cases h
  · rename_i m b hp
    rw [hp] at hx
    obtain ⟨S,h1,_⟩:=scal hx
    generalize hxv:a.eval x=xv at h1
    cases h1
    exact opVal (w':=w) (v:=.bool (!b)) (by simp [execOp,ho,hxv,Op.unary]) (InvX.put I hd (mkFlat (.bool _ _) rfl))
  · rename_i m k n hp
    rw [hp] at hx
    obtain ⟨S,h1,_⟩:=scal hx
    generalize hxv:a.eval x=xv at h1
    cases h1
    exact opVal (w':=w) (v:=.int k (k.wrap (0 - n))) (by simp [execOp,ho,hxv,Op.unary,Op.intArith]) (InvX.put I hd (mkFlat (.int _ _ _) rfl))
theorem ok_nilCheck {o:Oper} {x:Operand} {s':St} {Q} (gk:GlobOk E C) (I:Inv C s a w R loc fp F) (ho:o.op=.nilCheck x) (hd:∀ y,o.dst=some y→y<C.N)
    (h:(match opnd E s x with | .ad r k0 k1 off hops=>(s.getAd r k0 k1 off hops).map fun _=>s.put o.dst (.ad r k0 k1 off hops) | .v m false [.ref ls]=>some (s.put o.dst (.v m false [.ref ls])) | _=>none)=some s'):o.wp E.P a w (InvX C s') Q:=by
  have hx:=opnd_rep gk I x
  split at h
  · rename_i r k0 k1 off hops hq
    rw [hq] at hx
    cases hg:s.getAd r k0 k1 off hops with
    | none=>simp [hg] at h
    | some y =>
      simp only [hg,Option.map_some,Option.some.injEq] at h
      subst h
      obtain ⟨q⟩:=I.pointed (n:=0) hx hg (Nat.zero_le _)
      exact opVal (w':=w) (v:=a.eval x) (by simp [execOp,ho,q.hv]) (InvX.put I hd hx)
  · rename_i m ls hq
    rw [hq] at hx
    cases h
    obtain ⟨S,h1,_⟩:=scal hx
    have hv:∃ b,a.eval x=.pointer (some b):=by
      generalize a.eval x=xv at h1
      cases h1;exact ⟨_,rfl⟩
    obtain ⟨b,hb⟩:=hv
    exact opVal (w':=w) (v:=a.eval x) (by simp [execOp,ho,hb]) (InvX.put I hd hx)
  · cases h
end
end Go.Ev


namespace Go.Ev
theorem cad_addOff (w:World) (o:Nat):∀ (hops:List Hop) (cs:List Value) (off:Nat),hops≠[]→cad w cs (addOff o off hops).1 (addOff o off hops).2=(cad w cs off hops).map fun a=>⟨a.block,a.off+o,none⟩
 | [],_,_,h=>absurd rfl h
 | [(i,sz,p)],cs,off,_=>by
  simp only [addOff,cad]
  split<;>simp [Nat.add_assoc]
 | (i,sz,p)::h2::hs,cs,off,_=>by
  obtain ⟨i2,sz2,p2⟩:=h2
  have e1:(addOff o p ((i2,sz2,p2)::hs)).1=p:=by cases hs<;>simp [addOff]
  have e2:(addOff o p ((i2,sz2,p2)::hs)).2=(addOff o off ((i2,sz2,p2)::hs)).2:=by
   cases hs with
   | nil=>simp [addOff]
   | cons h3 hs' =>
    have:∀ (l:List Hop) (x y:Nat),l≠[]→(addOff o x l).2=(addOff o y l).2:=by
     intro l
     induction l with
     | nil=>intro x y h;exact absurd rfl h
     | cons h l ih =>
      intro x y _
      obtain ⟨i,sz,p⟩:=h
      cases l with
      | nil=>simp [addOff]
      | cons h' l'=>simp only [addOff];rw [ih x y (by simp)]
    exact this _ _ _ (by simp)
  have ih:=fun cs=>cad_addOff w o ((i2,sz2,p2)::hs) cs p (by simp)
  simp only [e1] at ih
  rw [show addOff o off ((i,sz,p)::(i2,sz2,p2)::hs)=(off,(i,sz,p)::(addOff o off ((i2,sz2,p2)::hs)).2) from rfl]
  rw [← e2]
  have hne:(addOff o p ((i2,sz2,p2)::hs)).2≠[]:=by cases hs<;>simp [addOff]
  generalize hq:(addOff o p ((i2,sz2,p2)::hs)).2=q at *
  cases q with
  | nil=>exact absurd rfl hne
  | cons q1 qs =>
   simp only [cad]
   split
   ·split
    ·rw [ih];simp only [cad]
    ·rfl
   ·rfl
theorem place_addOff (o:Nat):∀ (hops:List Hop) (ls:List L) (off:Nat),(place ls (addOff o off hops).1 (addOff o off hops).2).isSome=true→(place ls off hops).isSome=true
 | [],ls,off,h=>by
  simp only [addOff,place] at h ⊢
  split at h<;>simp at h
  rw [if_pos (by omega)];rfl
 | [(i,sz,p)],ls,off,h=>by
  simp only [addOff,place] at h ⊢
  split at h<;>try (simp at h;done)
  split at h<;>try (simp at h;done)
  split at h<;>try (simp at h;done)
  rename_i hr
  split at h<;>try (simp at h;done)
  simp only [*]
  rw [if_pos trivial,if_pos (by omega)];rfl
 | (i,sz,p)::h2::hs,ls,off,h=>by
  obtain ⟨i2,sz2,p2⟩:=h2
  have e1:∀ y,(addOff o y ((i2,sz2,p2)::hs)).1=y:=by intro y;cases hs<;>simp [addOff]
  have e2:∀ (l:List Hop) (x y:Nat),l≠[]→(addOff o x l).2=(addOff o y l).2:=by
   intro l
   induction l with
   | nil=>intro x y h;exact absurd rfl h
   | cons h l ih =>
    intro x y _
    obtain ⟨i,sz,p⟩:=h
    cases l with
    | nil=>simp [addOff]
    | cons h' l'=>simp only [addOff];rw [ih x y (by simp)]
  rw [show addOff o off ((i,sz,p)::(i2,sz2,p2)::hs)=(off,(i,sz,p)::(addOff o off ((i2,sz2,p2)::hs)).2) from rfl] at h
  rw [e2 _ off p (by simp)] at h
  have ih:=fun row=>place_addOff o ((i2,sz2,p2)::hs) row p
  simp only [e1 p] at ih
  rw [place] at h ⊢
  split at h<;>try (simp at h;done)
  split at h<;>try (simp at h;done)
  split at h<;>try (simp at h;done)
  rename_i hx _ row hrow hsz
  simp only [hx,hrow,hsz,if_true]
  exact ih _ h
theorem cad_snoc (w:World) (i sz o:Nat):∀ (hops:List Hop) (cs:List Value) (off:Nat) (vs:List Value) (a:Addr) (len cap:Nat),cpl w cs off hops=some vs→vs[0]?=some (.slice (some a) len cap) →
  cad w cs off (hops++[(i,sz,o)])=some ⟨a.block,a.off+i*sz+o,none⟩
 | [],cs,off,vs,a,len,cap,h,hv=>by
  simp only [cpl,Option.some.injEq] at h
  subst h
  have:cs[off]?=some (.slice (some a) len cap):=by simpa using hv
  simp [cad,this]
 | (i1,sz1,p)::hs,cs,off,vs,a,len,cap,h,hv=>by
  simp only [cpl] at h
  split at h<;>try (cases h;done)
  rename_i a1 _ _ hc
  split at h<;>try (cases h;done)
  rename_i ds _ _ hb
  have ih:=cad_snoc w i sz o hs _ p vs a len cap h hv
  simp only [List.cons_append,cad,hc]
  cases hs with
  | nil=>simp only [List.nil_append,hb] at ih ⊢;exact ih
  | cons h2 hs2=>simp only [List.cons_append] at ih ⊢;simp only [hb];exact ih
section
variable {E:Env} {C:Cf} {s:St} {a:Act} {w:World} {R:Nat→Prop} {loc:Root→Loc} {fp:Root→List Nat} {F:List Nat}
theorem ptrAdd_rep (I:Inv C s a w R loc fp F) {v:Value} {x y:AV} {o:Nat} (h:AVRep w R C.B s.H loc v x) (hp:ptrAdd o s x=some y) :
  ∃ b p,v=.pointer (some ⟨b,p,none⟩)∧AVRep w R C.B s.H loc (.pointer (some ⟨b,p+o,none⟩)) y:=by
 unfold ptrAdd at hp
 split at hp
 ·rename_i m ls
  split at hp<;>cases hp
  rename_i ho
  obtain ⟨S,h1,h2,h3⟩:=scal h
  cases h1 with
  | ref b0 p0 cs T fr _ S hb hl hr =>
   obtain ⟨S1,S2,rfl,hr1,hr2⟩:=hr.split o
   refine ⟨_,_,rfl,mkScal (S:=b0::S2) (.ref b0 (p0+o) cs T fr _ S2 hb (by simp;omega) ?_) (fun c hc=>h2 c (by simp at hc ⊢;rcases hc with q | q<;>simp [q])) (fun hm=>absurd (h3 hm) (by simp [L.flat]))⟩
   have e:(List.take (ls.drop o).length (cs.toList.drop (p0+o)))=((cs.toList.drop p0).take ls.length).drop o:=by
    simp only [List.length_drop,List.drop_take,List.drop_drop]
   rw [e];exact hr2
 ·rename_i r k0 k1 off hops
  cases hg:s.getAd r k0 k1 off hops with
  | none=>simp [hg] at hp
  | some zz =>
  simp only [hg,Option.map_some,Option.some.injEq] at hp
  subst hp
  obtain ⟨q⟩:=I.pointed (n:=0) h hg (Nat.zero_le _)
  obtain ⟨b0,p0,rfl⟩:∃ b p,v=.pointer (some ⟨b,p,none⟩):=⟨_,_,q.hv⟩
  obtain ⟨hh,g1,g2,g3,g4⟩:=h
  refine ⟨_,_,rfl,hh,?_,g2,g3,fun ok=>?_⟩
  ·exact g1
  ·match hops,g4,ok with
   | [],g4,ok =>
    obtain ⟨b,hl,hv⟩:=g4 ok
    cases hv
    exact ⟨b0,hl,by simp [addOff]⟩
   | [(i,sz,p)],g4,ok =>
    obtain ⟨a',ha,hv⟩:=g4 ok
    have:=cad_addOff w o [(i,sz,p)] ((loc r).cells w) off (by simp)
    simp only [addOff] at this ok ⊢
    rw [ha] at this
    cases hv
    exact ⟨_,this,rfl⟩
   | (i,sz,p)::(i2,sz2,p2)::hs,g4,ok =>
    have e:∃ q1 qs,addOff o off ((i,sz,p)::(i2,sz2,p2)::hs)=(off,(i,sz,p)::q1::qs):=by
     cases hs with
     | nil=>exact ⟨_,_,rfl⟩
     | cons h3 hs'=>exact ⟨_,_,rfl⟩
    obtain ⟨q1,qs,e⟩:=e
    have hc:=cad_addOff w o ((i,sz,p)::(i2,sz2,p2)::hs) ((loc r).cells w) off (by simp)
    have hpl:=place_addOff o ((i,sz,p)::(i2,sz2,p2)::hs) hh.ls off
    rw [e] at hc hpl ok ⊢
    intro hs1
    obtain ⟨a',ha,hv⟩:=g4 (by simpa [HC.okAd] using ok) (hpl hs1)
    rw [ha] at hc
    cases hv
    exact ⟨_,hc,rfl⟩
 ·cases hp
theorem elemOf {d:TypeDesc} {e:TypeId} (h:tdOf d=.slice e):d=.slice e:=by cases d<;>simp [tdOf] at h;rw [h]
theorem arrOf {d:TypeDesc} {n:Nat} {e:TypeId} (h:tdOf d=.arr n e):d=.array n e:=by cases d<;>simp [tdOf] at h;obtain ⟨rfl,rfl⟩:=h;rfl
theorem structOf {d:TypeDesc} {l:List (Nat × TypeId)} (h:tdOf d=.struct l):∃ fs,d=.struct fs∧l=fs.toList.map fun f=>(f.offset,f.type):=by cases d<;>simp [tdOf] at h;exact ⟨_,rfl,h.symm⟩
theorem strOf {d:TypeDesc} (h:tdOf d=.str):d=.string:=by cases d<;>simp [tdOf] at h;rfl
theorem intOfD {d:TypeDesc} {k:IntKind} (h:tdOf d=.int k):d=.int k:=by cases d<;>simp [tdOf] at h;rw [h]
theorem add_blk (b p j:Nat):(⟨b,p,none⟩:Addr).add j=⟨b,p+j,none⟩:=by unfold Addr.add;split<;>simp_all
theorem ok_fieldAddr {o:Oper} {t:TypeId} {x:Operand} {i:Nat} {y:AV} {Q} (gk:GlobOk E C) (I:Inv C s a w R loc fp F) (ho:o.op=.fieldAddr t x i) (hd:∀ y,o.dst=some y→y<C.N)
  (h:evFieldAddr E t (opnd E s x) i s=some y):o.wp E.P a w (InvX C (s.put o.dst y)) Q:=by
 have hx:=opnd_rep gk I x
 unfold evFieldAddr at h
 split at h<;>try (cases h;done)
 rename_i ti ht
 obtain ⟨i0,d,zz,hi,hdd,hz,hzs,hz1,hn,h0,e1,e2,e3,e4,e5⟩:=tiOf_spec ht
 split at h<;>try (cases h;done)
 rename_i fs hfs
 split at h<;>try (cases h;done)
 rename_i off ft hft
 split at h<;>try (cases h;done)
 rename_i fi hfi
 obtain ⟨i1,d1,z1,hi1,hdd1,hz1',hzs1,hz11,hn1,h01,f1,f2,f3,f4,f5⟩:=tiOf_spec hfi
 split at h<;>try (cases h;done)
 rename_i hne
 obtain ⟨fa,hfa,hl⟩:=structOf (e5 ▸ hfs)
 subst hl
 rw [List.getElem?_map] at hft
 cases hq:fa.toList[i]? with
 | none=>simp [hq] at hft
 | some g =>
  simp only [hq,Option.map_some,Option.some.injEq,Prod.mk.injEq] at hft
  obtain ⟨rfl,rfl⟩:=hft
  obtain ⟨b,p,hv,hrep⟩:=ptrAdd_rep I hx h
  have hq':fa[i]?=some g:=by rw [← Array.getElem?_toList];exact hq
  refine opVal (w':=w) (v:=.pointer (some ⟨b,p+g.offset,none⟩)) ?_ (InvX.put I hd hrep)
  subst hfa
  have hs:i1.size≠0:=by rw [← f1];exact hne
  simp [execOp,ho,Instr.fieldAt,run_underlying' w hdd,hq',hv,Instr.sureAddr,fieldPlace,run_sizeOf' w hi1,hs,add_blk]
theorem asIntOf_int {P:Program} (k:IntKind) (n:Int):(asIntOf (.int k n)).run P w=.ok (k,n) w:=rfl
theorem ok_indexAddr {o:Oper} {t:TypeId} {x ix:Operand} {y:AV} {Q} (gk:GlobOk E C) (I:Inv C s a w R loc fp F) (ho:o.op=.indexAddr t x ix) (hd:∀ y,o.dst=some y→y<C.N)
  (h:evIndexAddr E t (opnd E s x) (opnd E s ix) s=some y):o.wp E.P a w (InvX C (s.put o.dst y)) Q:=by
 have hx:=opnd_rep gk I x
 have hix:=opnd_rep gk I ix
 unfold evIndexAddr at h
 split at h<;>try (cases h;done)
 rename_i ti n ht hin
 obtain ⟨k,hk⟩:=asInt_of hix hin
 obtain ⟨i0,d,zz,hi,hdd,hz,hzs,hz1,hn,h0,e1,e2,e3,e4,e5⟩:=tiOf_spec ht
 split at h
 ·rename_i e he
  obtain rfl:=elemOf (e5 ▸ he)
  split at h<;>try (cases h;done)
  rename_i ei hei
  obtain ⟨i1,d1,z1,hi1,hdd1,hz1',hzs1,hz11,hn1,h01,f1,f2,f3,f4,f5⟩:=tiOf_spec hei
  split at h<;>try (cases h;done)
  rename_i hn0
  -- what a slice's element's address is
  have go:∀ (xs:List (List L)) (row:List L) (o0:Bool) (S:List Nat),RepL w o0 (a.eval x) (.sl xs) S→xs[n.toNat]?=some row→row.length=ei.size →
    ∃ b off cap cs T fr S0 S1,a.eval x=.slice (some ⟨b,off,none⟩) xs.length cap∧S=b::S0∧w.heap[b]?=some (.cells cs T fr)∧off+n.toNat*ei.size+ei.size≤cs.size∧RepLs w o0 ((cs.toList.drop (off+n.toNat*ei.size)).take ei.size) row S1∧(∀ c∈S1,c∈S0) ∧
    (execOp a.eval o).run E.P w=.ok (.value (.pointer (some ⟨b,off+n.toNat*ei.size,none⟩))) w:=by
   intro xs row o0 S hr hrow hlen
   have hne:xs≠[]:=by intro e;subst e;simp at hrow
   obtain ⟨b,off,cap,cs,T,fr,sz,S0,hv,hS,hb,hsz,hxl,hcap,hsize,hrr⟩:=hr.slCases hne
   have hszz:sz=ei.size:=by rw [← hlen];exact (hxl row (List.mem_of_getElem? hrow)).symm
   subst hszz
   obtain ⟨hlt,_⟩:=List.getElem?_eq_some_iff.1 hrow
   have hisz:n.toNat*ei.size+ei.size≤xs.length*ei.size:=by have:=Nat.mul_le_mul_right ei.size (show n.toNat+1≤xs.length by omega);rw [Nat.succ_mul] at this;exact this
   have hcapsz:xs.length*ei.size≤cap*ei.size:=Nat.mul_le_mul_right ei.size hcap
   obtain ⟨R1,Rm,R2,hR,r1,rm,r2⟩:=hrr.range (n.toNat*ei.size) ei.size (by rw [flatten_len ei.size xs hxl];omega)
   rw [flatten_row ei.size xs n.toNat row hxl hrow,take_drop_of _ _ _ _ _ (by omega)] at rm
   refine ⟨b,off,cap,cs,T,fr,S0,Rm,hv,hS,hb,by omega,rm,fun c hc=>by rw [hR];simp [hc],?_⟩
   have hlt':n<(xs.length:Int):=by omega
   simp [execOp,ho,Instr.indexAt,hk,hv,asIntOf_int,run_underlying' w hdd,hn0,hlt',run_sizeOf' w hi1,add_blk,f1]
  split at h<;>try (cases h;done)
  ·rename_i m xs hq
   rw [hq] at hx
   obtain ⟨S,h1,h2,h3⟩:=scal hx
   split at h<;>try (cases h;done)
   rename_i row hrow
   split at h<;>try (cases h;done)
   rename_i hlen
   cases h
   obtain ⟨b,off,cap,cs,T,fr,S0,S1,hv,hS,hb,hsize,hrep,hsub,hrun⟩:=go xs row false S h1 hrow hlen
   refine opVal hrun (InvX.put I hd (mkScal (S:=b::S1) (.ref b _ cs T fr row S1 hb (by omega) (by rw [hlen];exact hrep)) (fun c hc=>h2 c ?_) (fun hm=>absurd (h3 hm) (by simp [L.flat]))))
   rw [hS];simp at hc ⊢;rcases hc with q | q
   ·exact .inl q
   ·exact .inr (hsub c q)
  ·rename_i r k0 k1 off hops hq
   rw [hq] at hx
   split at h<;>try (cases h;done)
   rename_i hh xs hg
   split at h<;>try (cases h;done)
   rename_i row hrow
   split at h<;>try (cases h;done)
   rename_i hlen
   obtain ⟨hr,ln,hlk,hag,hvs⟩:=I.atVal hx hg
   have hrl:RepL w hh.m.isOwn (a.eval x) (.sl xs) ln.Sm:=oneRep (hvs ▸ ln.rep) hag
   obtain ⟨b,boff,cap,cs,T,fr,S0,S1,hv,hS,hb,hsize,hrep,hsub,hrun⟩:=go xs row _ _ hrl hrow hlen
   refine opVal hrun (InvX.put I hd ?_)
   split at h
   ·cases h
    obtain ⟨g1,ok,suf,hpl,hnn,hsubl⟩:=getAt_spec hg
    obtain ⟨h0',q1,q2,q3,q4⟩:=hx
    rw [g1] at q1;cases q1
    have hcells:(a.eval x).cells.toList=[a.eval x]:=by rw [hv];rfl
    have hcp:=ln.hc
    rw [hvs,hcells] at hcp
    cases hcpl:cpl w ((loc r).cells w) off hops with
    | none=>simp [hcpl] at hcp
    | some vs =>
     simp only [hcpl,Option.map_some,Option.some.injEq] at hcp
     have hv0:vs[0]?=some (.slice (some ⟨b,boff,none⟩) xs.length cap):=by
      have:(vs.take 1)[0]?=some (a.eval x):=by rw [hcp];rfl
      rw [List.getElem?_take] at this
      rw [← hv];simpa using this
     have hcad:=cad_snoc w n.toNat ei.size 0 hops _ off vs _ _ _ hcpl hv0
     refine ⟨hh,g1,q2,q3,fun _=>?_⟩
     unfold addHop
     cases hops with
     | nil=>exact ⟨_,hcad,rfl⟩
     | cons h1 hs =>
      cases hs with
      | nil=>exact fun _=>⟨_,hcad,rfl⟩
      | cons h2 hs2=>exact fun _=>⟨_,hcad,rfl⟩
   ·rename_i hm
    cases h
    have hal:∀ c∈ln.Sm,Al R C.B hh.m c:=by
     rcases hr.al with ho' | hal
     ·exact absurd ho' hm
     ·exact fun c hc=>hal c (by rw [ln.hS];simp [hc])
    refine mkScal (S:=b::S1) (.ref b _ cs T fr row S1 hb (by omega) (by rw [hlen];exact hrep.weak)) (fun c hc=>hal c ?_) (fun h'=>absurd h' hm)
    rw [hS];simp at hc ⊢;rcases hc with q | q
    ·exact .inl q
    ·exact .inr (hsub c q)
 ·rename_i len e he
  obtain rfl:=arrOf (e5 ▸ he)
  split at h<;>try (cases h;done)
  rename_i ei hei
  obtain ⟨i1,d1,z1,hi1,hdd1,hz1',hzs1,hz11,hn1,h01,f1,f2,f3,f4,f5⟩:=tiOf_spec hei
  split at h<;>try (cases h;done)
  rename_i hb
  obtain ⟨b,p,hv,hrep⟩:=ptrAdd_rep I hx h
  refine opVal (w':=w) (v:=.pointer (some ⟨b,p+n.toNat*ei.size,none⟩)) ?_ (InvX.put I hd hrep)
  simp [execOp,ho,Instr.indexAt,hk,hv,asIntOf_int,run_underlying' w hdd,hb,run_sizeOf' w hi1,add_blk,f1,Instr.sureAddr]
 ·cases h
end
end Go.Ev


namespace Go.Ev
section
variable {E:Env} {C:Cf} {s:St} {a:Act} {w:World} {R:Nat→Prop} {loc:Root→Loc} {fp:Root→List Nat} {F:List Nat}
theorem aggOf {v:Value} (h:isAgg v=true):∃ cs,v=.agg cs:=by cases v<;>simp [isAgg] at h;exact ⟨_,rfl⟩
theorem run_part {t:TypeId} {ti:TI} (ht:tiOf E.P t=some ti) {cs:Array Value} {off:Nat} (hp:off+ti.size≤cs.size) (h1:∀ v∈(cs.toList.drop off).take ti.size,v.oneCell'=true) :
  ∃ v,(part t cs off).run E.P w=.ok v w∧v.cells.toList=(cs.toList.drop off).take ti.size∧isAgg v=ti.agg:=by
 obtain ⟨i,d,z,hi,hd,hz,hzs,hz1,hn,h0,e1,e2,e3,e4,e5⟩:=tiOf_spec ht
 cases hagg:ti.agg with
 | true =>
  refine ⟨.agg (cs.extract off (off+i.size)),?_,?_,rfl⟩
  ·simp [part,run_isAgg' w hd,← e3,hagg,run_sizeOf' w hi]
  ·rw [e1];simp [Value.cells]
 | false =>
  have hs:ti.size=1:=hn hagg
  rw [hs] at hp h1
  have hlt:off<cs.size:=by omega
  have e:(cs.toList.drop off).take 1=[cs[off]]:=by rw [List.drop_eq_getElem_cons (by simpa using hlt)];simp
  have hv1:=h1 cs[off] (by rw [e];simp)
  refine ⟨cs[off],?_,?_,?_⟩
  ·simp [part,run_isAgg' w hd,← e3,hagg,hlt]
  ·rw [hs,e]
   cases h:cs[off]<;>simp [h,Value.oneCell'] at hv1<;>rfl
  ·cases h:cs[off]<;>simp [h,Value.oneCell'] at hv1<;>rfl
theorem window {w:World} {o:Bool} {vs:List Value} {ls:List L} {S:List Nat} (h:RepLs w o vs ls S) (off n:Nat) (hl:off+n≤ls.length):∃ S',RepLs w o ((vs.drop off).take n) ((ls.drop off).take n) S'∧∀ b∈S',b∈S:=by
 obtain ⟨S1,Sm,S2,hS,_,hm,_⟩:=h.range off n hl
 exact ⟨Sm,hm,fun b hb=>by rw [hS];simp [hb]⟩
def rowAt (w:World) (cs:List Value) (off i sz:Nat):Option (List Value) :=
 match cs[off]? with
 | some (.slice (some a) _ _) =>
  match w.heap[a.block]? with
  | some (.cells ds _ _)=>some ((ds.toList.drop (a.off+i*sz)).take sz)
  | _=>none
 | _=>none
theorem cpl_cons (w:World) (cs:List Value) (off i sz o:Nat) (hs:List Hop):cpl w cs off ((i,sz,o)::hs)=(rowAt w cs off i sz).bind fun r=>cpl w r o hs:=by
 rw [cpl,rowAt]
 cases cs[off]? with
 | none=>rfl
 | some v =>
  cases v with
  | slice a l c =>
   cases a with
   | none=>rfl
   | some a =>
    simp only
    cases w.heap[a.block]? with
    | none=>rfl
    | some ob=>cases ob<;>rfl
  | _=>rfl
theorem repStr {w:World} {o v bs S} (h:RepL w o v (.str bs) S):∃ B:ByteArray,v=.string B∧B.data.toList=bs∧B.size=bs.length:=by
 generalize hl:L.str bs=l at h
 cases h<;>cases hl
 exact ⟨_,rfl,rfl,(Array.length_toList).symm⟩
theorem cpl_addOff (w:World) (o:Nat):∀ (hops:List Hop) (cs:List Value) (off:Nat),cpl w cs (addOff o off hops).1 (addOff o off hops).2=(cpl w cs off hops).map (·.drop o)
 | [],cs,off=>by simp [addOff,cpl]
 | [(i,sz,p)],cs,off=>by
  simp only [addOff,cpl]
  split
  ·split<;>simp
  ·simp
 | (i,sz,p)::h2::hs,cs,off=>by
  obtain ⟨i2,sz2,p2⟩:=h2
  have e1:∀ y,(addOff o y ((i2,sz2,p2)::hs)).1=y:=by intro y;cases hs<;>simp [addOff]
  have e2:∀ (l:List Hop) (x y:Nat),l≠[]→(addOff o x l).2=(addOff o y l).2:=by
   intro l
   induction l with
   | nil=>intro x y h;exact absurd rfl h
   | cons h l ih =>
    intro x y _
    obtain ⟨i,sz,p⟩:=h
    cases l with
    | nil=>simp [addOff]
    | cons h' l'=>simp only [addOff];rw [ih x y (by simp)]
  have ih:=fun cs=>cpl_addOff w o ((i2,sz2,p2)::hs) cs p
  simp only [e1 p] at ih
  rw [show addOff o off ((i,sz,p)::(i2,sz2,p2)::hs)=(off,(i,sz,p)::(addOff o off ((i2,sz2,p2)::hs)).2) from rfl]
  rw [e2 _ off p (by simp)]
  rw [cpl_cons,cpl_cons]
  cases rowAt w cs off i sz with
  | none=>rfl
  | some r=>exact ih r
theorem ok_field {o:Oper} {t:TypeId} {x:Operand} {i:Nat} {y:AV} {Q} (gk:GlobOk E C) (I:Inv C s a w R loc fp F) (ho:o.op=.field t x i) (hd:∀ y,o.dst=some y→y<C.N)
  (h:evField E t (opnd E s x) i s=some y):o.wp E.P a w (InvX C (s.put o.dst y)) Q:=by
 have hx:=opnd_rep gk I x
 unfold evField at h
 split at h<;>try (cases h;done)
 rename_i ti ht
 obtain ⟨i0,d,zz,hi,hdd,hz,hzs,hz1,hn,h0,e1,e2,e3,e4,e5⟩:=tiOf_spec ht
 split at h<;>try (cases h;done)
 rename_i fs hfs
 split at h<;>try (cases h;done)
 rename_i off ft hft
 split at h<;>try (cases h;done)
 rename_i fi hfi
 obtain ⟨fa,hfa,hl⟩:=structOf (e5 ▸ hfs)
 subst hl
 rw [List.getElem?_map] at hft
 cases hq:fa.toList[i]? with
 | none=>simp [hq] at hft
 | some g =>
  simp only [hq,Option.map_some,Option.some.injEq,Prod.mk.injEq] at hft
  obtain ⟨rfl,rfl⟩:=hft
  have hq':fa[i]?=some g:=by rw [← Array.getElem?_toList];exact hq
  subst hfa
  -- the machine's part
  have go:∀ (vs:List Value) (ls:List L) (o0:Bool) (S:List Nat),isAgg (a.eval x)=true→vs=(a.eval x).cells.toList→RepLs w o0 vs ls S→g.offset+fi.size≤ls.length →
    ∃ v,(execOp a.eval o).run E.P w=.ok (.value v) w∧v.cells.toList=(vs.drop g.offset).take fi.size∧isAgg v=fi.agg:=by
   intro vs ls o0 S hag hvs hr hle
   obtain ⟨cs,hv⟩:=aggOf hag
   have hvs':vs=cs.toList:=by rw [hvs,hv];rfl
   subst hvs'
   have hlen:=hr.len
   obtain ⟨S',hw,_⟩:=window hr g.offset fi.size hle
   obtain ⟨v,hrun,hc,hg⟩:=run_part (w:=w) hfi (cs:=cs) (off:=g.offset) (by simp at hlen;omega) hw.one
   exact ⟨v,by simp [execOp,ho,Instr.field,run_underlying' w hdd,hq',hv,asAgg,hrun],hc,hg⟩
  split at h
  ·rename_i m ls hqx
   rw [hqx] at hx
   split at h<;>cases h
   rename_i hle
   obtain ⟨S,h1,h2,h3,h4⟩:=hx
   obtain ⟨v,hrun,hc,hg⟩:=go _ ls false S h2 rfl h1 hle
   obtain ⟨S',hw,hsub⟩:=window h1 g.offset fi.size hle
   refine opVal hrun (InvX.put I hd ⟨S',by rw [hc];exact hw,hg,fun b hb=>h3 b (hsub b hb),fun hm=>?_⟩)
   have:=h4 hm
   rw [List.all_eq_true] at this ⊢
   exact fun l hl=>this l (List.mem_of_mem_drop (List.mem_of_mem_take hl))
  ·rename_i r k0 k1 of2 hops n hqx
   rw [hqx] at hx
   split at h<;>try (cases h;done)
   rename_i hh sub hg
   split at h<;>try (cases h;done)
   rename_i hle
   obtain ⟨hr,ln,hlk,hag,hvs⟩:=I.atVal hx hg
   obtain ⟨v,hrun,hc,hgv⟩:=go _ sub _ _ hag rfl (hvs ▸ ln.rep) hle
   have hrep:RepLs w hh.m.isOwn (a.eval x).cells.toList sub ln.Sm:=hvs ▸ ln.rep
   obtain ⟨S',hw,hsub⟩:=window hrep g.offset fi.size hle
   refine opVal hrun (InvX.put I hd ?_)
   split at h
   ·rename_i hf
    cases h
    exact ⟨[],by rw [hc];exact hw.flatAny hf w false,hgv,by simp,by simp [M.isOwn]⟩
   ·split at h
    ·cases h
     obtain ⟨h0',q1,q2,q3,q4⟩:=hx
     obtain ⟨g1,ok,suf,hpl,hnn,hsubl⟩:=getAt_spec hg
     rw [g1] at q1;cases q1
     refine ⟨hh,g1,q2,q3,fun _ _=>⟨hgv,?_⟩⟩
     rw [cpl_addOff,hc]
     have hcp:=ln.hc
     rw [hvs] at hcp
     cases hcpl:cpl w ((loc r).cells w) of2 hops with
     | none=>simp [hcpl] at hcp
     | some vs =>
      simp only [hcpl,Option.map_some,Option.some.injEq] at hcp ⊢
      rw [← hcp]
      have hl:=ln.len
      rw [hl] at hle
      apply List.ext_getElem?;intro j;grind
    ·rename_i hm
     cases h
     have hal:∀ c∈ln.Sm,Al R C.B hh.m c:=by
      rcases hr.al with ho' | hal
      ·exact absurd ho' hm
      ·exact fun c hc=>hal c (by rw [ln.hS];simp [hc])
     exact ⟨S',by rw [hc];exact hw.weak,hgv,fun b hb=>hal b (hsub b hb),fun h'=>absurd h' hm⟩
  ·cases h
theorem ok_index {o:Oper} {t:TypeId} {x ix:Operand} {y:AV} {Q} (gk:GlobOk E C) (I:Inv C s a w R loc fp F) (ho:o.op=.index t x ix) (hd:∀ y,o.dst=some y→y<C.N)
  (h:evIndex E t (opnd E s x) (opnd E s ix)=some y):o.wp E.P a w (InvX C (s.put o.dst y)) Q:=by
 have hx:=opnd_rep gk I x
 have hix:=opnd_rep gk I ix
 unfold evIndex at h
 split at h<;>try (cases h;done)
 rename_i ti n ht hin
 obtain ⟨k,hk⟩:=asInt_of hix hin
 obtain ⟨i0,d,zz,hi,hdd,hz,hzs,hz1,hn,h0,e1,e2,e3,e4,e5⟩:=tiOf_spec ht
 split at h
 ·rename_i m bs hst hq
  obtain rfl:=strOf (e5 ▸ hst)
  rw [hq] at hx
  split at h<;>try (cases h;done)
  rename_i hn0
  cases hb:bs[n.toNat]? with
  | none=>simp [hb] at h
  | some c =>
   simp only [hb,Option.map_some,Option.some.injEq] at h
   subst h
   obtain ⟨S,h1,_⟩:=scal hx
   obtain ⟨B,hxv,rfl,hsz⟩:=repStr h1
   have hbb:B[n.toNat]?=some c:=by
    obtain ⟨hlt,hc⟩:=List.getElem?_eq_some_iff.1 hb
    have hlt':n.toNat<B.size:=by omega
    rw [getElem?_pos B n.toNat hlt']
    congr 1
   exact opVal (w':=w) (v:=.int .u8 c.toNat) (by simp [execOp,ho,Instr.index,hk,hxv,asIntOf_int,run_underlying' w hdd,hn0,hbb]) (InvX.put I hd (mkFlat (.int _ _ _) rfl))
 ·rename_i len e m ls har hq
  obtain rfl:=arrOf (e5 ▸ har)
  rw [hq] at hx
  split at h<;>try (cases h;done)
  rename_i ei hei
  obtain ⟨i1,d1,z1,hi1,hdd1,hz1',hzs1,hz11,hn1,h01,f1,f2,f3,f4,f5⟩:=tiOf_spec hei
  split at h<;>try (cases h;done)
  rename_i hb
  obtain ⟨S,h1,h2,h3,h4⟩:=hx
  obtain ⟨cs,hv⟩:=aggOf h2
  have hcs:(a.eval x).cells.toList=cs.toList:=by rw [hv];rfl
  rw [hcs] at h1
  have hlen:=h1.len
  have hsq:n.toNat*ei.size+ei.size=(n.toNat+1)*ei.size:=by rw [Nat.succ_mul]
  have go:n.toNat*ei.size+ei.size≤ls.length→∃ v,(execOp a.eval o).run E.P w=.ok (.value v) w∧v.cells.toList=(cs.toList.drop (n.toNat*ei.size)).take ei.size∧isAgg v=ei.agg:=by
   intro hle
   obtain ⟨S',hw,_⟩:=window h1 _ _ hle
   obtain ⟨v,hrun,hc,hg⟩:=run_part (w:=w) hei (cs:=cs) (off:=n.toNat*ei.size) (by simp at hlen;omega) hw.one
   rw [f1] at hrun
   exact ⟨v,by simp [execOp,ho,Instr.index,hk,hv,asIntOf_int,run_underlying' w hdd,hb,run_sizeOf' w hi1,hrun],hc,hg⟩
  split at h
  ·rename_i hag
   split at h<;>cases h
   rename_i hle
   obtain ⟨v,hrun,hc,hg⟩:=go (by omega)
   obtain ⟨S',hw,hsub⟩:=window h1 (n.toNat*ei.size) ei.size (by omega)
   refine opVal hrun (InvX.put I hd ⟨S',by rw [hc];exact hw,by rw [hg,hag],fun b hb=>h3 b (hsub b hb),fun hm=>?_⟩)
   have:=h4 hm
   rw [List.all_eq_true] at this ⊢
   exact fun l hl=>this l (List.mem_of_mem_drop (List.mem_of_mem_take hl))
  ·rename_i hag
   split at h<;>try (cases h;done)
   rename_i hs1
   cases hl:ls[n.toNat]? with
   | none=>simp [hl] at h
   | some l =>
    simp only [hl,Option.map_some,Option.some.injEq] at h
    subst h
    obtain ⟨hlt,hle⟩:=List.getElem?_eq_some_iff.1 hl
    obtain ⟨v,hrun,hc,hg⟩:=go (by rw [hs1];omega)
    obtain ⟨S',hw,hsub⟩:=window h1 (n.toNat*ei.size) ei.size (by rw [hs1];omega)
    rw [hs1,Nat.mul_one] at hw hc
    have el:(ls.drop n.toNat).take 1=[l]:=by rw [List.drop_eq_getElem_cons hlt,hle];rfl
    rw [el,← hc] at hw
    refine opVal hrun (InvX.put I hd ⟨S',hw,by rw [hg];simpa using hag,fun b hb=>h3 b (hsub b hb),fun hm=>?_⟩)
    have:=h4 hm
    rw [List.all_eq_true] at this
    simp [this l (List.mem_of_getElem? hl)]
 ·cases h
theorem ok_len {P:Program} {o:Oper} {t:TypeId} {ts:List TypeId} {x:Operand} {y:AV} {Q} (gk:GlobOk E C) (I:Inv C s a w R loc fp F) (c:Call) (ho:o.op=.call c) (hc:c.callee=.builtin .len) (hargs:c.args.toList=[x]) (hts:c.argTypes.toList.headD 0=t) (hne:c.argTypes.toList≠[]) (hd:∀ y,o.dst=some y→y<C.N)
  (h:evLen E t (opnd E s x) s=some y):o.wp E.P a w (InvX C (s.put o.dst y)) Q:=by
 have hx:=opnd_rep gk I x
 have h1:c.args=#[x]:=by apply Array.ext';simpa using hargs
 have h2:c.argTypes[0]?=some t:=by
  rw [← Array.getElem?_toList]
  cases hl:c.argTypes.toList with
  | nil=>exact absurd hl hne
  | cons t0 r=>rw [hl] at hts;simp at hts;simp [hts]
 have hrun:∀ v,(Builtin.len_ c.argTypes o.type #[a.eval x]).run E.P w=.ok v w→(execOp a.eval o).run E.P w=.ok (.value v) w:=by
  intro v hv
  simp [execOp,ho,resolve,hc,h1,invoke,builtin,hv]
 unfold evLen at h
 split at h<;>try (cases h;done)
 rename_i ti ht
 obtain ⟨i0,d,zz,hi,hdd,hz,hzs,hz1,hn,h0,e1,e2,e3,e4,e5⟩:=tiOf_spec ht
 split at h
 ·rename_i m bs hst hp
  obtain rfl:=strOf (e5 ▸ hst)
  cases h
  obtain ⟨S,g1,g2,_⟩:=I.peek hx hp
  have g3:=oneRep g1 g2
  obtain ⟨B,hxv,rfl,hsz⟩:=repStr g3
  rw [← hsz]
  refine opVal (hrun (.int .i64 B.size) ?_) (InvX.put I hd (mkFlat (.int _ _ _) rfl))
  simp [Builtin.len_,h2,hxv,run_underlying' w hdd,goInt]
 ·rename_i e m xs hst hp
  obtain rfl:=elemOf (e5 ▸ hst)
  cases h
  obtain ⟨S,g1,g2,_⟩:=I.peek hx hp
  have g3:=oneRep g1 g2
  have hv:∃ p cap,a.eval x=.slice p xs.length cap:=by
   generalize a.eval x=xv at g3
   cases g3 with
   | sle _ p cap _=>exact ⟨p,cap,rfl⟩
   | sl _ b off cap cs T fr _ sz S hb hne hsz hx hc hl hr=>exact ⟨_,cap,rfl⟩
  obtain ⟨p,cap,hv⟩:=hv
  refine opVal (hrun (.int .i64 xs.length) ?_) (InvX.put I hd (mkFlat (.int _ _ _) rfl))
  simp [Builtin.len_,h2,hv,run_underlying' w hdd,goInt]
 ·rename_i n e q har hp
  obtain rfl:=arrOf (e5 ▸ har)
  cases h
  refine opVal (hrun (.int .i64 n) ?_) (InvX.put I hd (mkFlat (.int _ _ _) rfl))
  simp [Builtin.len_,h2,run_underlying' w hdd,goInt]
 ·cases h
theorem ok_minMax {o:Oper} {x y:Operand} {z:AV} {Q} (isMax:Bool) (gk:GlobOk E C) (I:Inv C s a w R loc fp F) (c:Call) (ho:o.op=.call c) (hc:c.callee=.builtin (if isMax then .max else .min)) (hargs:c.args.toList=[x,y]) (hd:∀ y,o.dst=some y→y<C.N)
  (h:minMax isMax [opnd E s x,opnd E s y]=some z):o.wp E.P a w (InvX C (s.put o.dst z)) Q:=by
 have hx:=opnd_rep gk I x
 have hy:=opnd_rep gk I y
 have h1:c.args=#[x,y]:=by apply Array.ext';simpa using hargs
 unfold minMax at h
 split at h<;>try (cases h;done)
 rename_i m k p m' k' q hl
 simp only [List.cons.injEq,and_true] at hl
 obtain ⟨hq1,hq2⟩:=hl
 rw [hq1] at hx;rw [hq2] at hy
 split at h<;>cases h
 rename_i hkk
 subst hkk
 obtain ⟨S,g1,_⟩:=scal hx
 obtain ⟨S',g2,_⟩:=scal hy
 generalize hxv:a.eval x=xv at g1
 generalize hyv:a.eval y=yv at g2
 cases g1;cases g2
 cases isMax
 ·refine opVal (w':=w) (v:=.int k (if q<p then q else p)) ?_ (InvX.put I hd (mkFlat (.int _ _ _) rfl))
  simp [execOp,ho,resolve,hc,h1,invoke,builtin,Builtin.min_,Builtin.min2,hxv,hyv,List.foldlM]
 ·refine opVal (w':=w) (v:=.int k (if p<q then q else p)) ?_ (InvX.put I hd (mkFlat (.int _ _ _) rfl))
  simp [execOp,ho,resolve,hc,h1,invoke,builtin,Builtin.max_,Builtin.max2,hxv,hyv,List.foldlM]
end
end Go.Ev


namespace Go.Ev
section
variable {E:Env} {C:Cf} {s:St} {a:Act} {w:World} {R:Nat→Prop} {loc:Root→Loc} {fp:Root→List Nat} {F:List Nat}
theorem Inv.grow {w':World} (I:Inv C s a w R loc fp F) (ws:Wst w w' fun _=>False):Inv C s a w' R loc fp F:=by
 have hs:∀ b,b<w.heap.size→Same w w' b:=fun b hb=>ws.block b hb (by simp)
 have hRB:∀ b,R b∨C.B b→Same w w' b:=fun b hb=>hs b (I.rlt b hb)
 have hh:∀ b,Held C w R b→Held C w' R b:=fun b ⟨h1,h2,h3,h4⟩=>⟨h1,h2,h3.same (hs b h3.lt),h4⟩
 exact
  {kp:=⟨ws.os.trans I.kp.os,ws.tape.trans I.kp.tape,ws.output.trans I.kp.output,Nat.le_trans I.kp.size ws.size,fun k hk hg=>(hs k (by have:=I.kp.size;omega)).trans (I.kp.block k hk hg)⟩
   r0:=I.r0,rnew:=I.rnew
   rlt:=fun b hb=>Nat.lt_of_lt_of_le (I.rlt b hb) ws.size
   rep:=fun r h hr=>by
    obtain ⟨x⟩:=I.rep r h hr
    exact (x.frame (fun _ h=>h) fun b hb=>hb.elim (fun q=>hs b (I.held r h hr b q).2.2.1.lt) (hRB b)).1
   held:=fun r h hr b hb=>hh b (I.held r h hr b hb)
   nd:=I.nd,dj:=I.dj,fheld:=fun b hb=>hh b (I.fheld b hb),fnd:=I.fnd,fdj:=I.fdj
   av:=fun t=>AVRep.frame (I.av t) I.rep (fun _ h=>h) hRB (fun _=>False) (fun r h hr _=>⟨hr,rfl,fun b hb=>hs b (I.held r h hr b hb).2.2.1.lt⟩) fun _ _ _ hb=>hb.elim
   df:=I.df,sz:=I.sz,pl:=I.pl }
theorem noAlias {r:Root} (h:lookH s.H r=none) {w':World} {R':Nat→Prop} {h':HC} {loc':Root→Loc}:∀ y u,r∈root1 y→AVRep1 w R C.B s.H loc u y→AVRep1 w' R' C.B (s.putH r h').H loc' u y:=by
 intro y u hr hy
 cases y with
 | «at» q k0 k1 off hops n agg =>
  simp only [root1,List.mem_singleton] at hr
  subst hr
  obtain ⟨h0,g1,_⟩:=hy
  rw [h] at g1;cases g1
 | ad q k0 k1 off hops =>
  simp only [root1,List.mem_singleton] at hr
  subst hr
  obtain ⟨h0,g1,_⟩:=hy
  rw [h] at g1;cases g1
 | win q k0 k1 off lo n =>
  simp only [root1,List.mem_singleton] at hr
  subst hr
  obtain ⟨h0,g1,_⟩:=hy
  rw [h] at g1;cases g1
 | dead=>trivial
 | nil=>exact hy
 | v m agg ls=>simp [root1] at hr
 | tup xs=>exact hy.elim
theorem alloc_get (w:World) (o:Obj):(w.alloc o).heap[w.heap.size]?=some o:=by
 show (w.heap.push o)[w.heap.size]?=_
 simp
theorem alloc_size (w:World) (o:Obj):(w.alloc o).heap.size=w.heap.size+1:=by
 show (w.heap.push o).size=_
 simp
theorem ownF {m:M} {S:List Nat} {b:Nat} (h:b∈(if m.isOwn then S else [])):b∈S∧m.isOwn=true:=by
 cases e:m.isOwn<;>simp [e] at h ⊢;exact h
theorem newBox {m:M} {cs:List Value} {ls:List L} {S:List Nat} (I:Inv C s a w R loc fp (if m.isOwn then S else [])) (rep:RepLs w m.isOwn cs ls S) (al:m.isOwn=true∨∀ b∈S,Al R C.B m b) (r:Root) (T:TypeId) (d:Option Nat) (hd:∀ y,d=some y→y<C.N) :
  InvX C ((s.mkBox r m ls).2.put d (s.mkBox r m ls).1) (a.put d (.pointer (some ⟨w.heap.size,0,none⟩))) (w.alloc (.cells ⟨cs⟩ T (0,0))):=by
 have ws:=Wst.alloc w (.cells ⟨cs⟩ T (0,0))
 unfold St.mkBox
 cases hl:lookH s.H r with
 | some h=>exact InvX.put (I.grow ws) hd trivial
 | none =>
  have hg:=alloc_get w (.cells ⟨cs⟩ T (0,0))
  have hS:∀ b∈S,Same w (w.alloc (.cells ⟨cs⟩ T (0,0))) b:=fun b hb=>ws.block b (rep.lt b hb) (by simp)
  have hnew:w.heap.size ∉ (if m.isOwn then S else []):=fun h=>by have:=rep.lt _ (ownF h).1;omega
  have J:=I.root r { box:=true,wr:=true,m,ls,e0:=0,e1:=0 } (.blk w.heap.size) (w.heap.size::(if m.isOwn then S else [])) (w':=w.alloc (.cells ⟨cs⟩ T (0,0))) (R':=R) (F':=[]) (fun b=>b∈(if m.isOwn then S else []))
   (fun b hb=>.inl hb) ⟨ws.os,ws.tape,ws.output,ws.size,fun k hk _=>ws.block k hk (by simp)⟩ (fun _ h=>h) (fun b hb=>.inl hb)
   ⟨{ S:=S,ob:=[w.heap.size],rep:=by simp only [Loc.cells,hg];exact rep.frame hS,fpe:=rfl,al:=al,bx:=.inl ⟨rfl,w.heap.size,_,_,_,rfl,hg,.inl ⟨rfl,rfl⟩⟩ }⟩
   (fun b hb=>by
    simp only [List.append_nil,List.mem_cons] at hb
    rcases hb with rfl | hb
    ·exact ⟨.inr (Nat.le_refl _),fun h=>by have:=I.rlt _ (.inl h);omega,_,_,_,hg,fun o _ h=>by simp at h⟩
    ·have h1:=I.fheld b hb
     exact ⟨.inl hb,h1.1,h1.2.2.1.same (hS b (ownF hb).1)⟩)
   (by simp only [List.append_nil,List.nodup_cons];exact ⟨hnew,I.fnd⟩) (fun _ _ _=>.inr trivial) (noAlias hl) (I.plNew hl)
  refine InvX.put J hd ⟨_,lookH_same _ _ _,Nat.le_refl _,Nat.le_refl _,fun _=>⟨w.heap.size,by simp,rfl⟩⟩
theorem newVal {m:M} {v:Value} {ls:List L} {S:List Nat} {agg:Bool} (I:Inv C s a w R loc fp (if m.isOwn then S else [])) (rep:RepLs w m.isOwn v.cells.toList ls S) (al:m.isOwn=true∨∀ b∈S,Al R C.B m b) (hag:isAgg v=agg) (r:Root) (d:Option Nat) (hd:∀ y,d=some y→y<C.N) :
  InvX C ((s.new r m agg ls).2.put d (s.new r m agg ls).1) (a.put d v) w:=by
 unfold St.new
 by_cases hc:(m.isOwn&&!ls.all L.flat)=true
 ·rw [if_pos hc]
  simp only [Bool.and_eq_true,Bool.not_eq_true'] at hc
  obtain ⟨ho,hf⟩:=hc
  cases hl:lookH s.H r with
  | some h=>exact InvX.put I hd trivial
  | none =>
   have J:=I.root r { box:=false,wr:=true,m:=.own,ls,e0:=0,e1:=0 } (.vals v.cells.toList) (if m.isOwn then S else []) (w':=w) (R':=R) (F':=[]) (fun b=>b∈(if m.isOwn then S else []))
    (fun b hb=>.inl hb) ⟨rfl,rfl,rfl,Nat.le_refl _,fun _ _ _=>rfl⟩ (fun _ h=>h) (fun b hb=>.inl hb)
    ⟨{ S:=S,ob:=[],rep:=by rw [ho] at rep;exact rep,fpe:=by rw [if_pos ho];rfl,al:=.inl rfl,bx:=.inr ⟨rfl,⟨_,rfl⟩,rfl⟩ }⟩
    (fun b hb=>by
     simp only [List.append_nil] at hb
     have h1:=I.fheld b hb
     exact ⟨.inl hb,h1.1,h1.2.2.1⟩)
    (by simpa using I.fnd) (fun _ _ _=>.inr trivial) (noAlias hl) (I.plNew hl)
   refine InvX.put J hd ⟨_,lookH_same _ _ _,Nat.le_refl _,Nat.le_refl _,fun _ _=>⟨hag,?_⟩⟩
   simp only [upd_same,Loc.cells,cpl,List.drop_zero,Option.map_some,Option.some.injEq]
   rw [← rep.len];exact List.take_length
 ·rw [if_neg hc]
  refine InvX.put I hd ?_
  simp only [Bool.and_eq_true,Bool.not_eq_true',not_and,Bool.not_eq_false] at hc
  refine ⟨S,rep.weak,hag,?_,hc⟩
  rcases al with ho | al
  ·have:=rep.flatS (hc ho);subst this;simp
  ·exact al
theorem ok_alloc {o:Oper} {t:TypeId} {ti:TI} {Q} (I:Inv C s a w R loc fp []) (ho:o.op=.alloc t) (hd:∀ y,o.dst=some y→y<C.N) (ht:tiOf E.P t=some ti) (r:Root) :
  o.wp E.P a w (InvX C ((s.mkBox r .own ti.zero).2.put o.dst (s.mkBox r .own ti.zero).1)) Q:=by
 obtain ⟨i0,d,zz,hi,hdd,hz,hzs,hz1,hn,h0,e1,e2,e3,e4,e5⟩:=tiOf_spec ht
 refine opVal (w':=w.alloc (.cells zz.cells t (0,0))) (v:=.pointer (some ⟨w.heap.size,0,none⟩)) ?_ ?_
 ·simp only [execOp,ho,Instr.alloc,Sem.run_bind,run_zeroValue' w hi hz,Result.andThen_ok]
  rfl
 ·have:=newBox (m:=.own) (cs:=zz.cells.toList) (ls:=ti.zero) (S:=[]) (by simpa [M.isOwn] using I) (by rw [e4];exact zeros_rep w _ hz1) (.inl rfl) r t o.dst hd
  exact this
theorem ok_box {o:Oper} {t:TypeId} {x:Operand} {ti:TI} {fz:Bool} {m agg ls s'} {Q} (gk:GlobOk E C) (I:Inv C s a w R loc fp []) (ho:o.op=.box t x) (hd:∀ y,o.dst=some y→y<C.N) (ht:tiOf E.P t=some ti)
  (he:s.embed fz (opnd E s x)=some (m,agg,ls,s')) (r:Root):o.wp E.P a w (InvX C ((s'.mkBox r m ls).2.put o.dst (s'.mkBox r m ls).1)) Q:=by
 obtain ⟨tk⟩:=I.embed (opnd_rep gk I x) he
 refine opVal (w':=w.alloc (.cells (a.eval x).cells t (0,0))) (v:=.pointer (some ⟨w.heap.size,0,none⟩)) ?_ ?_
 ·simp only [execOp,ho,Instr.box,newVar,newRow]
  rfl
 ·exact newBox (by simpa using tk.inv) tk.rep tk.al r t o.dst hd
end
end Go.Ev


namespace Go.Ev
theorem AVRep1.lookH {w:World} {R B:Nat→Prop} {H H':List (Root × HC)} {loc:Root→Loc} {v:Value} {x:AV} (hh:∀ r,lookH H' r=lookH H r) (h:AVRep1 w R B H loc v x):AVRep1 w R B H' loc v x:=by
 cases x with
 | «at» r k0 k1 off hops n agg=>simp only [AVRep1,hh];exact h
 | ad r k0 k1 off hops=>simp only [AVRep1,hh];exact h
 | win r k0 k1 off lo n=>simp only [AVRep1,hh];exact h
 | _=>exact h
theorem AVRep.lookH {w:World} {R B:Nat→Prop} {H H':List (Root × HC)} {loc:Root→Loc} {v:Value} {x:AV} (hh:∀ r,lookH H' r=lookH H r) (h:AVRep w R B H loc v x):AVRep w R B H' loc v x:=by
 cases x with
 | tup xs=>obtain ⟨vs,e,l,k⟩:=h;exact ⟨vs,e,l,fun i u x hu hx=>(k i u x hu hx).lookH hh⟩
 | dead=>trivial
 | nil=>exact AVRep1.lookH (w:=w) (R:=R) (B:=B) (loc:=loc) (v:=v) (x:=.nil) hh h
 | v m agg ls=>exact AVRep1.lookH (w:=w) (R:=R) (B:=B) (loc:=loc) (v:=v) (x:=.v m agg ls) hh h
 | «at» r k0 k1 off hops n agg=>exact AVRep1.lookH (w:=w) (R:=R) (B:=B) (loc:=loc) (v:=v) (x:=.at r k0 k1 off hops n agg) hh h
 | ad r k0 k1 off hops=>exact AVRep1.lookH (w:=w) (R:=R) (B:=B) (loc:=loc) (v:=v) (x:=.ad r k0 k1 off hops) hh h
 | win r k0 k1 off lo n=>exact AVRep1.lookH (w:=w) (R:=R) (B:=B) (loc:=loc) (v:=v) (x:=.win r k0 k1 off lo n) hh h
theorem RepLs.asOwn {w:World} {o o':Bool} {vs ls S} (h:RepLs w o vs ls S) (ho:o'=true→o=true):RepLs w o' vs ls S:=by
 cases o' with
 | true=>exact h.any.1 (ho rfl)
 | false=>exact h.weak
section
variable {E:Env} {C:Cf} {s:St} {a:Act} {w:World} {R:Nat→Prop} {loc:Root→Loc} {fp:Root→List Nat} {F:List Nat}
theorem Inv.store {v:Value} {r:Root} {off:Nat} {hops:List Hop} {n:Nat} {h:HC} {old sub:List L} {m':M} {vs:List Value} {Sv:List Nat}
  (I:Inv C s a w R loc fp (if m'.isOwn then Sv else [])) (q:Pointed C s w R loc fp v r off hops n h old) (suf:List L) (hpl:place h.ls off hops=some suf) (hn:n≤suf.length) (hln:sub.length=n)
  (rv:RepLs w m'.isOwn vs sub Sv) (av:m'.isOwn=true∨∀ b∈Sv,Al R C.B m' b) (hok:h.writable hops=true) :
  Free w q.b∧∃ R' loc' fp',Inv C (s.putH r { h.set off hops sub with m:=h.m.join m' }) a (w.setRow q.b (splice q.ds.toList q.p vs).toArray) R' loc' fp' []∧loc' r=loc r∧(hops≠[]→(loc r).cells (w.setRow q.b (splice q.ds.toList q.p vs).toArray)=(loc r).cells w):=by
 have hvn:vs.length=n:=by rw [rv.len,hln]
 have hbfp:q.b∈fp r:=by
  rw [q.hr.fpe]
  cases hops with
  | nil =>
   simp only [HC.writable,Bool.and_eq_true] at hok
   obtain ⟨hl,_,_⟩:=q.base rfl
   rcases q.hr.bx with ⟨_,b,cs,T,fr,h1,h2,h3⟩ | ⟨h1,_,_⟩
   ·rw [hl] at h1;cases h1
    rcases h3 with ⟨_,h4⟩ | ⟨h4,_⟩
    ·rw [h4];simp
    ·rw [hok.2] at h4;cases h4
   ·rw [hok.1] at h1;cases h1
  | cons h1 hs =>
   have:=(q.deep (by simp)).1
   have hok:h.m.isOwn=true:=hok
   rw [if_pos hok,List.mem_append];right;rw [q.ln.hS];simp [this]
 have hheld:=I.held r h q.hh q.b hbfp
 refine ⟨hheld.2.2.1,?_⟩
 have hw':(w.setRow q.b (splice q.ds.toList q.p vs).toArray).heap[q.b]?=some (.cells (splice q.ds.toList q.p vs).toArray q.T q.fr):=setRow_heap w q.b q.ds _ q.T q.fr q.hb
 have hsz:(splice q.ds.toList q.p vs).length=q.ds.size:=by rw [splice_length _ _ _ (by have:=q.hp;simp;omega)];simp
 generalize hwe:w.setRow q.b (splice q.ds.toList q.p vs).toArray=w' at *
 have hsame:∀ b,b≠q.b→Same w w' b:=fun b hb=>by rw [← hwe];exact setRow_other w q.b b _ hb
 have hws:Wst w w' fun k=>k=q.b:=by rw [← hwe];exact Wst.setRow q.hb _
 -- modes
 have hoo:(h.m.join m').isOwn=(h.m.isOwn&&m'.isOwn):=isOwn_join _ _
 generalize ho':(h.m.join m').isOwn=o' at *
 have h1o:o'=true→h.m.isOwn=true:=by intro e;rw [e] at hoo;simp at hoo;exact hoo.1
 have h2o:o'=true→m'.isOwn=true:=by intro e;rw [e] at hoo;simp at hoo;exact hoo.2
 have hrep':RepLs w o' ((loc r).cells w) h.ls q.hr.S:=q.hr.rep.asOwn h1o
 have rv':RepLs w o' vs sub Sv:=rv.asOwn h2o
 have hnd:(fp r).Nodup:=I.nd r h q.hh
 have hSown:h.m.isOwn=true→∀ b∈q.hr.S,b∈fp r:=fun e b hb=>by rw [q.hr.fpe,if_pos e];simp [hb]
 have hob:∀ b∈q.hr.ob,b∈fp r:=fun b hb=>by rw [q.hr.fpe];simp [hb]
 have hobS:h.m.isOwn=true→∀ b∈q.hr.ob,b ∉ q.hr.S:=fun e b hb hb'=>by
  have:=hnd;rw [q.hr.fpe,if_pos e] at this
  exact (List.nodup_append.1 this).2.2 b hb b hb' rfl
 have hSv:m'.isOwn=true→∀ b∈Sv,b ∉ fp r:=fun e b hb=>I.fdj r h q.hh b (by rw [if_pos e];exact hb)
 have hSvb:∀ b∈Sv,b≠q.b:=by
  intro b hb e
  rcases av with ho | al
  ·exact hSv ho b hb (e ▸ hbfp)
  ·exact (al b hb).sub.elim (fun x=>hheld.1 (e ▸ x)) fun x=>hheld.2.1 (e ▸ x)
 have hro:h.m.isOwn=false→∀ b∈q.hr.S,Al R C.B h.m b:=fun e=>q.hr.al.resolve_left (by simp [e])
 have hSb:hops=[]→∀ b∈q.hr.S,b≠q.b:=by
  intro hh b hb e
  subst hh
  cases hm:h.m.isOwn with
  | true =>
   obtain ⟨hl,_,_⟩:=q.base rfl
   have hbo:q.b∈q.hr.ob:=by
    simp only [HC.writable,Bool.and_eq_true] at hok
    rcases q.hr.bx with ⟨_,b,cs,T,fr,h1,h2,h3⟩ | ⟨h1,_,_⟩
    ·rw [hl] at h1;cases h1
     rcases h3 with ⟨_,h4⟩ | ⟨h4,_⟩
     ·rw [h4];simp
     ·rw [hok.2] at h4;cases h4
    ·rw [hok.1] at h1;cases h1
   exact hobS hm q.b hbo (e ▸ hb)
  | false=>exact (hro hm b hb).sub.elim (fun x=>hheld.1 (e ▸ x)) fun x=>hheld.2.1 (e ▸ x)
 have hcw0:hops≠[]→(loc r).cells w'=(loc r).cells w:=by
  intro hne
  have hown:h.m.isOwn=true:=by
   cases hops with
   | nil=>exact absurd rfl hne
   | cons h1 hs=>exact hok
  have hqS:q.b∈q.hr.S:=by rw [q.ln.hS];simp [(q.deep hne).1]
  exact Loc.cells_same q.hr.bx fun b hb=>hsame b fun e=>by
   rcases hb with hb | hb
   ·exact hobS hown b hb (e ▸ hqS)
   ·exact hheld.1 (e ▸ hb)
 have rvw:RepLs w' o' vs sub Sv:=rv'.frame fun b hb=>hsame b (hSvb b hb)
 -- the new reading
 have hlenset:(setPlace h.ls off hops sub).length=h.ls.length:=setPlace_len _ _ _ _ _ hpl (by omega)
 have hnew:∃ Sn,RepLs w' o' ((loc r).cells w') (setPlace h.ls off hops sub) Sn∧(∀ b∈Sn,b∈q.hr.S∨b∈Sv)∧(o'=true→Sn.Nodup):=by
  cases hops with
  | nil =>
   obtain ⟨hl,hpo,hcells⟩:=q.base rfl
   simp only [place] at hpl
   split at hpl<;>simp only [Option.some.injEq,reduceCtorEq] at hpl
   subst hpl
   simp only [List.length_drop] at hn
   rw [hcells] at hrep'
   obtain ⟨S1,Sm,S2,hS,h1,hm,h2⟩:=hrep'.range off sub.length (by omega)
   have hcw:(loc r).cells w'=splice q.ds.toList off vs:=by rw [hl];simp [Loc.cells,hw',hpo]
   refine ⟨S1++Sv++S2,?_,?_,?_⟩
   ·rw [hcw,setPlace,setRange_eq _ _ _ (by omega)]
    exact RepLs.splice rvw.len (by omega) (h1.frame fun b hb=>hsame b (hSb rfl b (by rw [hS];simp [hb]))) rvw (h2.frame fun b hb=>hsame b (hSb rfl b (by rw [hS];simp [hb])))
   ·intro b hb;rw [hS];simp only [List.mem_append] at hb ⊢;grind
   ·intro e
    have hd:=hSv (h2o e)
    have hnS:q.hr.S.Nodup:=by have:=hnd;rw [q.hr.fpe,if_pos (h1o e)] at this;exact (List.nodup_append.1 this).2.1
    have hnv:Sv.Nodup:=by have:=I.fnd;rwa [if_pos (h2o e)] at this
    have hdis:∀ b∈Sv,b ∉ q.hr.S:=fun b hb hb'=>hd b hb (hSown (h1o e) b hb')
    rw [hS] at hnS hdis
    simp only [List.nodup_append,List.mem_append] at hnS hdis ⊢
    grind
  | cons h1 hs =>
   have hown:h.m.isOwn=true:=hok
   have hnS:q.hr.S.Nodup:=by have:=hnd;rw [q.hr.fpe,if_pos hown] at this;exact (List.nodup_append.1 this).2.1
   obtain ⟨ln⟩:=lens (h1::hs) hrep' hpl hn
   obtain ⟨b2,p2,ds2,T2,fr2,hcad,hmem,hb2,hsz2,hvs2,hwr⟩:=ln.addr (by simp)
   have hcad':=(q.deep (by simp)).2
   rw [hcad'] at hcad
   simp only [Option.some.injEq,Addr.mk.injEq] at hcad
   obtain ⟨e1,e2,_⟩:=hcad
   subst e1;subst e2
   rw [q.hb] at hb2
   simp only [Option.some.injEq,Obj.cells.injEq] at hb2
   obtain ⟨e3,_,_⟩:=hb2
   subst e3
   have hcw:(loc r).cells w'=(loc r).cells w:=Loc.cells_same q.hr.bx fun b hb=>hsame b fun e=>by
    have hqS:q.b∈q.hr.S:=by rw [ln.hS];simp [hmem]
    rcases hb with hb | hb
    ·exact hobS hown b hb (e ▸ hqS)
    ·exact hheld.1 (e ▸ hb)
   refine ⟨ln.S1++Sv++ln.S2,?_,?_,?_⟩
   ·rw [hcw]
    exact hwr w' _ q.T q.fr sub vs Sv hnS hln hw' rfl (fun c hc hcb=>hsame c hcb) rvw
   ·intro b hb;rw [ln.hS];simp only [List.mem_append] at hb ⊢;grind
   ·intro e
    have hd:=hSv (h2o e)
    have hnv:Sv.Nodup:=by have:=I.fnd;rwa [if_pos (h2o e)] at this
    have hdis:∀ b∈Sv,b ∉ q.hr.S:=fun b hb hb'=>hd b hb (hSown (h1o e) b hb')
    have hSe:=ln.hS
    have hnS2:(ln.S1++ln.Sm++ln.S2).Nodup:=hSe ▸ hnS
    have hdis2:∀ b∈Sv,b ∉ ln.S1++ln.Sm++ln.S2:=fun b hb=>hSe ▸ hdis b hb
    simp only [List.nodup_append,List.mem_append] at hnS2 hdis2 ⊢
    grind
 obtain ⟨Sn,hnr,hnsub,hnnd⟩:=hnew
 -- what is frozen
 let R':Nat→Prop:=fun b=>R b∨(o'=false∧((h.m.isOwn=true∧b∈q.hr.S)∨(m'.isOwn=true∧b∈Sv)))
 have hfree:∀ b,Free w b→Free w' b:=by
  intro b hf
  by_cases e:b=q.b
  ·subst e
   obtain ⟨cs,T,fr,h1,h2⟩:=hf
   rw [q.hb] at h1;cases h1
   exact ⟨_,_,_,hw',fun o ho=>h2 o (by simpa [hsz] using ho)⟩
  ·exact hf.same (hsame b e)
 refine ⟨R',upd loc r (loc r),upd fp r (q.hr.ob++(if o' then Sn else [])),?_,by simp,hcw0⟩
 have hbump:∀ x:M,({ h.set off hops sub with m:=x }:HC).box=h.box∧({ h.set off hops sub with m:=x }:HC).wr=h.wr∧({ h.set off hops sub with m:=x }:HC).ls=setPlace h.ls off hops sub:=by
  intro x;cases hops<;>exact ⟨rfl,rfl,rfl⟩
 refine I.root r { h.set off hops sub with m:=h.m.join m' } (loc r) _ (w':=w') (R':=R') (F':=[]) (fun b=>b∈(if m'.isOwn then Sv else [])∨b∈fp r)
  (fun b hb=>hb.imp id fun x=>⟨⟨h,q.hh⟩,x⟩) ⟨hws.os,hws.tape,hws.output,hws.size,fun k hk hm=>hsame k fun e=>hm (.inr (e ▸ hbfp))⟩ (fun b hb=>.inl hb) (fun b hb=>?_)
  ⟨{ S:=Sn,ob:=q.hr.ob,rep:=?_,fpe:=?_,al:=?_,bx:=?_ }⟩ (fun b hb=>?_) ?_ (fun _ _ _=>.inr trivial) (fun y u hy hu=>?_) (I.plKeep q.hh (hbump _).1)
 ·rcases hb with hb | ⟨_,⟨e,hb⟩ | ⟨e,hb⟩⟩
  ·exact .inl hb
  ·exact .inr (.inl (.inr (hSown e b hb)))
  ·exact .inr (.inl (.inl (by rw [if_pos e];exact hb)))
 ·rw [(hbump _).2.2]
  show RepLs w' (h.m.join m').isOwn _ _ _
  rw [ho'];exact hnr
 ·show _=q.hr.ob++(if (h.m.join m').isOwn then Sn else [])
  rw [ho']
 ·show (h.m.join m').isOwn=true∨_
  rw [ho']
  cases e:o' with
  | true=>exact .inl rfl
  | false =>
   right
   intro b hb
   show Al R' C.B (h.m.join m') b
   rcases hnsub b hb with hb | hb
   ·cases e1:h.m.isOwn with
    | true=>exact Al.ro (.inr ⟨e,.inl ⟨e1,hb⟩⟩) (by rw [ho',e])
    | false=>exact ((hro e1 b hb).mono fun b x=>.inl x).join e1
   ·cases e1:m'.isOwn with
    | true=>exact Al.ro (.inr ⟨e,.inr ⟨e1,hb⟩⟩) (by rw [ho',e])
    | false=>exact ((av.resolve_left (by simp [e1]) b hb).mono fun b x=>.inl x).join' e1
 ·rcases q.hr.bx with ⟨h1,b,cs,T,fr,h2,h3,h4⟩ | h1
  ·left
   refine ⟨by rw [(hbump _).1];exact h1,b,?_⟩
   by_cases e:b=q.b
   ·subst e
    exact ⟨_,_,_,h2,hw',by rw [(hbump _).2.1];exact h4.imp id fun ⟨x,y,z⟩=>⟨x,y,.inl z⟩⟩
   ·exact ⟨cs,T,fr,h2,(hsame b e).trans h3,by rw [(hbump _).2.1];exact h4.imp id fun ⟨x,y,z⟩=>⟨x,y,.inl z⟩⟩
  ·right
   rw [(hbump _).1];exact h1
 ·simp only [List.append_nil,List.mem_append] at hb
  rcases hb with hb | hb
  ·have hx:=I.held r h q.hh b (hob b hb)
   refine ⟨.inl (.inr (hob b hb)),?_,hfree b hx.2.2.1⟩
   rintro (hr | ⟨_,⟨e,hr⟩ | ⟨e,hr⟩⟩)
   ·exact hx.1 hr
   ·exact hobS e b hb hr
   ·exact hSv e b hr (hob b hb)
  ·have e:o'=true:=by cases he:o' with | true=>rfl | false=>simp [he] at hb
   rw [if_pos e] at hb
   have hmine:b∈(if m'.isOwn then Sv else [])∨b∈fp r:=(hnsub b hb).elim (fun x=>.inr (hSown (h1o e) b x)) fun x=>.inl (by rw [if_pos (h2o e)];exact x)
   have hx:Held C w R b:=hmine.elim (I.fheld b) (I.held r h q.hh b)
   refine ⟨.inl hmine,?_,hfree b hx.2.2.1⟩
   rintro (hr | ⟨e2,_⟩)
   ·exact hx.1 hr
   ·rw [e] at e2;cases e2
 ·rw [List.append_nil]
  refine List.nodup_append.2 ⟨?_,?_,?_⟩
  ·have:=hnd;rw [q.hr.fpe] at this;exact (List.nodup_append.1 this).1
  ·cases e:o' with
   | true=>exact hnnd e
   | false=>simp
  ·intro b hb c hc e
   cases eo:o' with
   | false=>simp [eo] at hc
   | true =>
    rw [if_pos eo] at hc
    subst e
    rcases hnsub b hc with x | x
    ·exact hobS (h1o eo) b hb x
    ·exact hSv (h2o eo) b x (hob b hb)
 ·refine alias_set hu hy q.hh (by simp) (hbump _).1 (by rw [(hbump _).2.2];exact hlenset) ?_
  cases hops with
  | nil =>
   left
   refine ⟨rfl,Nat.le_refl _,.inr ⟨_,_,rfl,fun o n hd=>?_⟩⟩
   obtain ⟨hl,hpo,hcells⟩:=q.base rfl
   have hcw:(loc r).cells w'=splice q.ds.toList off vs:=by rw [hl];simp [Loc.cells,hw',hpo]
   have hq:=q.hp
   rw [hcw,hcells]
   have hvl:=rv.len
   refine splice_apart ?_ (by rw [hvl];exact hd)
   rw [hpo] at hq
   simp
   omega
  | cons h1 hs =>
   right
   refine ⟨rfl,rfl,rfl,?_⟩
   have hown:h.m.isOwn=true:=hok
   exact Loc.cells_same q.hr.bx fun b hb=>hsame b fun e=>by
    have hqS:q.b∈q.hr.S:=by rw [q.ln.hS];simp [(q.deep (by simp)).1]
    rcases hb with hb | hb
    ·exact hobS hown b hb (e ▸ hqS)
    ·exact hheld.1 (e ▸ hb)
theorem fresh_V (s:St) (x:AV) (n:Nat):(s.fresh x n).V=s.V:=by
 unfold St.fresh
 repeat' split
 all_goals rfl
theorem Inv.fresh {F:List Nat} (I:Inv C s a w R loc fp F) (x:AV) (n:Nat):∃ loc' fp',Inv C (s.fresh x n) a w R loc' fp' F:=by
 unfold St.fresh
 split
 ·rename_i r k0 k1 off
  split
  ·rename_i h hh
   split
   ·rename_i hc
    simp only [Bool.and_eq_true,Bool.not_eq_true'] at hc
    obtain ⟨hr⟩:=I.rep r h hh
    have hfp:fp r=hr.ob:=hr.fpe.trans (by simp [hc.1])
    have hnd:=I.nd r h hh
    rw [hfp] at hnd
    exact ⟨_,_,I.root r { h with m:=.own,ls:=deadened h.ls,e0:=h.e0+1,lz:=none } (loc r) hr.ob (w':=w) (R':=R) (F':=F) (fun b=>b∈F∨b∈fp r)
     (fun b hb=>hb.imp id fun q=>⟨⟨h,hh⟩,q⟩) ⟨rfl,rfl,rfl,Nat.le_refl _,fun _ _ _=>rfl⟩ (fun b hb=>hb) (fun b hb=>.inl hb)
     ⟨{ S:=[],ob:=hr.ob,rep:=deadened_rep hr.rep w _,fpe:=by simp,al:=.inl rfl,bx:=hr.bx }⟩
     (fun b hb=>by
      have h2:Held C w R b:=(List.mem_append.1 hb).elim (fun q=>I.held r h hh b (by rw [hfp];exact q)) (I.fheld b)
      exact ⟨.inl ((List.mem_append.1 hb).elim (fun q=>.inr (by rw [hfp];exact q)) .inl),h2.1,h2.2.2.1⟩)
     (List.nodup_append.2 ⟨hnd,I.fnd,fun b hb c hc' e=>I.fdj r h hh c hc' (by rw [hfp,← e];exact hb)⟩)
     (fun _ _ _=>.inr trivial) (fun y u hy hu=>alias_set hu hy hh (by simp) rfl (deadened_len _) (.inl ⟨rfl,Nat.le_refl _,.inl rfl⟩)) (I.plKeep hh rfl)⟩
   ·exact ⟨loc,fp,I⟩
  ·exact ⟨loc,fp,I⟩
 ·exact ⟨loc,fp,I⟩
theorem ok_store {o:Oper} {t:TypeId} {x y:Operand} {fz:Bool} {s':St} {Q} (gk:GlobOk E C) (I:Inv C s a w R loc fp []) (ho:o.op=.store t x y) (hd:∀ y,o.dst=some y→y<C.N)
  (h:evStore E t (opnd E s x) (opnd E s y) fz s=some s'):o.wp E.P a w (InvX C (s'.put o.dst .dead)) Q:=by
 unfold evStore at h
 split at h<;>try (cases h;done)
 rename_i ti m' agg sub s1 ht he
 obtain ⟨tk⟩:=I.embed (opnd_rep gk I y) he
 obtain ⟨i0,d,zz,hi,hdd,hz,hzs,hz1,hn0,h0,e1,e2,e3,e4,e5⟩:=tiOf_spec ht
 split at h<;>try (cases h;done)
 rename_i r k0 k1 off hops hq
 obtain ⟨loc2,fp2,inv2⟩:=tk.inv.fresh (.ad r k0 k1 off hops) ti.size
 have hx:=opnd_rep gk inv2 x
 rw [opnd_V s _ ((fresh_V _ _ _).trans tk.hV) x,hq] at hx
 split at h<;>try (cases h;done)
 rename_i hh suf hg
 by_cases hc:ti.size≤suf.length∧sub.length=ti.size∧hh.writable hops=true
 case neg=>rw [if_neg hc] at h;cases h
 rw [if_pos hc] at h
 cases h
 obtain ⟨hn,hln,hok⟩:=hc
 obtain ⟨q⟩:=inv2.pointed hx hg hn
 have hinv:=inv2
 simp only [List.nil_append] at hinv
 obtain ⟨hfree,R',loc',fp',J,_⟩:=Inv.store (vs:=(a.eval y).cells.toList) hinv q suf (getAd_spec hg).2.2 hn hln tk.rep tk.al hok
 obtain ⟨cs,T,fr,hb,hf⟩:=hfree
 rw [q.hb] at hb;cases hb
 have hlen:(a.eval y).cells.size=i0.size:=by
  have:=tk.rep.len
  rw [hln,e1] at this
  simpa using this
 refine opSkip (w':=w.setRow q.b (splice q.ds.toList q.p (a.eval y).cells.toList).toArray) ?_ (InvX.put J hd trivial)
 have hst:=run_storeCells' E.P q.b q.p q.T q.fr (a.eval y).cells.toList 0 q.ds w q.hb hf (by have:=q.hp;have:=tk.rep.len;rw [hln] at this;omega) tk.rep.one
 simp only [execOp,ho,Instr.storeAt,q.hv,Instr.sureAddr,storeVar,Sem.run_bind,Sem.run_pure,Result.andThen_ok,run_sizeOf' w hi,hlen,ne_eq,not_true_eq_false,if_false]
 rw [show ((⟨q.b,q.p,none⟩:Addr))=⟨q.b,q.p,none⟩ from rfl,hst]
 rfl
theorem Inv.sameH {s t:St} (I:Inv C s a w R loc fp F) (h1:t.V=s.V) (h2:∀ r,lookH t.H r=lookH s.H r) (h3:t.ps=s.ps):Inv C t a w R loc fp F :=
 { I with
  rep:=fun r hh e=>I.rep r hh ((h2 r).symm.trans e)
  held:=fun r hh e=>I.held r hh ((h2 r).symm.trans e)
  nd:=fun r hh e=>I.nd r hh ((h2 r).symm.trans e)
  dj:=fun r hh r' hh' e e'=>I.dj r hh r' hh' ((h2 r).symm.trans e) ((h2 r').symm.trans e')
  fdj:=fun r hh e=>I.fdj r hh ((h2 r).symm.trans e)
  av:=fun u=>by rw [h1];exact (I.av u).lookH h2
  pl:=fun i b e=>by
   obtain ⟨p1,p2,hh,p3,p4⟩:=I.pl i b e
   exact ⟨p1,by rw [h3];exact p2,hh,(h2 _).trans p3,p4⟩ }
theorem Inv.pointAt {r:Root} {off n:Nat} {hops:List Hop} {h:HC} {suf:List L} (I:Inv C s a w R loc fp F) (hh:lookH s.H r=some h) (hpl:place h.ls off hops=some suf) (hn:n≤suf.length) (hne:hops≠[]) :
  ∃ v,Nonempty (Pointed C s w R loc fp v r off hops n h (suf.take n)):=by
 obtain ⟨hr⟩:=I.rep r h hh
 obtain ⟨ln⟩:=lens hops hr.rep hpl hn
 obtain ⟨b,p,ds,T,fr,hcad,hmem,hbb,hsz,hvs,_⟩:=ln.addr hne
 exact ⟨_,⟨{ b,p,ds,T,fr,hr,ln,hh,hv:=rfl,hb:=hbb,hp:=hsz,hc:=hvs,base:=fun h=>absurd h hne,deep:=fun _=>⟨hmem,hcad⟩ }⟩⟩
theorem cad_next {w:World} {cs:List Value} {off lo b p:Nat} (h:cad w cs off [(lo,1,0)]=some ⟨b,p,none⟩):cad w cs off [(lo+1,1,0)]=some ⟨b,p+1,none⟩:=by
 simp only [cad] at h ⊢
 split at h<;>try (cases h;done)
 simp only [Option.some.injEq,Addr.mk.injEq] at h ⊢
 exact ⟨h.1,by omega,trivial⟩
theorem splice_step {α:Type} (ds:List α) (p:Nat) (x:α) (xs:List α) (h:p<ds.length):splice (splice ds p [x]) (p+1) xs=splice ds p (x::xs):=by
 unfold splice
 apply List.ext_getElem?
 intro j
 simp only [List.getElem?_append,List.getElem?_take,List.getElem?_drop,List.length_append,List.length_take,List.length_drop,List.length_cons,List.length_nil,List.getElem?_cons]
 grind
theorem Inv.storeRows {r:Root} {off:Nat}:∀ (bs:List UInt8) (lo:Nat) (s:St) (w:World) (R:Nat→Prop) (loc:Root→Loc) (fp:Root→List Nat) (h:HC) (xs:List (List L)) (b p:Nat) (ds:Array Value) (T:TypeId) (fr:Nat × Nat),Inv C s a w R loc fp []→lookH s.H r=some h→h.m.isOwn=true→h.ls[off]?=some (.sl xs)→(∀ x∈xs,x.length=1)→lo+bs.length≤xs.length →
  cad w ((loc r).cells w) off [(lo,1,0)]=some ⟨b,p,none⟩→w.heap[b]?=some (.cells ds T fr) →
  ∃ R' loc' fp',Inv C (s.putH r (h.setRows off xs lo (rowsOfBytes bs))) a (w.setRow b (splice ds.toList p (bs.map fun c=>Value.int .u8 c.toNat)).toArray) R' loc' fp' []
 | [],lo,s,w,R,loc,fp,h,xs,b,p,ds,T,fr,I,hh,hm,hls,hx1,hlo,hcad,hb=>by
  have e1:(splice ds.toList p (([]:List UInt8).map fun c=>Value.int .u8 c.toNat)).toArray=ds:=by simp [splice]
  rw [e1,setRow_self w b ds T fr hb]
  have e2:h.setRows off xs lo (rowsOfBytes [])=h:=by
   have e3:xs.take lo++rowsOfBytes []++xs.drop (lo+(rowsOfBytes []).length)=xs:=by simp [rowsOfBytes]
   have e4:h.ls.set off (.sl xs)=h.ls:=by
    obtain ⟨q1,q2⟩:=List.getElem?_eq_some_iff.1 hls
    rw [← q2];exact List.set_getElem_self q1
   simp only [HC.setRows,e3,e4]
   rfl
  rw [e2]
  exact ⟨R,loc,fp,I.sameH rfl (fun q=>by rw [lookH_put];split<;>simp_all) rfl⟩
 | c::bs,lo,s,w,R,loc,fp,h,xs,b,p,ds,T,fr,I,hh,hm,hls,hx1,hlo,hcad,hb=>by
  simp only [List.length_cons] at hlo
  have hlt:lo<xs.length:=by omega
  have hrow:xs[lo]?=some xs[lo]:=List.getElem?_eq_getElem hlt
  have hr1:(xs[lo]).length=1:=hx1 _ (List.getElem_mem hlt)
  have hpl:place h.ls off [(lo,1,0)]=some xs[lo]:=by simp [place,hls,hrow,hr1]
  obtain ⟨v,⟨q⟩⟩:=I.pointAt (n:=1) hh hpl (by omega) (by simp)
  have hd:=(q.deep (by simp)).2
  rw [hcad] at hd
  simp only [Option.some.injEq,Addr.mk.injEq] at hd
  obtain ⟨eb,ep,_⟩:=hd
  have hqb:=q.hb
  rw [← eb,hb] at hqb
  simp only [Option.some.injEq,Obj.cells.injEq] at hqb
  obtain ⟨ed,_,_⟩:=hqb
  have hqp:=q.hp
  obtain ⟨_,R1,loc1,fp1,J,hl1,hc1⟩:=Inv.store (m':=.own) (Sv:=[]) (vs:=[Value.int .u8 c.toNat]) (sub:=[L.int .u8 c.toNat]) (by simpa [M.isOwn] using I) q xs[lo] hpl (by omega) rfl (RepLs.single (.int _ _ _)) (.inl rfl) (by exact hm)
  rw [← eb,← ep,← ed] at J hc1
  have hmj:h.m.join .own=h.m:=by cases h.m<;>rfl
  have hset:({ h.set off [(lo,1,0)] [L.int .u8 c.toNat] with m:=h.m.join .own }:HC)={ h with ls:=h.ls.set off (.sl (xs.set lo [L.int .u8 c.toNat])),e1:=h.e1+1 }:=by
   have e0:setRange xs[lo] 0 [L.int .u8 c.toNat]=[L.int .u8 c.toNat]:=by
    match hxl:xs[lo],hr1 with
    | [y],_=>rfl
   simp [HC.set,HC.bump,setPlace,hls,hmj,List.getD,hrow,e0]
  rw [hset] at J
  have hcells:=hc1 (by simp)
  obtain ⟨hoff,_⟩:=List.getElem?_eq_some_iff.1 hls
  have hsz:(splice ds.toList p [Value.int .u8 c.toNat]).length=ds.size:=by rw [splice_length _ _ _ (by rw [← ed,← ep] at hqp;simp;omega)];simp
  have hw1:=setRow_heap w b ds (splice ds.toList p [Value.int .u8 c.toNat]).toArray T fr hb
  obtain ⟨R2,loc2,fp2,K⟩:=Inv.storeRows (r:=r) (off:=off) bs (lo+1) _ _ _ _ _ { h with ls:=h.ls.set off (.sl (xs.set lo [L.int .u8 c.toNat])),e1:=h.e1+1 } (xs.set lo [L.int .u8 c.toNat]) b (p+1) (splice ds.toList p [Value.int .u8 c.toNat]).toArray T fr J (by simp [lookH_put]) hm (by simp [hoff])
   (fun x hx=>(List.mem_or_eq_of_mem_set hx).elim (hx1 x) fun e=>by rw [e];rfl) (by simp;omega) (by rw [hl1,hcells,cad_one _ w];exact cad_next hcad) hw1
  refine ⟨R2,loc2,fp2,?_⟩
  rw [setRow_setRow] at K
  have e1:(splice (splice ds.toList p [Value.int .u8 c.toNat]).toArray.toList (p+1) (bs.map fun c=>Value.int .u8 c.toNat))=splice ds.toList p ((c::bs).map fun c=>Value.int .u8 c.toNat):=by
   rw [List.map_cons]
   exact splice_step _ _ _ _ (by rw [← ed,← ep] at hqp;simp;omega)
  rw [e1] at K
  refine K.sameH rfl (fun x=>?_) rfl
  have e2:({ h with ls:=h.ls.set off (.sl (xs.set lo [L.int .u8 c.toNat])),e1:=h.e1+1 }:HC).setRows off (xs.set lo [L.int .u8 c.toNat]) (lo+1) (rowsOfBytes bs)=h.setRows off xs lo (rowsOfBytes (c::bs)):=by
   have e3:(xs.set lo [L.int .u8 c.toNat]).take (lo+1)++rowsOfBytes bs++(xs.set lo [L.int .u8 c.toNat]).drop (lo+1+(rowsOfBytes bs).length)=xs.take lo++rowsOfBytes (c::bs)++xs.drop (lo+(rowsOfBytes (c::bs)).length):=by
    rw [List.drop_set_of_lt (by omega),List.take_set,List.take_succ_eq_append_getElem hlt,List.set_append_right _ _ (by simp;omega)]
    simp [rowsOfBytes,Nat.min_eq_left (Nat.le_of_lt hlt),Nat.add_assoc,Nat.add_comm 1]
   simp only [HC.setRows,e3,List.set_set]
   simp [rowsOfBytes,Nat.add_assoc,Nat.add_comm 1]
  rw [e2]
  simp only [lookH_put]
  split<;>rfl
end
end Go.Ev


namespace Go.Ev
theorem foldl_splice (off:Nat):∀ (vs:List Value) (k:Nat) (cs:Array Value),off+k+vs.length≤cs.size →
  ((vs.zipIdx k).foldl (fun (cs:Array Value) (x:Value × Nat)=>cs.setIfInBounds (off+x.2) x.1) cs).toList=splice cs.toList (off+k) vs
 | [],k,cs,_=>by simp [splice]
 | v::vs,k,cs,h=>by
  simp only [List.length_cons] at h
  simp only [List.zipIdx_cons,List.foldl_cons]
  rw [foldl_splice off vs (k+1) _ (by simp;omega)]
  simp only [Array.toList_setIfInBounds,splice,List.length_cons]
  rw [← Nat.add_assoc,List.take_set,List.drop_set_of_lt (by omega)]
  have h1:(cs.toList.take (off+k+1)).set (off+k) v=cs.toList.take (off+k)++[v]:=by
   rw [List.take_succ_eq_append_getElem (by simp;omega),List.set_append_right _ _ (by simp;omega)]
   simp [Nat.min_eq_left (show off+k≤cs.size by omega)]
  rw [h1]
  simp [Nat.add_assoc,Nat.add_comm 1 vs.length]
theorem chunk_flat (sz:Nat):∀ (n:Nat) (ls:List L),ls.length=n*sz→(chunk sz n ls).flatten=ls∧(∀ x∈chunk sz n ls,x.length=sz)∧(chunk sz n ls).length=n
 | 0,ls,h=>by simp at h;subst h;simp [chunk]
 | n+1,ls,h=>by
  rw [Nat.succ_mul] at h
  obtain ⟨h1,h2,h3⟩:=chunk_flat sz n (ls.drop sz) (by simp;omega)
  refine ⟨by simp [chunk,h1],?_,by simp [chunk,h3]⟩
  intro x hx
  simp only [chunk,List.mem_cons] at hx
  rcases hx with rfl | hx
  ·simp;omega
  ·exact h2 x hx
theorem zeroFlat (z:Array Value) (hz:0<z.size) (n:Nat):((Array.range (n*z.size)).map fun j=>z[j % z.size]!).toList=(List.replicate n z.toList).flatten:=by
 have hrow:∀ x∈List.replicate n z.toList,x.length=z.size:=by intro x hx;rw [(List.mem_replicate.1 hx).2];simp
 apply List.ext_getElem?
 intro j
 have hl:=flatten_len z.size _ hrow
 simp only [List.length_replicate] at hl
 by_cases hj:j<n*z.size
 ·have hi:j / z.size<n:=Nat.div_lt_of_lt_mul (by rw [Nat.mul_comm];exact hj)
  have hm:=Nat.mod_lt j hz
  have:=flatten_row z.size (List.replicate n z.toList) (j / z.size) z.toList hrow (by simp [hi])
  have h2:(((List.replicate n z.toList).flatten.drop (j / z.size*z.size)).take z.size)[j % z.size]?=z.toList[j % z.size]?:=by rw [this]
  rw [List.getElem?_take,if_pos hm,List.getElem?_drop,show j / z.size*z.size+j % z.size=j by rw [Nat.mul_comm];exact Nat.div_add_mod j z.size] at h2
  rw [h2]
  simp [hj,hm,Array.getElem!_eq_getD,Array.getD_eq_getD_getElem?]
 ·rw [List.getElem?_eq_none (by simp only [Array.length_toList,Array.size_map,Array.size_range];omega),List.getElem?_eq_none (by omega)]
section
variable {E:Env} {C:Cf} {s:St} {a:Act} {w:World} {R:Nat→Prop} {loc:Root→Loc} {fp:Root→List Nat} {F:List Nat}
theorem embed_V {s s':St} {fz x m agg ls} (h:s.embed fz x=some (m,agg,ls,s')):s'.V=s.V:=by
 cases x<;>simp only [St.embed] at h<;>first | (cases h;rfl) | skip
 ·cases h
 ·split at h<;>try (cases h;done)
  split at h
  ·split at h<;>cases h<;>rfl
  ·cases h;rfl
 all_goals cases h
theorem fill_ok (gk:GlobOk E C) (pl pl':Nat→Option (Nat × Nat)) (fz:List Nat) (hpl:∀ i p,pl i=some p→pl' i=some p):∀ (parts:List (Nat × Operand)) (s s':St) (m m':M) (ls ls':List L) (cs:Array Value),
  Val C s a w m cs.toList ls→fillCells E pl fz ls m parts s=some (m',ls',s')→∃ cs',Instr.fill pl' cs (parts.map fun x=>(x.1,a.eval x.2))=some cs'∧Nonempty (Val C s' a w m' cs'.toList ls')∧s'.V=s.V
 | [],s,s',m,m',ls,ls',cs,V,h=>by
  simp only [fillCells,Option.some.injEq,Prod.mk.injEq] at h
  obtain ⟨rfl,rfl,rfl⟩:=h
  exact ⟨cs,rfl,⟨V⟩,rfl⟩
 | (i,x)::rest,s,s',m,m',ls,ls',cs,V,h=>by
  simp only [fillCells] at h
  split at h<;>try (cases h;done)
  rename_i off size m2 agg sub s2 hp he
  split at h<;>try (cases h;done)
  rename_i hc
  obtain ⟨hsz,hle⟩:=hc
  have hx:=opnd_rep gk V.inv x
  obtain ⟨tk⟩:=V.inv.embed hx he
  have hlen:=tk.rep.len
  have hcl:=V.rep.len
  have hrep1:m.isOwn=true∨∀ b∈V.S,Al tk.R' C.B m b:=V.al.imp id fun h b hb=>(h b hb).mono tk.mono
  obtain ⟨V2⟩:=combine (off:=off) tk.inv V.rep tk.rep hrep1 tk.al (by omega)
  have hset:setRange ls off sub=splice ls off sub:=setRange_eq _ _ _ (by omega)
  rw [hset] at h
  have hfold:=foldl_splice off (a.eval x).cells.toList 0 cs (by simp at hcl;omega)
  let cs2:Array Value:=((a.eval x).cells.toList.zipIdx 0).foldl (fun (cs:Array Value) (x:Value × Nat)=>cs.setIfInBounds (off+x.2) x.1) cs
  have hcs2:cs2.toList=splice cs.toList off (a.eval x).cells.toList:=by simpa using hfold
  rw [← hcs2] at V2
  obtain ⟨cs',hf,hv,hV⟩:=fill_ok gk pl pl' fz hpl rest s2 s' _ _ _ _ cs2 V2 h
  refine ⟨cs',?_,hv,hV.trans (embed_V he)⟩
  have e1:(a.eval x).cells.size=size:=by rw [← hsz,← hlen];simp
  simp only [List.map_cons,Instr.fill,hpl i _ hp,e1]
  rw [if_neg (by simp at hcl;simp;omega)]
  have:(Array.foldl (fun (cs:Array Value) (x:Value × Nat)=>cs.setIfInBounds (off+x.2) x.1) cs (a.eval x).cells.zipIdx)=cs2:=by
   rw [← Array.foldl_toList,Array.toList_zipIdx]
  rw [← hf,← this]
theorem Inv.fresh' {w':World} {b:Nat} (I:Inv C s a w R loc fp F) (ws:Wst w w' fun _=>False) (hge:w.heap.size≤b) (hf:Free w' b):Inv C s a w' R loc fp (b::F):=by
 have J:=I.grow ws
 have hlt:∀ b∈F,b<w.heap.size:=fun b hb=>(I.fheld b hb).2.2.1.lt
 exact { J with
  fheld:=fun c hb=>by
   rcases List.mem_cons.1 hb with rfl | hb
   ·refine ⟨fun h=>?_,fun h=>?_,hf,.inl (Nat.le_trans I.kp.size hge)⟩
    ·have:=I.rlt _ (.inl h);omega
    ·have:=I.rlt _ (.inr h);omega
   ·exact J.fheld c hb
  fnd:=List.nodup_cons.2 ⟨fun h=>by have:=hlt _ h;omega,I.fnd⟩
  fdj:=fun r h hr c hb=>by
   rcases List.mem_cons.1 hb with rfl | hb
   ·intro h2;have:=(I.held r h hr _ h2).2.2.1.lt;omega
   ·exact J.fdj r h hr c hb }
theorem newSlice' {w':World} {m:M} {cs:Array Value} {rows:List (List L)} {S:List Nat} {sz:Nat} {T:TypeId} {fr:Nat × Nat} (I:Inv C s a w R loc fp (if m.isOwn then S else [])) (ws:Wst w w' fun _=>False) (hg:w'.heap[w.heap.size]?=some (.cells cs T fr)) (hfree:Free w' w.heap.size)
  (rep:RepLs w m.isOwn (cs.toList.take (rows.length*sz)) rows.flatten S) (al:m.isOwn=true∨∀ b∈S,Al R C.B m b)
  (hsz:0<sz) (hrows:∀ x∈rows,x.length=sz) (cap:Nat) (hcap:rows.length≤cap) (hcs:cap*sz≤cs.size) (hz:rows=[]→cap=0) (r:Root) (d:Option Nat) (hd:∀ y,d=some y→y<C.N) :
  InvX C ((if m.isOwn then s.new r .own false [.sl rows] else (.v m false [.sl rows],s)).2.put d (if m.isOwn then s.new r .own false [.sl rows] else (.v m false [.sl rows],s)).1) (a.put d (.slice (some ⟨w.heap.size,0,none⟩) rows.length cap)) w':=by
 have hfr:∀ b∈S,Same w w' b:=fun b hb=>ws.block b (rep.lt b hb) (by simp)
 cases hm:m.isOwn with
 | true =>
  simp only [if_true]
  rw [hm] at I rep
  simp only [if_true] at I
  have J:=I.fresh' ws (Nat.le_refl _) hfree
  by_cases he:rows=[]
  ·subst he
   have J':=J.drop [] (by simp) (by simp)
   have hc0:=hz rfl
   subst hc0
   exact newVal (m:=.own) (v:=.slice (some ⟨w.heap.size,0,none⟩) 0 0) (S:=[]) (by simpa [M.isOwn] using J') (RepLs.single (.sle _ _ _ (by simp))) (.inl rfl) rfl r d hd
  ·have hr:RepL w' true (.slice (some ⟨w.heap.size,0,none⟩) rows.length cap) (.sl rows) (w.heap.size::S) :=
    .sl _ _ 0 cap cs T _ rows sz S hg he hsz hrows hcap (by omega) (by simpa using rep.frame hfr)
   exact newVal (m:=.own) (v:=.slice (some ⟨w.heap.size,0,none⟩) rows.length cap) (ls:=[.sl rows]) (S:=w.heap.size::S) J (RepLs.single hr) (.inl rfl) rfl r d hd
 | false =>
  simp only [Bool.false_eq_true,if_false]
  rw [hm] at I rep
  simp only [Bool.false_eq_true,if_false] at I
  have J:=(I.fresh' ws (Nat.le_refl _) hfree).freeze [w.heap.size] [] (by simp) (by simp)
  have hal:=al.resolve_left (by simp [hm])
  refine InvX.put J hd ?_
  by_cases he:rows=[]
  ·subst he
   exact mkScal (.sle _ _ _ (by simp)) (by simp) (fun h=>absurd h (by simp [hm]))
  ·refine mkScal (S:=w.heap.size::S) (.sl _ _ 0 cap cs T _ rows sz S hg he hsz hrows hcap (by omega) (by simpa using rep.frame hfr)) (fun b hb=>?_) (fun h=>absurd h (by simp [hm]))
   rcases List.mem_cons.1 hb with rfl | hb
   ·exact Al.ro (.inr (by simp)) hm
   ·exact (hal b hb).mono fun b h=>.inl h
theorem freeAlloc (w:World) (cs:Array Value) (T:TypeId):Free (w.alloc (.cells cs T (0,0))) w.heap.size:=⟨_,_,_,alloc_get w _,fun o _ h=>by simp at h⟩
theorem newSlice {m:M} {cs:Array Value} {rows:List (List L)} {S:List Nat} {sz:Nat} (I:Inv C s a w R loc fp (if m.isOwn then S else [])) (rep:RepLs w m.isOwn (cs.toList.take (rows.length*sz)) rows.flatten S) (al:m.isOwn=true∨∀ b∈S,Al R C.B m b)
  (hsz:0<sz) (hrows:∀ x∈rows,x.length=sz) (cap:Nat) (hcap:rows.length≤cap) (hcs:cap*sz≤cs.size) (hz:rows=[]→cap=0) (r:Root) (T:TypeId) (d:Option Nat) (hd:∀ y,d=some y→y<C.N) :
  InvX C ((if m.isOwn then s.new r .own false [.sl rows] else (.v m false [.sl rows],s)).2.put d (if m.isOwn then s.new r .own false [.sl rows] else (.v m false [.sl rows],s)).1) (a.put d (.slice (some ⟨w.heap.size,0,none⟩) rows.length cap)) (w.alloc (.cells cs T (0,0))) :=
 newSlice' I (Wst.alloc w _) (alloc_get w _) (freeAlloc w cs T) rep al hsz hrows cap hcap hcs hz r d hd
theorem ok_build {o:Oper} {t:TypeId} {parts:Array (Nat × Operand)} {fz:List Nat} {ti:TI} {m ls s'} {Q} (gk:GlobOk E C) (I:Inv C s a w R loc fp []) (ho:o.op=.build t parts) (hd:∀ y,o.dst=some y→y<C.N) (ht:tiOf E.P t=some ti) (r:Root)
  (h:(match ti.td with
    | .struct fs=>if fs.all (fun f=>(tiOf E.P f.2).isSome) then fillCells E (fieldPl E.P fs) fz ti.zero .own parts.toList s else none
    | .arr _ e=>match tiOf E.P e with | some ei=>fillCells E (fun i=>some (i*ei.size,ei.size)) fz ti.zero .own parts.toList s | none=>none
    | _=>none)=some (m,ls,s')):o.wp E.P a w (InvX C ((s'.new r m true ls).2.put o.dst (s'.new r m true ls).1)) Q:=by
 obtain ⟨i0,d,zz,hi,hdd,hz,hzs,hz1,hn,h0,e1,e2,e3,e4,e5⟩:=tiOf_spec ht
 have V0:Val C s a w .own zz.cells.toList ti.zero:={ R,loc,fp,S:=[],inv:=by simpa [M.isOwn] using I,rep:=by rw [e4];exact zeros_rep w _ hz1,al:=.inl rfl }
 have fin:∀ cs',(Instr.build t (parts.map fun x=>(x.1,a.eval x.2))).run E.P w=.ok (.agg cs') w→Nonempty (Val C s' a w m cs'.toList ls)→o.wp E.P a w (InvX C ((s'.new r m true ls).2.put o.dst (s'.new r m true ls).1)) Q:=by
  rintro cs' hrun ⟨V⟩
  refine opVal (w':=w) (v:=.agg cs') (by simp only [execOp,ho,Sem.run_bind,hrun];rfl) ?_
  exact newVal (v:=.agg cs') V.inv V.rep V.al rfl r o.dst hd
 split at h
 ·rename_i fs hfs
  obtain ⟨fa,hfa,hl⟩:=structOf (e5 ▸ hfs)
  subst hfa;subst hl
  split at h<;>try (cases h;done)
  rename_i hall
  -- the machine's table of places
  have hpl:∀ (l:List Field),(l.all fun f=>(tiOf E.P f.type).isSome)=true→∃ ps,l.mapM (fun f=>(E.P.info? f.type).map fun i=>(f.offset,i.size))=some ps∧∀ (i:Nat) p,fieldPl E.P (l.map fun f=>(f.offset,f.type)) i=some p→ps[i]?=some p:=by
   intro l
   induction l with
   | nil=>intro _;exact ⟨[],rfl,fun i p h=>by simp [fieldPl] at h⟩
   | cons f l ih =>
    intro hl
    simp only [List.all_cons,Bool.and_eq_true] at hl
    obtain ⟨ps,h1,h2⟩:=ih hl.2
    obtain ⟨fi,hfi⟩:=Option.isSome_iff_exists.1 hl.1
    obtain ⟨i1,d1,z1,hi1,hdd1,hz1',hzs1,hz11,hn1,h01,f1,f2,f3,f4,f5⟩:=tiOf_spec hfi
    refine ⟨(f.offset,i1.size)::ps,by simp [List.mapM_cons,hi1,h1],?_⟩
    intro i p hp
    cases i with
    | zero =>
     simp only [fieldPl,List.map_cons,List.getElem?_cons_zero,hfi,Option.map_some,Option.some.injEq] at hp
     subst hp
     simp [f1]
    | succ i =>
     simp only [fieldPl,List.map_cons,List.getElem?_cons_succ] at hp
     exact h2 i p hp
  obtain ⟨ps,hps1,hps2⟩:=hpl fa.toList (by simpa [List.all_map] using hall)
  obtain ⟨cs',hf,hv,hV⟩:=fill_ok gk _ (fun i=>ps.toArray[i]?) fz (fun i p hp=>by simpa using hps2 i p hp) parts.toList s s' .own m ti.zero ls zz.cells V0 h
  refine fin cs' ?_ hv
  refine run_build w t _ cs' ?_
  simp only [Program.built,hi,hdd,hz,hps1]
  rw [← hf];simp
 ·rename_i len e he
  obtain rfl:=arrOf (e5 ▸ he)
  split at h<;>try (cases h;done)
  rename_i ei hei
  obtain ⟨i1,d1,z1,hi1,hdd1,hz1',hzs1,hz11,hn1,h01,f1,f2,f3,f4,f5⟩:=tiOf_spec hei
  obtain ⟨cs',hf,hv,hV⟩:=fill_ok gk _ (fun i=>some (i*i1.size,i1.size)) fz (fun i p hp=>by rw [← f1];exact hp) parts.toList s s' .own m ti.zero ls zz.cells V0 h
  refine fin cs' ?_ hv
  refine run_build w t _ cs' ?_
  simp only [Program.built,hi,hdd,hz,hi1]
  rw [← hf];simp
 ·cases h
end
end Go.Ev


namespace Go.Ev
section
variable {E:Env} {C:Cf} {s:St} {a:Act} {w:World} {R:Nat→Prop} {loc:Root→Loc} {fp:Root→List Nat} {F:List Nat}
theorem zerosFlat_rep (w:World) (zz:Array Value) (hz1:∀ v∈zz.toList,v.oneCell'=true):∀ n,RepLs w true (List.replicate n zz.toList).flatten (List.replicate n (zz.toList.map zeroLeaf)).flatten []
 | 0=>by simpa using RepLs.nil (w:=w) true
 | n+1=>by
  simp only [List.replicate_succ,List.flatten_cons]
  exact (zeros_rep w _ hz1).append (zerosFlat_rep w zz hz1 n)
theorem ok_buildSlice {o:Oper} {t e:TypeId} {n:Nat} {parts:Array (Nat × Operand)} {fz:List Nat} {ti ei:TI} {m ls s'} {Q} (gk:GlobOk E C) (I:Inv C s a w R loc fp []) (ho:o.op=.buildSlice t n parts) (hd:∀ y,o.dst=some y→y<C.N) (ht:tiOf E.P t=some ti) (htd:ti.td=.slice e) (hei:tiOf E.P e=some ei)
  (hn:n*ei.size≤65536∧0<ei.size) (r:Root)
  (h:fillCells E (fun i=>some (i*ei.size,ei.size)) fz (List.replicate n ei.zero).flatten .own parts.toList s=some (m,ls,s')) :
  o.wp E.P a w (InvX C ((if m.isOwn then s'.new r .own false [.sl (chunk ei.size n ls)] else (.v m false [.sl (chunk ei.size n ls)],s')).2.put o.dst (if m.isOwn then s'.new r .own false [.sl (chunk ei.size n ls)] else (.v m false [.sl (chunk ei.size n ls)],s')).1)) Q:=by
 obtain ⟨i0,d,zz,hi,hdd,hz,hzs,hz1,hn0,h0,e1,e2,e3,e4,e5⟩:=tiOf_spec ht
 obtain ⟨i1,d1,z1,hi1,hdd1,hz1',hzs1,hz11,hn1,h01,f1,f2,f3,f4,f5⟩:=tiOf_spec hei
 obtain rfl:=elemOf (e5 ▸ htd)
 let cs0:Array Value:=(Array.range (n*i1.size)).map fun j=>z1.cells[j % z1.cells.size]!
 have hcs0:cs0.toList=(List.replicate n z1.cells.toList).flatten:=by
  have:=zeroFlat z1.cells (by rw [hzs1,← f1];exact h01) n
  rw [hzs1] at this
  rw [← this]
  show ((Array.range (n*i1.size)).map fun j=>z1.cells[j % z1.cells.size]!).toList=_
  rw [hzs1]
 have V0:Val C s a w .own cs0.toList (List.replicate n ei.zero).flatten:={ R,loc,fp,S:=[],inv:=by simpa [M.isOwn] using I,rep:=by rw [hcs0,f4];exact zerosFlat_rep w z1.cells hz11 n,al:=.inl rfl }
 obtain ⟨cs',hf,⟨V⟩,hV⟩:=fill_ok gk _ (fun i=>some (i*i1.size,i1.size)) fz (fun i p hp=>by rw [← f1];exact hp) parts.toList s s' .own m _ ls cs0 V0 h
 have hlen:cs'.size=n*ei.size:=by
  have h1:=V.rep.len
  have h2:∀ (parts:List (Nat × Operand)) (s s':St) (m m':M) (ls ls':List L),fillCells E (fun i=>some (i*ei.size,ei.size)) fz ls m parts s=some (m',ls',s')→ls'.length=ls.length:=by
   intro parts
   induction parts with
   | nil=>intro s s' m m' ls ls' h;simp only [fillCells,Option.some.injEq,Prod.mk.injEq] at h;obtain ⟨_,rfl,_⟩:=h;rfl
   | cons p parts ih =>
    intro s s' m m' ls ls' h
    obtain ⟨i,x⟩:=p
    simp only [fillCells] at h
    split at h<;>try (cases h;done)
    rename_i off size m2 agg sub s2 hp he
    split at h<;>try (cases h;done)
    rename_i hc
    rw [ih _ _ _ _ _ _ h,setRange_eq _ _ _ (by omega),splice_length _ _ _ (by omega)]
  have h3:=h2 _ _ _ _ _ _ _ h
  have h4:(List.replicate n ei.zero).flatten.length=n*ei.size:=by
   rw [flatten_len ei.size _ (fun x hx=>by rw [(List.mem_replicate.1 hx).2,f4];simp [hzs1,f1])]
   simp
  simp at h1;omega
 have hls:ls.length=n*ei.size:=by have:=V.rep.len;simp at this;omega
 obtain ⟨c1,c2,c3⟩:=chunk_flat ei.size n ls hls
 refine opVal (w':=w.alloc (.cells cs' e (0,0))) (v:=.slice (some ⟨w.heap.size,0,none⟩) n n) ?_ ?_
 ·have hnb:¬ n*i1.size > 2 ^ 24:=by rw [← f1];omega
  have hf2:Instr.fill (fun i=>some (i*i1.size,i1.size)) cs0 (parts.map fun x=>(x.1,a.eval x.2)).toList=some cs':=by rw [Array.toList_map];exact hf
  have fin:(Instr.buildSlice t n (parts.map fun x=>(x.1,a.eval x.2))).run E.P w=.ok (.slice (some ⟨w.heap.size,0,none⟩) n n) (w.alloc (.cells cs' e (0,0))):=by
   simp only [Instr.buildSlice,Sem.run_bind,run_underlying' w hdd,Result.andThen_ok,run_sizeOf' w hi1,hnb,if_false,newRow]
   by_cases hq:n*i1.size=0
   ·rw [if_pos hq]
    have hcz:(Array.map (fun x=>(#[]:Array Value)[x % (#[]:Array Value).size]!) (Array.range (n*i1.size)))=cs0:=by
     apply Array.ext'
     rw [hcs0]
     have:n=0:=by
      rcases Nat.mul_eq_zero.1 hq with h | h
      ·exact h
      ·omega
     simp [this]
    simp only [Sem.run_bind,Sem.run_pure,Result.andThen_ok,hcz,hf2,run_newObj]
    rfl
   ·rw [if_neg hq]
    simp only [Sem.run_bind,Sem.run_pure,Result.andThen_ok,run_zeroValue' w hi1 hz1']
    rw [show (Array.map (fun x=>z1.cells[x % z1.cells.size]!) (Array.range (n*i1.size)))=cs0 from rfl,hf2]
    rfl
  simp only [execOp,ho]
  rw [Sem.run_bind,fin]
  rfl
 ·have:=newSlice (m:=m) (cs:=cs') (rows:=chunk ei.size n ls) (S:=V.S) (sz:=ei.size) V.inv (by rw [c3,c1,List.take_of_length_le (by simp;omega)];exact V.rep) V.al hn.2 c2 n (by omega) (by omega) (fun hh=>by rw [hh] at c3;simpa using c3.symm) r e o.dst hd
  rw [c3] at this
  exact this
theorem wrap_in {n:Int} (h1:-9223372036854775808≤n) (h2:n≤9223372036854775807):IntKind.i64.wrap n=n:=by
 show (if (true&&decide (n % 2 ^ 64 ≥ 2 ^ (64 - 1)))=true then n % 2 ^ 64 - 2 ^ 64 else n % 2 ^ 64)=n
 by_cases h:n % 2 ^ 64 ≥ 2 ^ (64 - 1)
 ·rw [if_pos (by simpa using h)];omega
 ·rw [if_neg (by simpa using h)];omega
theorem ok_makeSlice {o:Oper} {t:TypeId} {l c:Operand} {z:AV × St} {d:Nat} {Q} (gk:GlobOk E C) (I:Inv C s a w R loc fp []) (ho:o.op=.makeSlice t l c) (hd:∀ y,o.dst=some y→y<C.N)
  (h:evMakeSlice E t (opnd E s l) (opnd E s c) d s=some z):o.wp E.P a w (InvX C (z.2.put o.dst z.1)) Q:=by
 have hl:=opnd_rep gk I l
 have hc:=opnd_rep gk I c
 unfold evMakeSlice at h
 split at h<;>try (cases h;done)
 rename_i ti n n' ht hn hn'
 obtain ⟨i0,dd,zz,hi,hdd,hz,hzs,hz1,hn0,h0,e1,e2,e3,e4,e5⟩:=tiOf_spec ht
 split at h<;>try (cases h;done)
 rename_i e he
 obtain rfl:=elemOf (e5 ▸ he)
 split at h<;>try (cases h;done)
 rename_i ei hei
 obtain ⟨i1,d1,z1,hi1,hdd1,hz1',hzs1,hz11,hn1,h01,f1,f2,f3,f4,f5⟩:=tiOf_spec hei
 split at h<;>cases h
 rename_i hcc
 obtain ⟨rfl,hn00,hb,hb2,hsz⟩:=hcc
 obtain ⟨k,hk⟩:=asInt_of hl hn
 obtain ⟨k',hk'⟩:=asInt_of hc hn'
 have hw:IntKind.i64.wrap n=n:=wrap_in (by omega) (by omega)
 have hcells:=zeroFlat z1.cells (by rw [hzs1,← f1];exact h01) n.toNat
 rw [hzs1] at hcells
 let cs:Array Value:=(Array.range (n.toNat*i1.size)).map fun j=>(if n.toNat*i1.size=0 then #[] else z1.cells)[j % (if n.toNat*i1.size=0 then #[] else z1.cells).size]!
 have hcs:cs.toList=(List.replicate n.toNat z1.cells.toList).flatten:=by
  by_cases hq:n.toNat*i1.size=0
  ·have:n.toNat=0:=by
    rcases Nat.mul_eq_zero.1 hq with h | h
    ·exact h
    ·omega
   show ((Array.range (n.toNat*i1.size)).map _).toList=_
   simp [this]
  ·rw [← hcells]
   show ((Array.range (n.toNat*i1.size)).map _).toList=_
   rw [if_neg hq,hzs1]
 refine opVal (w':=w.alloc (.cells cs e (0,0))) (v:=.slice (some ⟨w.heap.size,0,none⟩) n.toNat n.toNat) ?_ ?_
 ·have hask:∀ k:Nat,(askRoom k).run E.P w=.ok () w:=fun k=>run_askRoom E.P w k
  have hbn:(ei.bytes:Int)*n≤17592186044416:=by rw [Int.mul_comm];exact hb
  have hnt1:¬ ((i1.bytes:Int)*n > 2 ^ 48):=by rw [← f2];omega
  have hcond:(((n<0 || (i1.bytes:Int)*n > 2 ^ 48) || n<0 || n > n):Bool)=false:=by simp;omega
  simp only [execOp,ho,Instr.makeSlice,Sem.run_bind,run_underlying' w hdd,Result.andThen_ok,hk,hk',asInt,asIntOf_int,Sem.run_pure,run_typeInfo' w hi1,hw,run_sizeOf' w hi1,hask,newRow,run_newObj]
  rw [if_neg (by rw [hcond];simp)]
  simp only [Sem.run_bind,Sem.run_pure,Result.andThen_ok,hask,run_sizeOf' w hi1]
  by_cases hq:n.toNat*i1.size=0
  ·rw [if_pos hq]
   have:cs=Array.map (fun x=>(#[]:Array Value)[x % (#[]:Array Value).size]!) (Array.range (n.toNat*i1.size)):=by
    show (Array.range (n.toNat*i1.size)).map _=_
    rw [if_pos hq]
   simp only [Sem.run_bind,Sem.run_pure,Result.andThen_ok,run_newObj,← this]
   rfl
  ·rw [if_neg hq]
   have:cs=Array.map (fun x=>z1.cells[x % z1.cells.size]!) (Array.range (n.toNat*i1.size)):=by
    show (Array.range (n.toNat*i1.size)).map _=_
    rw [if_neg hq]
   simp only [Sem.run_bind,Sem.run_pure,Result.andThen_ok,run_zeroValue' w hi1 hz1',run_newObj,← this]
   rfl
 ·have:=newSlice (m:=.own) (cs:=cs) (rows:=List.replicate n.toNat ei.zero) (S:=[]) (sz:=ei.size) (by simpa [M.isOwn] using I) (by
   have hr:∀ x∈List.replicate n.toNat z1.cells.toList,x.length=ei.size:=fun x hx=>by rw [(List.mem_replicate.1 hx).2];simp [hzs1,f1]
   rw [hcs,List.length_replicate,List.take_of_length_le (by rw [flatten_len _ _ hr];simp),f4]
   exact zerosFlat_rep w z1.cells hz11 n.toNat) (.inl rfl) hsz (fun x hx=>by rw [(List.mem_replicate.1 hx).2,f4];simp [hzs1,f1]) n.toNat (by simp) (by
    rw [← Array.length_toList,hcs,flatten_len i1.size _ (fun x hx=>by rw [(List.mem_replicate.1 hx).2];simp [hzs1])];simp [f1]) (fun hh=>by simpa using congrArg List.length hh) (.f d 1) e o.dst hd
  simpa [M.isOwn] using this
theorem ok_cap1 (gk:GlobOk E C) (I:Inv C s a w R loc fp []) (x:Operand) {s':St} {l:L} (h:cap1 s (opnd E s x)=some (l,s')) :
  ∃ R' loc' fp' S,Inv C s' a w R' loc' fp' []∧RepL w false (a.eval x) l S∧(∀ b∈S,R' b)∧s'.V=s.V∧∀ b,R b→R' b:=by
 have hx:=opnd_rep gk I x
 generalize opnd E s x=y at h hx
 unfold cap1 at h
 split at h
 ·cases h
  obtain ⟨S0,h1,h2,_⟩:=scal hx
  exact ⟨R,loc,fp,S0,I,h1,h2,rfl,fun _ h=>h⟩
 ·rename_i r k0 k1
  split at h<;>try (cases h;done)
  rename_i hh hlk
  split at h<;>cases h
  rename_i hc
  obtain ⟨hbox,htn⟩:=hc
  obtain ⟨h0,g1,g2,g3,g4⟩:=hx
  rw [hlk] at g1;cases g1
  obtain ⟨b,hl,hv⟩:=g4 (by simpa [HC.okAd] using hbox)
  obtain ⟨hr⟩:=I.rep r hh hlk
  rcases hr.bx with ⟨_,b',cs,T,fr,hl',hbb,hw⟩ | ⟨hb0,_,_⟩
  ·rw [hl] at hl';cases hl'
   have hcells:(loc r).cells w=cs.toList:=by rw [hl];simp [Loc.cells,hbb]
   have hfp:=hr.fpe
   let R1:Nat→Prop:=fun c=>R c∨c∈fp r
   have hbR:R1 b:=by
    rcases hw with ⟨_,ho⟩ | ⟨_,_,hRb⟩
    ·exact .inr (by rw [hfp,ho];simp)
    ·exact .inl hRb
   have hSR:∀ c∈hr.S,R1 c:=by
    rcases hr.al with ho | hal
    ·exact fun c hc=>.inr (by rw [hfp,if_pos ho];simp [hc])
    ·intro c hc
     have:=hal c hc
     cases hm:hh.m with
     | own=>rw [hm] at this;exact this.elim
     | ro=>rw [hm] at this;exact .inl this
     | tn=>rw [hm] at htn;simp [M.isTn] at htn
   have J:=I.root r { hh with m:=.ro,wr:=false } (loc r) [] (w':=w) (R':=R1) (F':=[]) (fun c=>c∈fp r) (fun c hc=>.inr ⟨⟨hh,hlk⟩,hc⟩) ⟨rfl,rfl,rfl,Nat.le_refl _,fun _ _ _=>rfl⟩ (fun c hc=>.inl hc) (fun c hc=>hc.imp id fun q=>.inl q)
    ⟨{ S:=hr.S,ob:=[],rep:=hr.rep.weak,fpe:=by simp [M.isOwn],al:=.inr hSR,bx:=.inl ⟨hbox,b,cs,T,fr,hl,hbb,.inr ⟨rfl,rfl,hbR⟩⟩ }⟩
    (by simp) (by simp) (fun _ _ _=>.inr trivial) (fun y u hy hu=>alias_freeze hu hy hlk (by simp) rfl rfl rfl rfl rfl) (I.plKeep hlk rfl)
   have hlen:=hr.rep.len
   rw [hcells] at hlen
   refine ⟨_,_,_,b::hr.S,J,?_,?_,rfl,fun c hc=>.inl hc⟩
   ·rw [hv]
    refine .ref b 0 cs T fr hh.ls hr.S hbb (by simp at hlen;omega) ?_
    rw [List.drop_zero,List.take_of_length_le (by simp at hlen;simp;omega),← hcells]
    exact hr.rep.weak
   ·intro c hc
    rcases List.mem_cons.1 hc with rfl | hc
    ·exact hbR
    ·exact hSR c hc
  ·rw [hbox] at hb0;cases hb0
 ·cases h
theorem ok_caps (gk:GlobOk E C):∀ (xs:List Operand) (s s':St) (ls:List L) (R:Nat→Prop) (loc:Root→Loc) (fp:Root→List Nat),Inv C s a w R loc fp []→evCaps (xs.map (opnd E s)) s=some (ls,s') →
  ∃ R' loc' fp' S,Inv C s' a w R' loc' fp' []∧RepLs w false (xs.map a.eval) ls S∧(∀ b∈S,R' b)∧s'.V=s.V∧∀ b,R b→R' b
 | [],s,s',ls,R,loc,fp,I,h=>by
  simp only [List.map_nil,evCaps,Option.some.injEq,Prod.mk.injEq] at h
  obtain ⟨rfl,rfl⟩:=h
  exact ⟨R,loc,fp,[],I,.nil _,by simp,rfl,fun _ h=>h⟩
 | x::xs,s,s',ls,R,loc,fp,I,h=>by
  simp only [List.map_cons,evCaps] at h
  split at h<;>try (cases h;done)
  rename_i l s1 hc
  split at h<;>cases h
  rename_i ls2 hrest
  obtain ⟨R1,loc1,fp1,S1,I1,hr1,hS1,hV1,hm1⟩:=ok_cap1 gk I x hc
  have hmap:xs.map (opnd E s)=xs.map (opnd E s1):=by
   apply List.map_congr_left
   intro z _
   exact (opnd_V s s1 hV1 z).symm
  rw [hmap] at hrest
  obtain ⟨R2,loc2,fp2,S2,I2,hr2,hS2,hV2,hm2⟩:=ok_caps gk xs s1 _ _ _ _ _ I1 hrest
  exact ⟨R2,loc2,fp2,S1++S2,I2,.cons _ _ _ _ _ _ _ hr1 hr2,fun b hb=>(List.mem_append.1 hb).elim (fun q=>hm2 b (hS1 b q)) (hS2 b),hV2.trans hV1,fun b hb=>hm2 b (hm1 b hb)⟩
theorem ok_makeFunc {o:Oper} {f:FuncId} {first cs:Array Operand} {ls:List L} {s':St} {Q} (gk:GlobOk E C) (I:Inv C s a w R loc fp []) (ho:o.op=.makeFunc (.func f) first cs) (hf:first.size=0) (hd:∀ y,o.dst=some y→y<C.N)
  (h:evCaps (cs.toList.map (opnd E s)) s=some (ls,s')):o.wp E.P a w (InvX C (s'.put o.dst (.v .ro false [.fn f ls]))) Q:=by
 obtain ⟨R',loc',fp',S,J,hr,hS,hV,_⟩:=ok_caps gk cs.toList s s' ls R loc fp I h
 have hfe:first=#[]:=Array.eq_empty_of_size_eq_zero hf
 refine opVal (w':=w) (v:=.func (.func f) #[] ⟨cs.toList.map a.eval⟩) ?_ (InvX.put J hd (mkScal (.fn f ls _ S hr) hS (by simp [M.isOwn])))
 simp only [execOp,ho,Instr.makeFunc,hfe]
 have:Array.map a.eval cs=⟨cs.toList.map a.eval⟩:=by apply Array.ext';simp
 simp [this]
theorem Inv.reput {d:Nat} {v:Value} {x y:AV} (I:Inv C (s.put (some d) x) (a.put (some d) v) w R loc fp F) (hd:d<C.N) (hy:AVRep w R C.B s.H loc v y):Inv C (s.put (some d) y) (a.put (some d) v) w R loc fp F :=
 { I with
  av:=fun t=>by
   have hsz:a.tmps.size=C.N:=by have:=I.sz;simpa [Act.put] using this
   rw [getD_put a (some d) v t C.N hsz (fun y hy=>by cases hy;exact hd)]
   by_cases h:d=t
   ·subst h
    simp only [St.put,look,if_true]
    exact hy
   ·have:=I.av t
    rw [getD_put a (some d) v t C.N hsz (fun y hy=>by cases hy;exact hd)] at this
    have e:¬ (some d=some t):=by simpa using h
    rw [if_neg e] at this ⊢
    simp only [St.put,look,if_neg h] at this ⊢
    exact this }
theorem ok_boxFz {o:Oper} {t:TypeId} {x:Operand} {ti:TI} {fz:Bool} {m agg ls s' s3} {l:L} {Q} {y:Nat} (gk:GlobOk E C) (I:Inv C s a w R loc fp []) (ho:o.op=.box t x) (hdst:o.dst=some y) (hd:y<C.N) (ht:tiOf E.P t=some ti)
  (he:s.embed fz (opnd E s x)=some (m,agg,ls,s')) (r:Root) (hc:cap1 (s'.mkBox r m ls).2 (s'.mkBox r m ls).1=some (l,s3)):o.wp E.P a w (InvX C (s3.put o.dst (.v .ro false [l]))) Q:=by
 obtain ⟨tk⟩:=I.embed (opnd_rep gk I x) he
 refine opVal (w':=w.alloc (.cells (a.eval x).cells t (0,0))) (v:=.pointer (some ⟨w.heap.size,0,none⟩)) ?_ ?_
 ·simp only [execOp,ho,Instr.box,newVar,newRow]
  rfl
 ·obtain ⟨R1,loc1,fp1,J⟩:=newBox (by simpa using tk.inv) tk.rep tk.al r t o.dst (fun z hz=>by rw [hdst] at hz;cases hz;exact hd)
  rw [hdst] at J ⊢
  have hlk:opnd E ((s'.mkBox r m ls).2.put (some y) (s'.mkBox r m ls).1) (.tmp y)=(s'.mkBox r m ls).1:=by simp [opnd,St.put,look]
  have hc':cap1 ((s'.mkBox r m ls).2.put (some y) (s'.mkBox r m ls).1) (opnd E ((s'.mkBox r m ls).2.put (some y) (s'.mkBox r m ls).1) (.tmp y))=some (l,s3.put (some y) (s'.mkBox r m ls).1):=by
   rw [hlk]
   unfold St.mkBox at hc ⊢
   split at hc
   ·rename_i hn
    simp only [cap1] at hc ⊢
    split at hc<;>try (cases hc;done)
    rename_i hh hl
    split at hc<;>cases hc
    rename_i hcc
    have:lookH ((s'.putH r { box:=true,wr:=true,m:=m,ls:=ls,e0:=0,e1:=0 }).put (some y) (AV.ad r 0 0 0 [])).H r=some hh:=hl
    simp only [this,if_pos hcc]
    rfl
   ·simp [cap1] at hc
  obtain ⟨R2,loc2,fp2,S,J2,hr,hS,_,_⟩:=ok_cap1 gk J (.tmp y) hc'
  have hv:(a.put (some y) (.pointer (some ⟨w.heap.size,0,none⟩))).eval (.tmp y)=.pointer (some ⟨w.heap.size,0,none⟩):=by
   have hsz:a.tmps.size=C.N:=I.sz
   show (a.put (some y) _).tmps.getD y undef=_
   rw [getD_put a (some y) _ y C.N hsz (fun z hz=>by cases hz;exact hd),if_pos rfl]
  rw [hv] at hr
  exact ⟨R2,loc2,fp2,Inv.reput J2 hd (mkScal hr hS (by simp [M.isOwn]))⟩
end
end Go.Ev


namespace Go.Ev
theorem extract_list (B:ByteArray) (l h:Nat):(B.extract l h).data.toList=(B.data.toList.take h).drop l:=by
 rw [ByteArray.data_extract]
 simp [List.drop_take]
theorem RepL.slE {w:World} {o v S} (h:RepL w o v (.sl []) S):∃ p cap,v=.slice p 0 cap∧S=[]∧(o=true→cap=0):=by
 cases h with
 | sle _ p cap hc=>exact ⟨p,cap,rfl,rfl,hc⟩
 | sl _ b off cap cs T fr _ sz S hb hne hsz hx hc hl hr=>exact absurd rfl hne
theorem Wst.drew (w:World):Wst w w.drew fun _=>False:=⟨rfl,rfl,rfl,Nat.le_refl _,fun _ _ _=>rfl⟩
section
variable {E:Env} {C:Cf} {s:St} {a:Act} {w:World} {R:Nat→Prop} {loc:Root→Loc} {fp:Root→List Nat} {F:List Nat}
theorem run_sliceBound' {k:IntKind} {n:Int} {top:Nat} {code:BoundsCode} (h:0≤n∧n≤top):(Instr.sliceBound (.int k n) top code).run E.P w=.ok n.toNat w:=by
 simp [Instr.sliceBound,asIntOf_int,h]
theorem bound_spec (gk:GlobOk E C) (I:Inv C s a w R loc fp F) {d top k:Nat} {x:Option Operand} (h:boundOf d top (x.map (opnd E s))=some k) :
  (x=none∧k=d)∨(∃ y kd n,x=some y∧a.eval y=.int kd n∧0≤n∧n≤top∧k=n.toNat):=by
 cases x with
 | none=>simp only [Option.map_none,boundOf,Option.some.injEq] at h;exact .inl ⟨rfl,h.symm⟩
 | some y =>
  right
  simp only [Option.map_some,boundOf] at h
  split at h<;>try (cases h;done)
  rename_i n hn
  split at h<;>cases h
  rename_i hb
  obtain ⟨kd,hk⟩:=asInt_of (opnd_rep gk I y) hn
  exact ⟨y,kd,n,rfl,hk,hb.1,hb.2,rfl⟩
theorem run_sliceBounds' (gk:GlobOk E C) (I:Inv C s a w R loc fp F) {isSlice:Bool} {len cap:Nat} (hlc:len≤cap) {lo hi:Option Operand} {l h:Nat} (h1:boundOf len len (hi.map (opnd E s))=some h) (h2:boundOf 0 h (lo.map (opnd E s))=some l) :
  (Instr.sliceBounds isSlice len cap (lo.map a.eval) (hi.map a.eval) none).run E.P w=.ok (l,h,cap) w∧l≤h∧h≤len:=by
 have hh:h≤len:=by
  rcases bound_spec gk I h1 with ⟨_,rfl⟩ | ⟨y,kd,n,_,_,h3,h4,rfl⟩
  ·exact Nat.le_refl _
  ·omega
 have hl:l≤h:=by
  rcases bound_spec gk I h2 with ⟨_,rfl⟩ | ⟨y,kd,n,_,_,h3,h4,rfl⟩
  ·exact Nat.zero_le _
  ·omega
 refine ⟨?_,hl,hh⟩
 rcases bound_spec gk I h1 with ⟨rfl,rfl⟩ | ⟨y,kd,n,rfl,hy,h3,h4,rfl⟩
 ·rcases bound_spec gk I h2 with ⟨rfl,rfl⟩ | ⟨y,kd,n,rfl,hy,h3,h4,rfl⟩
  ·simp [Instr.sliceBounds]
  ·simp [Instr.sliceBounds,hy,run_sliceBound' ⟨h3,h4⟩]
 ·rcases bound_spec gk I h2 with ⟨rfl,rfl⟩ | ⟨y2,kd2,n2,rfl,hy2,h5,h6,rfl⟩
  ·simp [Instr.sliceBounds,hy,run_sliceBound' (top:=cap) (show 0≤n∧n≤(cap:Int) by omega)]
  ·have e1:(Instr.sliceBound (.int kd n) cap (if isSlice=true then BoundsCode.sliceAcap else BoundsCode.sliceAlen)).run E.P w=.ok n.toNat w:=run_sliceBound' (by omega)
   have e2:(Instr.sliceBound (.int kd2 n2) n.toNat BoundsCode.sliceB).run E.P w=.ok n2.toNat w:=run_sliceBound' (by omega)
   simp only [Instr.sliceBounds,Option.map_some,hy,hy2,Sem.run_bind,Sem.run_pure,Result.andThen_ok]
   rw [e1]
   simp only [Result.andThen_ok,Option.isSome_none,Bool.false_eq_true,if_false]
   rw [e2]
   rfl
theorem ok_slice {o:Oper} {t:TypeId} {x:Operand} {lo hi:Option Operand} {z:AV × St} {Q} (gk:GlobOk E C) (I:Inv C s a w R loc fp []) (ho:o.op=.slice t x lo hi none) (hd:∀ y,o.dst=some y→y<C.N)
  (h:evSlice E t (opnd E s x) (lo.map (opnd E s)) (hi.map (opnd E s)) s=some z):o.wp E.P a w (InvX C (z.2.put o.dst z.1)) Q:=by
 have hx:=opnd_rep gk I x
 unfold evSlice at h
 split at h<;>try (cases h;done)
 rename_i ti ht
 obtain ⟨i0,dd,zz,hi0,hdd,hz,hzs,hz1,hn0,h0,e1,e2,e3,e4,e5⟩:=tiOf_spec ht
 split at h
 ·rename_i m bs hst hq
  obtain rfl:=strOf (e5 ▸ hst)
  rw [hq] at hx
  split at h<;>try (cases h;done)
  rename_i hh h1
  split at h<;>cases h
  rename_i l h2
  obtain ⟨S,g1,_⟩:=scal hx
  obtain ⟨B,hxv,rfl,hsz⟩:=repStr g1
  obtain ⟨hrun,hl,hhl⟩:=run_sliceBounds' (isSlice:=false) gk I (Nat.le_refl _) h1 h2
  refine opVal (w':=w) (v:=.string (B.extract l hh)) ?_ (InvX.put I hd (by have:=RepL.str (w:=w) false (B.extract l hh);rw [extract_list] at this;exact mkFlat this rfl))
  simp only [execOp,ho,Instr.sliceAt,Instr.slice,Option.map_none,Sem.run_bind,run_underlying' w hdd,Result.andThen_ok,hxv,Option.isSome_none,Bool.false_eq_true,if_false,Sem.run_pure]
  rw [← hsz] at hrun
  rw [hrun]
  rfl
 ·rename_i _ _ e he
  obtain rfl:=elemOf (e5 ▸ he)
  split at h<;>try (cases h;done)
  rename_i ei m xs s' hei hemb
  obtain ⟨i1,d1,z1,hi1,hdd1,hz1',hzs1,hz11,hn1,h01,f1,f2,f3,f4,f5⟩:=tiOf_spec hei
  split at h<;>try (cases h;done)
  rename_i hh h1
  split at h<;>try (cases h;done)
  rename_i l h2
  split at h<;>cases h
  rename_i hall
  obtain ⟨tk⟩:=I.embed hx hemb
  have hr:=oneRep tk.rep tk.agg
  rw [List.all_eq_true] at hall
  have J:=tk.inv
  simp only [List.nil_append] at J
  have hrows:∀ r∈xs,r.length=ei.size:=fun r hr=>by simpa using hall r hr
  -- what is left is frozen
  have fin:∀ (v:Value) (S':List Nat),(execOp a.eval o).run E.P w=.ok (.value v) w→RepL w false v (.sl ((xs.take hh).drop l)) S'→(∀ b∈S',b∈tk.S)→o.wp E.P a w (InvX C (s'.put o.dst (.v m.fz false [.sl ((xs.take hh).drop l)]))) Q:=by
   intro v S' hrun hrep hsub
   refine opVal hrun ?_
   cases hm:m.isOwn with
   | true =>
    have hmo:=own_of hm
    subst hmo
    simp only [hm,if_true] at J
    have J2:=J.freeze tk.S [] (by simp) (by simpa using J.fnd)
    exact InvX.put J2 hd (mkScal hrep (fun b hb=>.inr (hsub b hb)) (by simp [M.fz,M.isOwn]))
   | false =>
    simp only [hm,Bool.false_eq_true,if_false] at J
    have hal:=tk.al.resolve_left (by simp [hm])
    have hfz:m.fz=m:=by cases m<;>simp [M.isOwn,M.fz] at hm ⊢
    rw [hfz]
    exact InvX.put J hd (mkScal hrep (fun b hb=>hal b (hsub b hb)) (fun h=>absurd h (by simp [hm])))
  by_cases hxe:xs=[]
  ·subst hxe
   obtain ⟨p,cap,hv,_,_⟩:=hr.slE
   obtain ⟨hrun,hl,hhl⟩:=run_sliceBounds' (isSlice:=true) (cap:=cap) gk I (by simp:([]:List (List L)).length≤cap) h1 h2
   simp only [List.length_nil] at hrun hhl
   have hl0:l=0∧hh=0:=by omega
   obtain ⟨rfl,rfl⟩:=hl0
   refine fin (.slice (if cap=0 then p else p.map (·.add (0*i1.size))) 0 (cap - 0)) [] ?_ (by simpa using RepL.sle (w:=w) false _ _ (by simp)) (by simp)
   simp only [execOp,ho,Instr.sliceAt,Instr.slice,Option.map_none,Sem.run_bind,run_underlying' w hdd,Result.andThen_ok,hv]
   rw [hrun]
   simp only [Result.andThen_ok,run_sizeOf' w hi1,Sem.run_bind]
   rfl
  ·obtain ⟨b,off,cap,cs,T,fr,sz,S0,hv,hS,hb,hsz,hxl,hcap,hsize,hrr⟩:=hr.slCases hxe
   have hszz:sz=ei.size:=by
    cases xs with
    | nil=>exact absurd rfl hxe
    | cons r rs=>rw [← hxl r (by simp)];exact hrows r (by simp)
   subst hszz
   obtain ⟨hrun,hl,hhl⟩:=run_sliceBounds' (isSlice:=true) (cap:=cap) gk I hcap h1 h2
   have hrunv:(execOp a.eval o).run E.P w=.ok (.value (.slice (if cap=l then some ⟨b,off,none⟩ else some ⟨b,off+l*ei.size,none⟩) (hh - l) (cap - l))) w:=by
    simp only [execOp,ho,Instr.sliceAt,Instr.slice,Option.map_none,Sem.run_bind,run_underlying' w hdd,Result.andThen_ok,hv]
    rw [hrun]
    simp only [Result.andThen_ok,run_sizeOf' w hi1,Sem.run_bind,Option.map_some,add_blk,f1]
    rfl
   by_cases hlt:l<hh
   ·have hlen:((xs.take hh).drop l).length=hh - l:=by simp;omega
    have hne2:(xs.take hh).drop l≠[]:=by intro e;have:=congrArg List.length e;rw [hlen] at this;simp at this;omega
    have hmul:l*ei.size+(hh - l)*ei.size=hh*ei.size:=by rw [← Nat.add_mul];congr 1;omega
    have hmul2:hh*ei.size≤xs.length*ei.size:=Nat.mul_le_mul_right _ hhl
    have hmul3:l*ei.size+(cap - l)*ei.size=cap*ei.size:=by rw [← Nat.add_mul];congr 1;omega
    have hcapm:xs.length*ei.size≤cap*ei.size:=Nat.mul_le_mul_right _ hcap
    obtain ⟨R1,Rm,R2,hR,r1,rm,r2⟩:=hrr.range (l*ei.size) ((hh - l)*ei.size) (by rw [flatten_len ei.size xs hxl];omega)
    have efl:(xs.flatten.drop (l*ei.size)).take ((hh - l)*ei.size)=((xs.take hh).drop l).flatten:=by
     rw [flatten_drop ei.size xs l hxl,flatten_take ei.size (xs.drop l) (hh - l) (fun r hr=>hxl r (List.mem_of_mem_drop hr)),List.drop_take]
    rw [efl,take_drop_of _ _ _ _ _ (by omega)] at rm
    have hfin:=RepL.sl (w:=w) false b (off+l*ei.size) (cap - l) cs T fr ((xs.take hh).drop l) ei.size Rm hb hne2 hsz (fun r hr=>hxl r (List.mem_of_mem_take (List.mem_of_mem_drop hr))) (by omega) (by omega) (by rw [hlen];exact rm.weak)
    rw [hlen] at hfin
    rw [if_neg (by omega)] at hrunv
    exact fin _ _ hrunv hfin (fun c hc=>by rw [hS,hR];simp at hc ⊢;rcases hc with q | q<;>simp [q])
   ·have e:(xs.take hh).drop l=[]:=by apply List.drop_eq_nil_of_le;simp;omega
    rw [show hh - l=0 by omega] at hrunv
    exact fin _ [] hrunv (by rw [e];exact .sle _ _ _ (by simp)) (by simp)
 ·cases h
theorem bytesOfRows_spec:∀ {xs:List (List L)} {bs:List UInt8},bytesOfRows xs=some bs→∃ ns:List Int,xs=ns.map (fun n=>[L.int .u8 n])∧bs=ns.map fun n=>UInt8.ofNat n.toNat
 | [],bs,h=>by simp only [bytesOfRows,Option.some.injEq] at h;subst h;exact ⟨[],rfl,rfl⟩
 | r::xs,bs,h=>by
  unfold bytesOfRows at h
  split at h
  ·rename_i he;cases he
  ·rename_i n r' he
   cases he
   cases hb:bytesOfRows xs with
   | none=>simp [hb] at h
   | some b2 =>
    simp only [hb,Option.map_some,Option.some.injEq] at h
    subst h
    obtain ⟨ns,rfl,rfl⟩:=bytesOfRows_spec hb
    exact ⟨n::ns,rfl,rfl⟩
  ·cases h
theorem intCells {w:World}:∀ {vs:List Value} {ns:List Int} {S},RepLs w false vs ((ns.map fun n=>[L.int .u8 n]).flatten) S→vs=ns.map (Value.int .u8)
 | [],[],_,_=>rfl
 | [],n::ns,_,h=>by have:=h.len;simp at this
 | v::vs,[],_,h=>by have:=h.len;simp at this
 | v::vs,n::ns,_,h=>by
  simp only [List.map_cons,List.flatten_cons,List.cons_append,List.nil_append] at h
  obtain ⟨S1,S2,_,h1,h2⟩:=h.head
  rw [List.map_cons,intCells h2]
  cases h1;rfl
theorem rowsOfBytes_flat (bs:List UInt8):(rowsOfBytes bs).flatten=bs.map fun b=>L.int .u8 b.toNat:=by
 induction bs with
 | nil=>rfl
 | cons b bs ih=>simp only [rowsOfBytes,List.map_cons,List.flatten_cons,List.cons_append,List.nil_append] at ih ⊢;rw [ih]
theorem byteCells_rep (w:World) (o:Bool):∀ (bs:List UInt8),RepLs w o (bs.map fun b=>Value.int .u8 b.toNat) (bs.map fun b=>L.int .u8 b.toNat) []
 | []=>.nil _
 | b::bs=>.cons _ _ _ _ _ [] [] (.int _ _ _) (byteCells_rep w o bs)
theorem markStringish_run {P:Program} {w:World} {b:Nat} {cs:Array Value} {T:TypeId} {fr:Nat × Nat} (hb:w.heap[b]?=some (.cells cs T fr)):(markStringish ⟨b,0,none⟩).run P w=.ok () (w.freeze ⟨b,cs.size,none⟩ 1):=by
 have:w.shape? b=some (T,cs.size):=by simp [World.shape?,hb]
 simp [markStringish,this]
theorem ok_conv {o:Oper} {src dst:TypeId} {x:Operand} {z:AV × St} {d:Nat} {Q} (gk:GlobOk E C) (I:Inv C s a w R loc fp []) (ho:o.op=.convert src dst x) (hd:∀ y,o.dst=some y→y<C.N)
  (h:evConv E src dst (opnd E s x) d s=some z):o.wp E.P a w (InvX C (z.2.put o.dst z.1)) Q:=by
 have hx:=opnd_rep gk I x
 unfold evConv at h
 split at h<;>try (cases h;done)
 rename_i ta tb hta htb
 obtain ⟨i0,da,za,hi0,hda,hza,_,_,_,_,_,_,_,_,ea⟩:=tiOf_spec hta
 obtain ⟨i1,db,zb,hi1,hdb,hzb,_,_,_,_,_,_,_,_,eb⟩:=tiOf_spec htb
 split at h
 ·rename_i k1 k2 m k3 n h1 h2 hq
  obtain rfl:=intOfD (ea ▸ h1)
  obtain rfl:=intOfD (eb ▸ h2)
  rw [hq] at hx
  cases h
  obtain ⟨S,g1,_⟩:=scal hx
  generalize hxv:a.eval x=xv at g1
  cases g1
  exact opVal (w':=w) (v:=.int k2 (k2.wrap n)) (by simp [execOp,ho,convert,run_underlying' w hda,run_underlying' w hdb,hxv,Conv.intToInt]) (InvX.put I hd (mkFlat (.int _ _ _) rfl))
 ·rename_i e m bs h1 h2 hq
  obtain rfl:=strOf (ea ▸ h1)
  obtain rfl:=elemOf (eb ▸ h2)
  rw [hq] at hx
  split at h<;>try (cases h;done)
  rename_i ei hei
  obtain ⟨i2,de,ze,hi2,hde,hze,_,_,_,_,g1s,g1b,_,_,ee⟩:=tiOf_spec hei
  split at h<;>try (cases h;done)
  rename_i hk
  obtain rfl:=intOfD (ee ▸ hk)
  obtain ⟨S,g1,_⟩:=scal hx
  obtain ⟨B,hxv,rfl,hsz⟩:=repStr g1
  -- the machine's run
  let cap:=grownCap w B.size 0 e
  have hcap:B.size≤cap:=by
   show B.size≤grownCap w B.size 0 e
   simp only [grownCap,Question.cut];omega
  let cs:Array Value:=(B.data.map fun (b:UInt8)=>Value.int IntKind.u8 b.toNat)++Array.replicate (cap - B.size) (.int .u8 0)
  have hcsz:cs.size=cap:=by
   show ((B.data.map fun (b:UInt8)=>Value.int IntKind.u8 b.toNat)++Array.replicate (cap - B.size) (Value.int IntKind.u8 0)).size=cap
   rw [Array.size_append,Array.size_map,Array.size_replicate]
   have:B.data.size=B.size:=rfl
   omega
  let w1:=w.drew.alloc (.cells cs e (0,0))
  have hg1:w1.heap[w.heap.size]?=some (.cells cs e (0,0)):=alloc_get w.drew _
  let w2:=w1.freeze ⟨w.heap.size,cs.size,none⟩ 1
  have hg2:w2.heap[w.heap.size]?=some (.cells cs e (cs.size,cs.size+1)):=by
   show (w1.heap.modify _ _)[w.heap.size]?=_
   rw [Array.getElem?_modify,if_pos rfl,hg1];rfl
  have hw2:Wst w w2 fun _=>False:=by
   refine ⟨rfl,rfl,rfl,?_,fun k hk _=>?_⟩
   ·show w.heap.size≤(w1.heap.modify _ _).size
    rw [Array.size_modify]
    have:=alloc_size w.drew (.cells cs e (0,0))
    show w.heap.size≤(w.drew.alloc (.cells cs e (0,0))).heap.size
    rw [this];exact Nat.le_succ _
   ·show (w1.heap.modify _ _)[k]?=_
    rw [Array.getElem?_modify,if_neg (show ¬ w.heap.size=k by omega)]
    exact (Wst.alloc w.drew (.cells cs e (0,0))).block k hk (by simp)
  have hfree:Free w2 w.heap.size:=⟨_,_,_,hg2,fun o ho h=>by simp at h;omega⟩
  have hrun:(execOp a.eval o).run E.P w=.ok (.value (.slice (some ⟨w.heap.size,0,none⟩) B.size cap)) w2:=by
   have hch:(choose (.appendCap B.size 0 e)).run E.P w=.ok cap w.drew:=by
    rw [run_choose];rfl
   simp only [execOp,ho,convert,Sem.run_bind,run_underlying' w hda,run_underlying' w hdb,Result.andThen_ok,hxv,run_underlying' w hde,Conv.stringToBytes,hch,newRow,run_newObj,Sem.run_pure]
   rw [show ({ w.drew with heap:=w.drew.heap.push (Obj.cells ((B.data.map fun (b:UInt8)=>Value.int IntKind.u8 b.toNat)++Array.replicate (cap - B.size) (Value.int IntKind.u8 0)) e) }:World)=w1 from rfl,show w.drew.heap.size=w.heap.size from rfl,markStringish_run hg1]
   rfl
  have htake:cs.toList.take (B.data.toList.length*1)=B.data.toList.map fun b=>Value.int .u8 b.toNat:=by
   show (((B.data.map fun (b:UInt8)=>Value.int IntKind.u8 b.toNat)++Array.replicate (cap - B.size) (Value.int IntKind.u8 0)).toList).take _=_
   rw [Array.toList_append,List.take_append_of_le_length (by simp),List.take_of_length_le (by simp)]
   simp
  split at h
  ·rename_i hbe
   cases h
   refine opVal hrun (InvX.put (I.grow hw2) hd ?_)
   have:B.size=0:=by rw [hsz,hbe];rfl
   rw [this]
   exact mkScal (.sle _ _ _ (by simp)) (by simp) (by simp [M.isOwn])
  ·rename_i hbe
   split at h<;>cases h
   have:=newSlice' (m:=.own) (cs:=cs) (rows:=rowsOfBytes B.data.toList) (S:=[]) (sz:=1) (by simpa [M.isOwn] using I) hw2 hg2 hfree (by
    rw [rowsOfBytes_flat,show (rowsOfBytes B.data.toList).length=B.data.toList.length by simp [rowsOfBytes],htake]
    exact byteCells_rep w true _) (.inl rfl) (by omega) (by simp [rowsOfBytes]) cap (by simp only [rowsOfBytes,List.length_map];omega) (by omega) (fun hh=>absurd (by simpa [rowsOfBytes] using hh) hbe) (.f d 1) o.dst hd
   rw [show (rowsOfBytes B.data.toList).length=B.size by rw [hsz];simp [rowsOfBytes]] at this
   refine opVal hrun ?_
   simpa [M.isOwn] using this
 ·rename_i _ e h1 h2
  obtain rfl:=elemOf (ea ▸ h1)
  obtain rfl:=strOf (eb ▸ h2)
  split at h<;>try (cases h;done)
  rename_i ei m xs hei hpk
  obtain ⟨i2,de,ze,hi2,hde,hze,_,_,_,_,g1s,g1b,_,_,ee⟩:=tiOf_spec hei
  split at h<;>cases h
  rename_i bs hk hbs
  obtain rfl:=intOfD (ee ▸ hk)
  obtain ⟨S,g1,g2,_⟩:=I.peek hx hpk
  have g3:=oneRep g1 g2
  obtain ⟨ns,rfl,rfl⟩:=bytesOfRows_spec hbs
  by_cases hne:ns=[]
  ·subst hne
   obtain ⟨p,cap,hv,_,_⟩:=g3.slE
   refine opVal (w':=w) (v:=.string .empty) ?_ (InvX.put I hd (mkFlat (.str _ _) rfl))
   cases p with
   | none=>simp [execOp,ho,convert,run_underlying' w hda,run_underlying' w hdb,run_underlying' w hde,hv,Conv.bytesToString]
   | some p =>
    have:=run_bytesToString (P:=E.P) w p 0 cap [] (by rfl)
    simp only [execOp,ho,convert,Sem.run_bind,run_underlying' w hda,run_underlying' w hdb,Result.andThen_ok,hv,run_underlying' w hde]
    rw [this];rfl
  ·obtain ⟨b,off,cap,cs,T,fr,sz,S0,hv,hS,hb,hsz,hxl,hcap,hsize,hrr⟩:=g3.slCases (by simpa using hne)
   have hsz1:sz=1:=by
    cases ns with
    | nil=>exact absurd rfl hne
    | cons n ns=>exact (hxl [L.int .u8 n] (by simp)).symm
   subst hsz1
   have hcells:=intCells hrr
   simp only [List.length_map,Nat.mul_one] at hcells hcap
   have hl:(loadCells ⟨b,off,none⟩ ns.length).run E.P w=.ok (ns.map (Value.int .u8)).toArray w:=by
    rw [run_loadCells' E.P hb off ns.length (by omega),hcells]
   have hrun:=run_bytesToString (P:=E.P) w ⟨b,off,none⟩ ns.length cap ns hl
   rw [foldl_push_bytes] at hrun
   refine opVal (w':=w) (v:=.string ⟨ByteArray.empty.data++(ns.map fun n=>UInt8.ofNat n.toNat).toArray⟩) ?_ (InvX.put I hd ?_)
   ·simp only [execOp,ho,convert,Sem.run_bind,run_underlying' w hda,run_underlying' w hdb,Result.andThen_ok,hv,run_underlying' w hde,List.length_map]
    rw [hrun];rfl
   ·have:=RepL.str (w:=w) false ⟨ByteArray.empty.data++(ns.map fun n=>UInt8.ofNat n.toNat).toArray⟩
    have e:(ByteArray.empty.data++(ns.map fun n=>UInt8.ofNat n.toNat).toArray).toList=ns.map fun n=>UInt8.ofNat n.toNat:=by
     have he:ByteArray.empty.data=#[]:=rfl
     rw [he];simp
    simp only [e] at this
    exact mkFlat this rfl
 ·cases h
end
end Go.Ev


namespace Go.Ev
section
variable {E:Env} {C:Cf} {s:St} {a:Act} {w:World} {R:Nat→Prop} {loc:Root→Loc} {fp:Root→List Nat} {F:List Nat}
theorem rows_of_ok {sz:Nat} {xs:List (List L)} (h:rowsOk sz xs=true):∀ x∈xs,x.length=sz:=by
 unfold rowsOk at h
 rw [List.all_eq_true] at h
 exact fun x hx=>by simpa using h x hx
theorem flat_of {xs:List (List L)} (h:flatRows xs=true):xs.flatten.all L.flat=true:=by
 unfold flatRows at h
 rw [List.all_eq_true] at h ⊢
 intro l hl
 obtain ⟨r,hr,hlr⟩:=List.mem_flatten.1 hl
 exact List.all_eq_true.1 (h r hr) l hlr
structure Src (C:Cf) (s:St) (a:Act) (w:World) (R0:Nat→Prop) (F0:List Nat) (v:Value) (m:M) (ys:List (List L)) (P:Program) (sz:Nat) where
 R:Nat→Prop
 loc:Root→Loc
 fp:Root→List Nat
 S:List Nat
 vs:List Value
 inv:Inv C s a w R loc fp (F0++(if m.isOwn then S else []))
 rep:RepLs w m.isOwn vs ys.flatten S
 al:m.isOwn=true∨∀ b∈S,Al R C.B m b
 mono:∀ b,R0 b→R b
 len:(Builtin.lenOf v).run P w=.ok ys.length w
 first:∀ w',(∀ b,b<w.heap.size→w'.heap[b]?=w.heap[b]?)→(Builtin.firstCells sz ys.length v).run P w'=.ok ⟨vs⟩ w'
theorem firstCells_of {P:Program} {w:World} {o:Bool} {v:Value} {ys:List (List L)} {S:List Nat} {sz:Nat} (h:RepL w o v (.sl ys) S) (hsz:∀ y∈ys,y.length=sz) :
  ∃ vs S',RepLs w o vs ys.flatten S'∧(∀ b∈S',b∈S)∧(S.Nodup→S'.Nodup)∧(Builtin.lenOf v).run P w=.ok ys.length w∧∀ w',(∀ b,b<w.heap.size→w'.heap[b]?=w.heap[b]?)→(Builtin.firstCells sz ys.length v).run P w'=.ok ⟨vs⟩ w':=by
 by_cases hne:ys=[]
 ·subst hne
  obtain ⟨p,cap,rfl,_,_⟩:=h.slE
  refine ⟨[],[],.nil _,by simp,fun _=>by simp,by simp [Builtin.lenOf],fun w' _=>?_⟩
  cases p with
  | none=>simp [Builtin.firstCells]
  | some p=>simp [Builtin.firstCells,loadCells,loadCellsFrom]
 ·obtain ⟨b,off,cap,cs,T,fr,sz',S0,rfl,rfl,hb,hsz',hxl,hcap,hsize,hrr⟩:=h.slCases hne
  have hszz:sz'=sz:=by
   cases ys with
   | nil=>exact absurd rfl hne
   | cons r rs=>rw [← hxl r (by simp)];exact hsz r (by simp)
  subst hszz
  have hcm:ys.length*sz'≤cap*sz':=Nat.mul_le_mul_right _ hcap
  refine ⟨_,S0,hrr,fun c hc=>by simp [hc],fun hn=>(List.nodup_cons.1 hn).2,by simp [Builtin.lenOf],fun w' hs=>?_⟩
  have hb':w'.heap[b]?=some (.cells cs T fr):=(hs b (Array.getElem?_eq_some_iff.1 hb).1).trans hb
  simp only [Builtin.firstCells]
  exact run_loadCells' P hb' off _ (by omega)
theorem src_ok (gk:GlobOk E C) {R0:Nat→Prop} {F0:List Nat} {s1 s2:St} (I:Inv C s1 a w R0 loc fp F0) (y:Operand) {m:M} {ys:List (List L)} {sz:Nat} (h:srcRows s1 (opnd E s1 y)=some (m,ys,s2)) (hsz:∀ r∈ys,r.length=sz) (hs1:0<sz):Nonempty (Src C s2 a w R0 F0 (a.eval y) m ys E.P sz):=by
 have hy:=opnd_rep gk I y
 unfold srcRows at h
 split at h
 ·rename_i m0 bs hq
  rw [hq] at hy
  cases h
  obtain ⟨S,g1,_⟩:=scal hy
  obtain ⟨B,hv,rfl,hB⟩:=repStr g1
  refine ⟨{ R:=R0,loc,fp,S:=[],vs:=B.data.toList.map fun b=>Value.int .u8 b.toNat,inv:=by simpa [M.isOwn] using I,rep:=by rw [rowsOfBytes_flat];exact byteCells_rep w _ _,al:=.inl rfl,mono:=fun _ h=>h,len:=?_,first:=fun w' _=>?_ }⟩
  ·have e:(rowsOfBytes B.data.toList).length=B.size:=by rw [hB];simp only [rowsOfBytes,List.length_map]
   rw [hv,e];simp [Builtin.lenOf]
  ·rw [hv]
   have e:(rowsOfBytes B.data.toList).length=B.size:=by rw [hB];simp only [rowsOfBytes,List.length_map]
   have e2:(B.extract 0 B.size).data=B.data:=by
    apply Array.ext'
    rw [extract_list,List.drop_zero,List.take_of_length_le (by rw [hB];simp)]
   have e3:(B.data.map fun b=>Value.int .u8 b.toNat)=⟨B.data.toList.map fun b=>Value.int .u8 b.toNat⟩:=by
    apply Array.ext'
    simp
   rw [e]
   simp only [Builtin.firstCells,e2]
   rw [← e3]
   rfl
 ·split at h<;>try (cases h;done)
  rename_i hns m0 ys0 hpk
  split at h
  ·rename_i hf
   cases h
   obtain ⟨S,g1,g2,g3⟩:=I.peek hy hpk
   have g4:=oneRep g1 g2
   obtain ⟨vs,S',hr,_,_,hlen,hfirst⟩:=firstCells_of (P:=E.P) g4 hsz
   exact ⟨{ R:=R0,loc,fp,S:=[],vs,inv:=by simpa [M.isOwn] using I,rep:=hr.flatAny (flat_of hf) w _,al:=.inl rfl,mono:=fun _ h=>h,len:=hlen,first:=hfirst }⟩
  ·split at h<;>cases h
   rename_i he
   obtain ⟨tk⟩:=I.embed hy he
   have g4:=oneRep tk.rep tk.agg
   obtain ⟨vs,S',hr,hsub,hnd,hlen,hfirst⟩:=firstCells_of (P:=E.P) g4 hsz
   refine ⟨{ R:=tk.R',loc:=tk.loc',fp:=tk.fp',S:=S',vs,inv:=?_,rep:=hr,al:=tk.al.imp id fun h b hb=>h b (hsub b hb),mono:=tk.mono,len:=hlen,first:=hfirst }⟩
   have J:=tk.inv
   cases hm:m.isOwn with
   | false=>simpa [hm] using J
   | true =>
    simp only [hm,if_true] at J ⊢
    refine J.drop _ (fun b hb=>?_) ?_
    ·rcases List.mem_append.1 hb with hb | hb
     ·exact List.mem_append.2 (.inl hb)
     ·exact List.mem_append.2 (.inr (hsub b hb))
    ·have:=List.nodup_append.1 J.fnd
     exact List.nodup_append.2 ⟨this.1,hnd this.2.1,fun b hb c hc=>this.2.2 b hb c (hsub c hc)⟩
end
end Go.Ev

