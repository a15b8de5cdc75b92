/- For BifCalls. -/
import Derived.Test.YtaielgjmhbjfhaaGreatDoorAmCore
set_option linter.unusedVariables false
namespace Go.AM
def tA:Value→Option AV
 |.bool b=>some (.bool b)
 |.int k n=>some (.int k n)
 |.string s=>some (.str s.data.toList)
 |.pointer none=>some .gC
 |.slice none 0 0=>some .ax
 |.map none=>some .qt
 |.nilFunc=>some .qk
 |.nilIface=>some .bL
 |_=>none
def Ff:Value→Option AV
 |.agg cs=>(cs.toList.mapM tA).map .agg
 |v=>tA v
def cC:Operand→Option eN
 |.tmp t=>some (.t t)
 |.const v=>(Ff v).map .c
 |.global g=>some (.g g)
 |.func f=>some (.c (.fn (.func f) [] []))
def wT (l:Array Operand):Option (List eN):=l.toList.mapM cC
def m_:Option Operand→Option (Option eN)
 |none=>some none
 |some x=>(cC x).map some
section
variable (P : Program)
def cZ (t:TypeId):Option Nat:=(P.info? t).map (·.size)
def pg (t:TypeId):Option Nat:=(P.info? t).map (·.bytes)
def sT (t:TypeId):Option Bool:=
 match P.underlying t with
 |some (.struct _)|some (.array ..)=>some true
 |some _=>some false
 |none=>none
def kC (t:TypeId):Option (List AV):=do
 let i←P.info? t
 let z←i.zero
 z.cells.toList.mapM tA
def gA (lit:Bool):TypeDesc→Option Le
 |.bool=>some .bool
 |.int _=>some .int
 |.string=>some .str
 |.pointer _=>some .ptr
 |.slice _=>some .slice
 |.map .. =>some .map
 |.func .. =>some .func
 |.interface _=>some (.iface lit)
 |_=>none
def eqFields:List Field→Option (List (Nat×Nat×Bool×Le))
 |[]=>some []
 |f::fs=>do
  if f.name= "_" then none else
  let d←P.underlying f.type
  let e←gA false d
  let rest←eqFields fs
  pure ((f.offset,1,false,e)::rest)
def abq (t:TypeId) (lit:Bool):Option Le:=do
 match←P.underlying t with
 |.struct fs=>if P.stoodInHeld t||P.eqGuardType P.depth t then none else(eqFields P fs.toList).map .struct
 |d=>gA lit d
def isLit:Operand→Bool
 |.const _=>true
 |_=>false
def UY:BinOp→Bool
 |.neq=>true
 |_=>false
def isMax:Builtin→Bool
 |.max=>true
 |_=>false
def UX (op:BinOp) (t:TypeId) (x y:Operand):Option jo:=do
 let a←cC x
 let b←cC y
 match op with
 |.eql|.neq=>
  match←P.underlying t with
  |.int _|.string=>pure (.bin op a b)
  |_=>pure (.eq (UY op) (←abq P t (isLit x||isLit y)) a b)
 |_=>pure (.bin op a b)
def E_ (src dst:TypeId):Option CvT:=do
 match←P.underlying src,←P.underlying dst with
 |.int _,.int k=>pure (.int k)
 |.int _,.string=>pure .rune
 |.string,.string=>pure .same
 |.string,.slice e=>
  match←P.underlying e with
  |.int .u8=>pure .Ui
  |.int .i32=>pure .s2r
  |_=>none
 |.slice e,.string=>
  match←P.underlying e with
  |.int .u8=>pure .Ld
  |.int .i32=>pure .r2s
  |_=>none
 |.slice _,.slice e=>
  match←P.underlying e with
  |.int .u8=>if src=dst then pure .b2b else none
  |_=>none
 |_,_=>none
def ph (place:Nat→Option (Nat×Nat)):List (Nat×Operand)→Option (List (Nat×Nat×eN))
 |[]=>some []
 |(i,x)::r=>do
  let (off,sz)←place i
  let a←cC x
  let l←ph place r
  pure ((off,sz,a)::l)
def kD:List Field→Option (List (Nat×Nat))
 |[]=>some []
 |f::fs=>do
  let s←cZ P f.type
  let r←kD fs
  pure ((f.offset,s)::r)
def uR (t:TypeId) (parts:Array (Nat×Operand)):Option jo:=do
 let zero←kC P t
 match←P.underlying t with
 |.struct fields=>
  let places←kD P fields.toList
  pure (.build zero (←ph (places[·]?) parts.toList))
 |.array _ e=>
  let s←cZ P e
  pure (.build zero (←ph (fun i=>some (i*s,s)) parts.toList))
 |_=>none
def It (fr:Bool) (t:TypeId) (len:Nat) (parts:Array (Nat×Operand)):Option jo:=
 match P.underlying t with
 |some (.slice e)=>(cZ P e).bind fun s=>
  if len*s>2^24 then none else
  (if len*s=0 then some []else kC P e).bind fun zero=>
  if len*s≠0∧zero.length≠s then none else
  (ph (fun i=>some (i*s,s)) parts.toList).map fun ps=>.lit fr s len (List.replicate len zero).flatten ps
 |_=>none
def Fa (t:TypeId) (x:Operand) (lo hi mx:Option Operand):Option jo:=do
 let a←cC x
 let l←m_ lo
 let h←m_ hi
 let m←m_ mx
 match←P.underlying t with
 |.string=>match m with|none=>pure (.ey a l h)|some _=>none
 |.slice e=>pure (.slice (←cZ P e) a l h m)
 |.array n e=>pure (.hM (←cZ P e) n a l h m)
 |.pointer arr=>
  match←P.underlying arr with
  |.array n e=>pure (.hM (←cZ P e) n a l h m)
  |_=>none
 |_=>none
def sg (t:TypeId) (f:Nat):Option Field:=do
 match←P.underlying t with
 |.struct fields=>fields[f]?
 |_=>none
def jO (b:Builtin) (types:Array TypeId) (args:Array Operand):Option jo:=do
 match b with
 |.len=>
  let x←args[0]?
  let a←cC x
  match←P.underlying (←types[0]?)with
  |.string=>if args.size=1 then pure (.len true a)else none
  |.slice _=>if args.size=1 then pure (.len false a)else none
  |.array n _=>if args.size=1 then pure (.mv (.c (.int .i64 n)))else none
  |_=>none
 |.append=>
  if args.size≠2∨types.size≠2 then none else
  let a←cC (←args[0]?)
  let b←cC (←args[1]?)
  match←P.underlying (←types[0]?),←P.underlying (←types[1]?)with
  |.slice e,.slice e' =>if e=e' ∧(kC P e).map List.length=cZ P e then pure (.append (←cZ P e) (←pg P e) a b)else none
  |.slice e,.string=>if(kC P e).map List.length=cZ P e then pure (.append (←cZ P e) (←pg P e) a b)else none
  |.slice e,.int .i64=>pure (.kU (←cZ P e) (←pg P e) (←kC P e) a b)
  |_,_=>none
 |.cap=>
  if args.size≠1 then none else
  let a←cC (←args[0]?)
  match←P.underlying (←types[0]?)with
  |.slice _=>pure (.cap a)
  |_=>none
 |.clear=>
  if args.size≠1 then none else
  let a←cC (←args[0]?)
  match←P.underlying (←types[0]?)with
  |.slice e=>pure (.clear (←cZ P e) (←kC P e) a)
  |_=>none
 |.copy=>
  if args.size≠2 then none else
  let a←cC (←args[0]?)
  let b←cC (←args[1]?)
  match←P.underlying (←types[0]?)with
  |.slice e=>pure (.copy (←cZ P e) a b)
  |_=>none
 |.max|.min=>
  if args.size≠2 then none else
  pure (.iF (isMax b) (←cC (←args[0]?)) (←cC (←args[1]?)))
 |.panic=>if args.size≠1 then none else pure (.panic (←cC (←args[0]?)))
 |_=>none
def wU (c:Call):Option jo:=do
 match c.callee with
 |.builtin b=>jO P b c.argTypes c.args
 |.value (.func f)=>pure (.call f (←wT c.args))
 |.value v=>pure (.kr (←cC v) (←wT c.args))
 |.invoke .. =>none
def Ah (fr:Bool) (o:Op):Option jo:=do
 match o with
 |.move x|.assign x=>pure (.mv (←cC x))
 |.pick c a b=>pure (.pick (←cC c) (←cC a) (←cC b))
 |.alloc e=>pure (.alloc (←kC P e))
 |.box e x=>pure (.box fr (←cZ P e) (←cC x))
 |.build t parts=>uR P t parts
 |.buildSlice t len parts=>It P fr t len parts
 |.load t a=>pure (.load (←sT P t) (←cZ P t) (←cC a))
 |.store t a x=>pure (.store (←cZ P t) (←cC a) (←cC x))
 |.nilCheck x=>pure (.nilCheck (←cC x))
 |.binOp op t x y _=>UX P op t x y
 |.unOp op _ x=>pure (.un op (←cC x))
 |.convert s d x=>pure (.conv (←E_ P s d) (←cC x))
 |.makeInterface t x=>
  match←P.underlying t with
  |.interface _=>none
  |_=>pure (.dU t (←cC x))
 |.makeFunc f a b=>pure (.lC f (←wT a) (←wT b))
 |.range t x=>
  match←P.underlying t with
  |.string=>pure (.range (←cC x))
  |_=>none
 |.next x isStr=>
  match isStr with
  |true=>pure (.next (←cC x))
  |false=>none
 |.makeSlice t l c=>
  match←P.underlying t with
  |.slice e=>pure (.makeSlice (←cZ P e) (←pg P e) (←kC P e) (←cC l) (←cC c))
  |_=>none
 |.slice t x lo hi mx=>Fa P t x lo hi mx
 |.fieldAddr t x f=>
  let f←sg P t f
  if(←cZ P f.type)=0 then none else pure (.fieldAddr f.offset (←cC x))
 |.field t x f=>
  let f←sg P t f
  pure (.field (←sT P f.type) (←cZ P f.type) f.offset (←cC x))
 |.indexAddr t x i=>
  match←P.underlying t with
  |.slice e=>pure (.cL (←cZ P e) (←cC x) (←cC i))
  |.array n e=>pure (.eC (←cZ P e) n (←cC x) (←cC i))
  |_=>none
 |.index t x i=>
  match←P.underlying t with
  |.string=>pure (.dD (←cC x) (←cC i))
  |.array n e=>pure (.o5 (←sT P e) (←cZ P e) n (←cC x) (←cC i))
  |_=>none
 |.extract x i=>pure (.extract (←cC x) i)
 |.call c=>wU P c
 |.panic x=>pure (.panic (←cC x))
 |_=>none
def kX (ops:Array Oper):Option (Nat×Bool)→Option (Option (Nat×Bool))
 |none=>some none
 |some (j,want)=>((ops[j]?).bind (·.dst)).map fun d=>some (d,want)
def agQ (ops:Array Oper) (d:Nat):Bool:=
 ops.toList.any fun o=>match o.op with
  |.convert s t (.tmp u)=>s==t&&u==d
  |_=>false
def still (fz:TypeId→Bool) (aA:Nat→Bool) (ops:Array Oper) (o:Oper):Bool:=
 match o.op with
 |.box e _=>fz e&&(match o.dst with
  |some d=> !(aA d)
  |none=>true)
 |.buildSlice .. =>match o.dst with
  |some d=> !(agQ ops d)&& !(aA d)
  |none=>true
 |_=>false
def bG (n:Nat) (fz:TypeId→Bool) (aA:Nat→Bool) (ops:Array Oper) (o:Oper):aH:=
 match kX ops o.guard,(match o.dst with|some d=>Nat.blt d n|none=>true)with
 |some g,true=>{dst:=o.dst,op:=(Ah P (still fz aA ops o) o.op).getD .bad,guard:=g}
 |_,_=>{dst:=none,op:=.bad,guard:=none}
def pd (ops:Array Oper) (l:List aH) (before:List Nat):Bool:=
 rV 0 l before&&(ops.toList.zipIdx.all fun(o,i)=>o.after.toList.all fun e=> !Region.binds .any e||Nat.blt e.on i)
def fE (n:Nat) (fz:TypeId→Bool) (aA:Nat→Bool):Code→AC
 |.skip=>.skip
 |.region _ ops false=>.ops (ops.toList.map (bG P n fz aA ops))
 |.region _ ops true=>
  match pd ops (ops.toList.map (bG P n fz aA ops)) (Region.before ops).toList with
  |true=>.draw (ops.toList.map (bG P n fz aA ops)) (Region.before ops).toList
  |false=>.bad
 |.seq a b=>.seq (fE n fz aA a) (fE n fz aA b)
 |.cond c x y=>match cC c with
  |some c=>.cond c (fE n fz aA x) (fE n fz aA y)
  |none=>.bad
 |.block id b=>.block id (fE n fz aA b)
 |.loop b=>.loop (fE n fz aA b)
 |.exit id=>.exit id
 |.scope b=>.scope (fE n fz aA b)
 |.label _=>.skip
 |.ret=>.ret
 |_=>.bad
def Qg:ResultVar→Option ET
 |.tmp t=>some (.tmp t)
 |.cell a t=>do pure (.cell a (←sT P t) (←cZ P t))
def aJ (fz:TypeId→Bool) (aA:Nat→Bool) (fn:Func):Option aS:=do
 let body←fn.body
 if fn.name= "runtime.NumGoroutine" then none else
 pure {results:=←fn.results.toList.mapM (Qg P),body:=fE P fn.ntmps fz aA body}
end
end Go.AM
