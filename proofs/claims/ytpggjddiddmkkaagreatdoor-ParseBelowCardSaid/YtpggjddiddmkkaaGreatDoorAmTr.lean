/-
  THE ABSTRACT MACHINE: a function of the model, turned into the machine's own code. What is not turned is 'bad': the machine has no answer there.
-/
import Derived.Test.YtpggjddiddmkkaaGreatDoorAmCore
set_option linter.unusedSimpArgs false
set_option linter.unusedVariables false
namespace Go.AM
def cellAV : Value → Option AV
  | .bool b => some (.bool b)
  | .int k n => some (.int k n)
  | .string s => some (.str s.data.toList)
  | .pointer none => some .nilp
  | .slice none 0 0 => some .nils
  | .map none => some .nilm
  | .nilFunc => some .nilf
  | .nilIface => some .nili
  | _ => none
def constAV : Value → Option AV
  | .agg cs => (cs.toList.mapM cellAV).map .agg
  | v => cellAV v
def trOpd : Operand → Option Opd
  | .tmp t => some (.t t)
  | .const v => (constAV v).map .c
  | .global g => some (.g g)
  | .func f => some (.c (.fn (.func f) [] []))
def trOpds (l : Array Operand) : Option (List Opd) := l.toList.mapM trOpd
def trOpdo : Option Operand → Option (Option Opd)
  | none => some none
  | some x => (trOpd x).map some
section
variable (P : Program)
def tSize (t : TypeId) : Option Nat := (P.info? t).map (·.size)
def tBytes (t : TypeId) : Option Nat := (P.info? t).map (·.bytes)
def tAgg (t : TypeId) : Option Bool :=
  match P.underlying t with
  | some (.struct _) | some (.array ..) => some true
  | some _ => some false
  | none => none
def tZero (t : TypeId) : Option (List AV) := do
  let i ← P.info? t
  let z ← i.zero
  z.cells.toList.mapM cellAV
def eqScalar (lit : Bool) : TypeDesc → Option EqT
  | .bool => some .bool
  | .int _ => some .int
  | .string => some .str
  | .pointer _ => some .ptr
  | .slice _ => some .slice
  | .map .. => some .map
  | .func .. => some .func
  | .interface _ => some (.iface lit)
  | _ => none
def eqFields : List Field → Option (List (Nat × Nat × Bool × EqT))
  | [] => some []
  | f :: fs => do
    if f.name = "_" then none else
    let d ← P.underlying f.type
    let e ← eqScalar false d
    let rest ← eqFields fs
    pure ((f.offset, 1, false, e) :: rest)
def trEq (t : TypeId) (lit : Bool) : Option EqT := do
  match ← P.underlying t with
  | .struct fs => if P.stoodInHeld t || P.eqGuardType P.depth t then none else (eqFields P fs.toList).map .struct
  | d => eqScalar lit d
def isLit : Operand → Bool
  | .const _ => true
  | _ => false
def isNeq : BinOp → Bool
  | .neq => true
  | _ => false
def isMax : Builtin → Bool
  | .max => true
  | _ => false
def trBin (op : BinOp) (t : TypeId) (x y : Operand) : Option AOp := do
  let a ← trOpd x
  let b ← trOpd y
  match op with
  | .eql | .neq =>
    match ← P.underlying t with
    | .int _ | .string => pure (.bin op a b)
    | _ => pure (.eq (isNeq op) (← trEq P t (isLit x || isLit y)) a b)
  | _ => pure (.bin op a b)
def trConv (src dst : TypeId) : Option CvT := do
  match ← P.underlying src, ← P.underlying dst with
  | .int _, .int k => pure (.int k)
  | .int _, .string => pure .rune
  | .string, .string => pure .same
  | .string, .slice e =>
    match ← P.underlying e with
    | .int .u8 => pure .s2b
    | .int .i32 => pure .s2r
    | _ => none
  | .slice e, .string =>
    match ← P.underlying e with
    | .int .u8 => pure .b2s
    | .int .i32 => pure .r2s
    | _ => none
  | .slice _, .slice e =>
    match ← P.underlying e with
    | .int .u8 => if src = dst then pure .b2b else none
    | _ => none
  | _, _ => none
def trParts (place : Nat → Option (Nat × Nat)) : List (Nat × Operand) → Option (List (Nat × Nat × Opd))
  | [] => some []
  | (i, x) :: r => do
    let (off, sz) ← place i
    let a ← trOpd x
    let l ← trParts place r
    pure ((off, sz, a) :: l)
def fieldPlaces : List Field → Option (List (Nat × Nat))
  | [] => some []
  | f :: fs => do
    let s ← tSize P f.type
    let r ← fieldPlaces fs
    pure ((f.offset, s) :: r)
def trBuild (t : TypeId) (parts : Array (Nat × Operand)) : Option AOp := do
  let zero ← tZero P t
  match ← P.underlying t with
  | .struct fields =>
    let places ← fieldPlaces P fields.toList
    pure (.build zero (← trParts (places[·]?) parts.toList))
  | .array _ e =>
    let s ← tSize P e
    pure (.build zero (← trParts (fun i => some (i * s, s)) parts.toList))
  | _ => none
def trLit (fr : Bool) (t : TypeId) (len : Nat) (parts : Array (Nat × Operand)) : Option AOp :=
  match P.underlying t with
  | some (.slice e) => (tSize P e).bind fun s =>
    if len * s > 2 ^ 24 then none else
    (if len * s = 0 then some [] else tZero P e).bind fun zero =>
    if len * s ≠ 0 ∧ zero.length ≠ s then none else
    (trParts (fun i => some (i * s, s)) parts.toList).map fun ps => .lit fr s len (List.replicate len zero).flatten ps
  | _ => none
def trSlice (t : TypeId) (x : Operand) (lo hi mx : Option Operand) : Option AOp := do
  let a ← trOpd x
  let l ← trOpdo lo
  let h ← trOpdo hi
  let m ← trOpdo mx
  match ← P.underlying t with
  | .string => match m with | none => pure (.sliceStr a l h) | some _ => none
  | .slice e => pure (.slice (← tSize P e) a l h m)
  | .array n e => pure (.sliceArr (← tSize P e) n a l h m)
  | .pointer arr =>
    match ← P.underlying arr with
    | .array n e => pure (.sliceArr (← tSize P e) n a l h m)
    | _ => none
  | _ => none
def trField (t : TypeId) (f : Nat) : Option Field := do
  match ← P.underlying t with
  | .struct fields => fields[f]?
  | _ => none
def trBuiltin (b : Builtin) (types : Array TypeId) (args : Array Operand) : Option AOp := do
  match b with
  | .len =>
    let x ← args[0]?
    let a ← trOpd x
    match ← P.underlying (← types[0]?) with
    | .string => if args.size = 1 then pure (.len true a) else none
    | .slice _ => if args.size = 1 then pure (.len false a) else none
    | .array n _ => if args.size = 1 then pure (.mv (.c (.int .i64 n))) else none
    | _ => none
  | .append =>
    if args.size ≠ 2 ∨ types.size ≠ 2 then none else
    let a ← trOpd (← args[0]?)
    let b ← trOpd (← args[1]?)
    match ← P.underlying (← types[0]?), ← P.underlying (← types[1]?) with
    | .slice e, .slice e' => if e = e' ∧ (tZero P e).map List.length = tSize P e then pure (.append (← tSize P e) (← tBytes P e) a b) else none
    | .slice e, .string => if (tZero P e).map List.length = tSize P e then pure (.append (← tSize P e) (← tBytes P e) a b) else none
    | .slice e, .int .i64 => pure (.appendZ (← tSize P e) (← tBytes P e) (← tZero P e) a b)
    | _, _ => none
  | .cap =>
    if args.size ≠ 1 then none else
    let a ← trOpd (← args[0]?)
    match ← P.underlying (← types[0]?) with
    | .slice _ => pure (.cap a)
    | _ => none
  | .clear =>
    if args.size ≠ 1 then none else
    let a ← trOpd (← args[0]?)
    match ← P.underlying (← types[0]?) with
    | .slice e => pure (.clear (← tSize P e) (← tZero P e) a)
    | _ => none
  | .copy =>
    if args.size ≠ 2 then none else
    let a ← trOpd (← args[0]?)
    let b ← trOpd (← args[1]?)
    match ← P.underlying (← types[0]?) with
    | .slice e => pure (.copy (← tSize P e) a b)
    | _ => none
  | .max | .min =>
    if args.size ≠ 2 then none else
    pure (.minmax (isMax b) (← trOpd (← args[0]?)) (← trOpd (← args[1]?)))
  | .panic => if args.size ≠ 1 then none else pure (.panic (← trOpd (← args[0]?)))
  | _ => none
def trCall (c : Call) : Option AOp := do
  match c.callee with
  | .builtin b => trBuiltin P b c.argTypes c.args
  | .value (.func f) => pure (.call f (← trOpds c.args))
  | .value v => pure (.callv (← trOpd v) (← trOpds c.args))
  | .invoke .. => none
/-- 'fr': is what this operation lays in memory never written? -/
def trOp (fr : Bool) (o : Op) : Option AOp := do
  match o with
  | .move x | .assign x => pure (.mv (← trOpd x))
  | .pick c a b => pure (.pick (← trOpd c) (← trOpd a) (← trOpd b))
  | .alloc e => pure (.alloc (← tZero P e))
  | .box e x => pure (.box fr (← tSize P e) (← trOpd x))
  | .build t parts => trBuild P t parts
  | .buildSlice t len parts => trLit P fr t len parts
  | .load t a => pure (.load (← tAgg P t) (← tSize P t) (← trOpd a))
  | .store t a x => pure (.store (← tSize P t) (← trOpd a) (← trOpd x))
  | .nilCheck x => pure (.nilCheck (← trOpd x))
  | .binOp op t x y _ => trBin P op t x y
  | .unOp op _ x => pure (.un op (← trOpd x))
  | .convert s d x => pure (.conv (← trConv P s d) (← trOpd x))
  | .makeInterface t x =>
    match ← P.underlying t with
    | .interface _ => none
    | _ => pure (.mkIface t (← trOpd x))
  | .makeFunc f a b => pure (.mkFunc f (← trOpds a) (← trOpds b))
  | .range t x =>
    match ← P.underlying t with
    | .string => pure (.range (← trOpd x))
    | _ => none
  | .next x isStr =>
    match isStr with
    | true => pure (.next (← trOpd x))
    | false => none
  | .makeSlice t l c =>
    match ← P.underlying t with
    | .slice e => pure (.makeSlice (← tSize P e) (← tBytes P e) (← tZero P e) (← trOpd l) (← trOpd c))
    | _ => none
  | .slice t x lo hi mx => trSlice P t x lo hi mx
  | .fieldAddr t x f =>
    let f ← trField P t f
    if (← tSize P f.type) = 0 then none else pure (.fieldAddr f.offset (← trOpd x))
  | .field t x f =>
    let f ← trField P t f
    pure (.field (← tAgg P f.type) (← tSize P f.type) f.offset (← trOpd x))
  | .indexAddr t x i =>
    match ← P.underlying t with
    | .slice e => pure (.idxAddr (← tSize P e) (← trOpd x) (← trOpd i))
    | .array n e => pure (.idxAddrArr (← tSize P e) n (← trOpd x) (← trOpd i))
    | _ => none
  | .index t x i =>
    match ← P.underlying t with
    | .string => pure (.idxStr (← trOpd x) (← trOpd i))
    | .array n e => pure (.idxArr (← tAgg P e) (← tSize P e) n (← trOpd x) (← trOpd i))
    | _ => none
  | .extract x i => pure (.extract (← trOpd x) i)
  | .call c => trCall P c
  | .panic x => pure (.panic (← trOpd x))
  | _ => none
def trGuard (ops : Array Oper) : Option (Nat × Bool) → Option (Option (Nat × Bool))
  | none => some none
  | some (j, want) => ((ops[j]?).bind (·.dst)).map fun d => some (d, want)
/-- Is this slot's slice turned into a slice of bytes by the same statement? -/
def turned (ops : Array Oper) (d : Nat) : Bool :=
  ops.toList.any fun o => match o.op with
    | .convert s t (.tmp u) => s == t && u == d
    | _ => false
/-- What is laid by this operation: is it never written later? 'fz': the types of such boxes; 'thaw': the slots of literals that are written. -/
def still (fz : TypeId → Bool) (thaw : Nat → Bool) (ops : Array Oper) (o : Oper) : Bool :=
  match o.op with
  | .box e _ => fz e && (match o.dst with
    | some d => !(thaw d)
    | none => true)
  | .buildSlice .. => match o.dst with
    | some d => !(turned ops d) && !(thaw d)
    | none => true
  | _ => false
/-- 'n': how many slots there are. -/
def trOper (n : Nat) (fz : TypeId → Bool) (thaw : Nat → Bool) (ops : Array Oper) (o : Oper) : AOper :=
  match trGuard ops o.guard, (match o.dst with | some d => Nat.blt d n | none => true) with
  | some g, true => { dst := o.dst, op := (trOp P (still fz thaw ops o) o.op).getD .bad, guard := g }
  | _, _ => { dst := none, op := .bad, guard := none }
/-- What the order of a region's operations must leave alone: each names what was written ahead of it; each edge leads back. -/
def drawStatic (ops : Array Oper) (l : List AOper) (before : List Nat) : Bool :=
  staticAll 0 l before && (ops.toList.zipIdx.all fun (o, i) => o.after.toList.all fun e => !Region.binds .any e || Nat.blt e.on i)
def trCode (n : Nat) (fz : TypeId → Bool) (thaw : Nat → Bool) : Code → AC
  | .skip => .skip
  | .region _ ops false => .ops (ops.toList.map (trOper P n fz thaw ops))
  | .region _ ops true =>
    match drawStatic ops (ops.toList.map (trOper P n fz thaw ops)) (Region.before ops).toList with
    | true => .draw (ops.toList.map (trOper P n fz thaw ops)) (Region.before ops).toList
    | false => .bad
  | .seq a b => .seq (trCode n fz thaw a) (trCode n fz thaw b)
  | .cond c x y => match trOpd c with
    | some c => .cond c (trCode n fz thaw x) (trCode n fz thaw y)
    | none => .bad
  | .block id b => .block id (trCode n fz thaw b)
  | .loop b => .loop (trCode n fz thaw b)
  | .exit id => .exit id
  | .scope b => .scope (trCode n fz thaw b)
  | .label _ => .skip
  | .ret => .ret
  | _ => .bad
def trRes : ResultVar → Option ARes
  | .tmp t => some (.tmp t)
  | .cell a t => do pure (.cell a (← tAgg P t) (← tSize P t))
def trFunc (fz : TypeId → Bool) (thaw : Nat → Bool) (fn : Func) : Option AFunc := do
  let body ← fn.body
  if fn.name = "runtime.NumGoroutine" then none else
  pure { results := ← fn.results.toList.mapM (trRes P), body := trCode P fn.ntmps fz thaw body }
def trD (n : Nat) (fz : TypeId → Bool) (thaw : Nat → Bool) : Code → AD
  | .seq a b => .seq (trD n fz thaw a) (trD n fz thaw b)
  | .region id ops false => match ops.toList.getLast? with
    | some o => match o.op, o.dst, o.guard with
      | .defer c, none, none => match c.callee with
        | .value v => match trOpd v, trOpds c.args with
          | some f, some xs => .dfr (ops.toList.dropLast.map (trOper P n fz thaw ops)) f xs
          | _, _ => .code .bad
        | _ => .code .bad
      | _, _, _ => .code (trCode P n fz thaw (.region id ops false))
    | none => .code (trCode P n fz thaw (.region id ops false))
  | c => .code (trCode P n fz thaw c)
def trDFunc (fz : TypeId → Bool) (thaw : Nat → Bool) (fn : Func) : Option DFunc := do
  let body ← fn.body
  if fn.name = "runtime.NumGoroutine" then none else
  pure { results := ← fn.results.toList.mapM (trRes P), body := trD P fn.ntmps fz thaw body }
/-- is this operation the call of recover? -/
def isRecover (o : Oper) : Bool := match o.op, o.guard with
  | .call c, none => (match c.callee with | .builtin .recover => true | _ => false) && c.args.isEmpty
  | _, _ => false
def dstOk (n : Nat) : Option Nat → Bool
  | some d => Nat.blt d n
  | none => true
def trRFunc (fz : TypeId → Bool) (thaw : Nat → Bool) (fn : Func) : Option RFunc := do
  let body ← fn.body
  if fn.name = "runtime.NumGoroutine" ∨ fn.results.size ≠ 0 then none else
  match body with
  | .seq (.region _ ops false) rest =>
    let k := ops.toList.findIdx isRecover
    let o ← ops[k]?
    if isRecover o && dstOk fn.ntmps o.dst then
      pure { ops1 := (ops.toList.take k).map (trOper P fn.ntmps fz thaw ops), dst := o.dst, ops2 := (ops.toList.drop (k + 1)).map (trOper P fn.ntmps fz thaw ops), rest := trCode P fn.ntmps fz thaw rest }
    else none
  | _ => none
end
end Go.AM
