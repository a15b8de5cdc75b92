/-
  THE ABSTRACT MACHINE: an executable deterministic interpreter of a cut of the model's code, over values without addresses.
  What is immutable is carried by its content ('fp', 'fs'); what is written lies in a heap of numbered objects, each with a generation that an append moves on.
  Nothing here speaks of the model's worlds; AmSim says what an answer of this machine is worth.
-/
import GoSem.Core.Code
import GoSem.Core.Lib
import GoSem.Core.Utf8
import GoSem.Op.String
import GoSem.Op.IntArith
import GoSem.Dispatch
set_option linter.unusedSimpArgs false
set_option linter.unusedVariables false
namespace Go.AM
inductive AV where
  | bool (b : Bool)
  | int (k : IntKind) (n : Int)
  | str (s : List UInt8)
  | nilp | nils | nilm | nilf | nili
  | ptr (id gen off : Nat)
  | sl (id gen off sz len : Nat) (cap : Option Nat)
  | fp (cells : List AV)
  | fs (full : Bool) (len : Nat) (cells : List AV)
  | fn (f : Fn) (first captured : List AV)
  | ifc (t : TypeId) (v : AV)
  | agg (cells : List AV)
  | tup (vs : List AV)
  | itr (k : Nat)
instance : Inhabited AV := ⟨.tup []⟩
def AV.cells : AV → List AV
  | .agg cs => cs
  | v => [v]
def AV.undef : AV := .tup []
/-- Its cells, where each of them is the value of one cell. -/
def AV.row : AV → Option (List AV)
  | .agg cs => some cs
  | .tup _ => none
  | v => some [v]
/-- Is it the value of one cell? -/
def AV.one : AV → Bool
  | .agg _ | .tup _ => false
  | _ => true
inductive Tr (α : Type) where
  | nil
  | node (l : Tr α) (v : Option α) (r : Tr α)
namespace Tr
variable {α : Type}
def get : Tr α → Nat → Option α
  | .nil, _ => none
  | .node l v r, n =>
    match Nat.beq n 0 with
    | true => v
    | false => match Nat.beq (Nat.mod n 2) 1 with
      | true => l.get (Nat.div n 2)
      | false => r.get (Nat.sub (Nat.div n 2) 1)
def put : Nat → Tr α → Nat → Option α → Tr α
  | 0, t, _, _ => t
  | f + 1, .nil, n, x =>
    match Nat.beq n 0 with
    | true => .node .nil x .nil
    | false => match Nat.beq (Nat.mod n 2) 1 with
      | true => .node (put f .nil (Nat.div n 2) x) none .nil
      | false => .node .nil none (put f .nil (Nat.sub (Nat.div n 2) 1) x)
  | f + 1, .node l v r, n, x =>
    match Nat.beq n 0 with
    | true => .node l x r
    | false => match Nat.beq (Nat.mod n 2) 1 with
      | true => .node (put f l (Nat.div n 2) x) v r
      | false => .node l v (put f r (Nat.sub (Nat.div n 2) 1) x)
def set (t : Tr α) (n : Nat) (x : Option α) : Tr α := put (n + 1) t n x
theorem get_put : ∀ (f : Nat) (t : Tr α) (n m : Nat) (x : Option α), n < f → (put f t n x).get m = if m = n then x else t.get m
  | 0, _, _, _, _, h => absurd h (Nat.not_lt_zero _)
  | f + 1, t, n, m, x, h => by
    have hd : n ≠ 0 → Nat.div n 2 < f := fun h0 => by have : n.div 2 = n / 2 := rfl; rw [this]; omega
    have hd' : n ≠ 0 → Nat.sub (Nat.div n 2) 1 < f := fun h0 => by have h1 : n.div 2 = n / 2 := rfl; have h2 : (n / 2).sub 1 = n / 2 - 1 := rfl; rw [h1, h2]; omega
    have key : ∀ (a b : Nat), a ≠ 0 → b ≠ 0 → Nat.beq (Nat.mod a 2) 1 = Nat.beq (Nat.mod b 2) 1 →
        ((Nat.beq (Nat.mod a 2) 1 = true → Nat.div b 2 = Nat.div a 2 → b = a) ∧ (Nat.beq (Nat.mod a 2) 1 = false → Nat.sub (Nat.div b 2) 1 = Nat.sub (Nat.div a 2) 1 → b = a)) := by
      intro a b ha hb hab
      have e1 : ∀ c, Nat.mod c 2 = c % 2 := fun _ => rfl
      have e2 : ∀ c, Nat.div c 2 = c / 2 := fun _ => rfl
      have e3 : ∀ c, Nat.sub c 1 = c - 1 := fun _ => rfl
      simp only [e1, e2, e3] at *
      constructor
      · intro h1 h2
        rw [h1] at hab
        have h3 := Nat.eq_of_beq_eq_true h1
        have h4 := Nat.eq_of_beq_eq_true hab.symm
        omega
      · intro h1 h2
        rw [h1] at hab
        have h3 := Nat.ne_of_beq_eq_false h1
        have h4 := Nat.ne_of_beq_eq_false hab.symm
        omega
    have b0 : ∀ c, c ≠ 0 → Nat.beq c 0 = false := fun c hc => by cases c with
      | zero => exact absurd rfl hc
      | succ c => rfl
    cases t with
    | nil =>
      by_cases hn : n = 0
      · subst hn
        simp only [put, Nat.beq_refl]
        by_cases hm : m = 0
        · subst hm; simp [get, Nat.beq_refl]
        · simp only [get, b0 m hm, if_neg hm]; cases Nat.beq (Nat.mod m 2) 1 <;> rfl
      · simp only [put, b0 n hn]
        cases hp : Nat.beq (Nat.mod n 2) 1 with
        | true =>
          by_cases hm : m = 0
          · subst hm; simp [get, Nat.beq_refl, Ne.symm hn]
          · simp only [get, b0 m hm]
            cases hq : Nat.beq (Nat.mod m 2) 1 with
            | true =>
              simp only [get_put f _ _ _ x (hd hn), get]
              by_cases he : m = n
              · subst he; simp
              · rw [if_neg he, if_neg (fun e => he ((key n m hn hm (by rw [hp, hq])).1 hp e))]
            | false => simp only [get]; rw [if_neg (fun e => by rw [e, hp] at hq; cases hq)]
        | false =>
          by_cases hm : m = 0
          · subst hm; simp [get, Nat.beq_refl, Ne.symm hn]
          · simp only [get, b0 m hm]
            cases hq : Nat.beq (Nat.mod m 2) 1 with
            | true => simp only [get]; rw [if_neg (fun e => by rw [e, hp] at hq; cases hq)]
            | false =>
              simp only [get_put f _ _ _ x (hd' hn), get]
              by_cases he : m = n
              · subst he; simp
              · rw [if_neg he, if_neg (fun e => he ((key n m hn hm (by rw [hp, hq])).2 hp e))]
    | node l v r =>
      by_cases hn : n = 0
      · subst hn
        simp only [put, Nat.beq_refl]
        by_cases hm : m = 0
        · subst hm; simp [get, Nat.beq_refl]
        · simp only [get, b0 m hm, if_neg hm]
      · simp only [put, b0 n hn]
        cases hp : Nat.beq (Nat.mod n 2) 1 with
        | true =>
          by_cases hm : m = 0
          · subst hm; simp [get, Nat.beq_refl, Ne.symm hn]
          · simp only [get, b0 m hm]
            cases hq : Nat.beq (Nat.mod m 2) 1 with
            | true =>
              simp only [get_put f _ _ _ x (hd hn)]
              by_cases he : m = n
              · subst he; simp
              · rw [if_neg he, if_neg (fun e => he ((key n m hn hm (by rw [hp, hq])).1 hp e))]
            | false => simp only []; rw [if_neg (fun e => by rw [e, hp] at hq; cases hq)]
        | false =>
          by_cases hm : m = 0
          · subst hm; simp [get, Nat.beq_refl, Ne.symm hn]
          · simp only [get, b0 m hm]
            cases hq : Nat.beq (Nat.mod m 2) 1 with
            | true => simp only []; rw [if_neg (fun e => by rw [e, hp] at hq; cases hq)]
            | false =>
              simp only [get_put f _ _ _ x (hd' hn)]
              by_cases he : m = n
              · subst he; simp
              · rw [if_neg he, if_neg (fun e => he ((key n m hn hm (by rw [hp, hq])).2 hp e))]
theorem get_set (t : Tr α) (n m : Nat) (x : Option α) : (t.set n x).get m = if m = n then x else t.get m :=
  get_put _ _ _ _ _ (Nat.lt_succ_self n)
@[simp] theorem get_nil (n : Nat) : (Tr.nil : Tr α).get n = none := rfl
end Tr
structure AObj where
  gen : Nat
  cells : List AV
structure Heap where
  next : Nat
  tr : Tr AObj
  /-- walks over texts: the text, the place -/
  its : List (List UInt8 × Nat)
namespace Heap
def empty : Heap := ⟨0, .nil, []⟩
def look (h : Heap) (id : Nat) : Option AObj := h.tr.get id
def at_ (h : Heap) (id gen : Nat) : Option (List AV) :=
  match h.tr.get id with
  | some o => match Nat.beq o.gen gen with
    | true => some o.cells
    | false => none
  | none => none
def new (h : Heap) (cs : List AV) : Heap := ⟨Nat.succ h.next, h.tr.set h.next (some ⟨0, cs⟩), h.its⟩
def upd (h : Heap) (id gen : Nat) (cs : List AV) : Heap := ⟨h.next, h.tr.set id (some ⟨gen, cs⟩), h.its⟩
end Heap
inductive Opd where
  | t (n : Nat)
  | c (v : AV)
  | g (n : Nat)
inductive Cls where
  | none | read | write
  deriving DecidableEq
inductive EqT where
  | bool | int | str | ptr | slice | map | func
  | iface (lit : Bool)
  | struct (fs : List (Nat × Nat × Bool × EqT))
inductive CvT where
  | int (k : IntKind)
  | rune            -- an integer to a string
  | same            -- string to string
  | s2b | b2s | s2r | r2s
  | b2b             -- a slice of bytes to its own type
inductive AOp where
  | mv (x : Opd)
  | pick (c a b : Opd)
  | alloc (zero : List AV)
  | box (fr : Bool) (sz : Nat) (x : Opd)
  | build (zero : List AV) (parts : List (Nat × Nat × Opd))
  | lit (fr : Bool) (sz len : Nat) (cells : List AV) (parts : List (Nat × Nat × Opd))
  | load (agg : Bool) (sz : Nat) (x : Opd)
  | store (sz : Nat) (x v : Opd)
  | nilCheck (x : Opd)
  | bin (op : BinOp) (x y : Opd)
  | eq (neg : Bool) (e : EqT) (x y : Opd)
  | un (op : UnOp) (x : Opd)
  | conv (c : CvT) (x : Opd)
  | mkIface (t : TypeId) (x : Opd)
  | mkFunc (f : Fn) (first captured : List Opd)
  | makeSlice (sz bytes : Nat) (zero : List AV) (l c : Opd)
  | slice (sz : Nat) (x : Opd) (lo hi mx : Option Opd)
  | sliceStr (x : Opd) (lo hi : Option Opd)
  | sliceArr (sz n : Nat) (x : Opd) (lo hi mx : Option Opd)
  | fieldAddr (off : Nat) (x : Opd)
  | field (agg : Bool) (sz off : Nat) (x : Opd)
  | idxAddr (sz : Nat) (x i : Opd)
  | idxAddrArr (sz n : Nat) (x i : Opd)
  | idxStr (x i : Opd)
  | idxArr (agg : Bool) (sz n : Nat) (x i : Opd)
  | extract (x : Opd) (i : Nat)
  | len (str : Bool) (x : Opd)
  | append (sz bytes : Nat) (x y : Opd)
  | copy (sz : Nat) (x y : Opd)
  | minmax (mx : Bool) (x y : Opd)
  | cap (x : Opd)
  | appendZ (sz bytes : Nat) (zero : List AV) (x y : Opd)
  | clear (sz : Nat) (zero : List AV) (x : Opd)
  | range (x : Opd)
  | next (x : Opd)
  | call (f : Nat) (args : List Opd)
  | callv (f : Opd) (args : List Opd)
  | panic (x : Opd)
  | bad
def Opd.slots : Opd → List Nat
  | .t n => [n]
  | _ => []
def slotsO : Option Opd → List Nat
  | some x => x.slots
  | none => []
def slotsL : List Opd → List Nat
  | [] => []
  | x :: xs => x.slots ++ slotsL xs
def slotsP : List (Nat × Nat × Opd) → List Nat
  | [] => []
  | (_, _, x) :: xs => x.slots ++ slotsP xs
/-- the slots that an operation reads -/
def AOp.reads : AOp → List Nat
  | .mv x | .cap x | .clear _ _ x | .range x | .next x | .box _ _ x | .load _ _ x | .nilCheck x | .un _ x | .conv _ x | .mkIface _ x | .fieldAddr _ x | .field _ _ _ x | .extract x _ | .len _ x | .panic x => x.slots
  | .pick c a b => c.slots ++ (a.slots ++ b.slots)
  | .build _ ps | .lit _ _ _ _ ps => slotsP ps
  | .store _ x y | .bin _ x y | .eq _ _ x y | .makeSlice _ _ _ x y | .idxAddr _ x y | .idxAddrArr _ _ x y | .idxStr x y | .idxArr _ _ _ x y | .append _ _ x y | .appendZ _ _ _ x y | .copy _ x y | .minmax _ x y => x.slots ++ y.slots
  | .mkFunc _ a b => slotsL a ++ slotsL b
  | .slice _ x lo hi mx | .sliceArr _ _ x lo hi mx => x.slots ++ (slotsO lo ++ (slotsO hi ++ slotsO mx))
  | .sliceStr x lo hi => x.slots ++ (slotsO lo ++ slotsO hi)
  | .call _ l => slotsL l
  | .callv f l => f.slots ++ slotsL l
  | .alloc _ | .bad => []
structure AOper where
  dst : Option Nat
  op : AOp
  guard : Option (Nat × Bool)
@[reducible] def mV (d n : Nat) : AOper := ⟨some d, .mv (.t n), none⟩
@[reducible] def oP (d : Nat) (o : AOp) : AOper := ⟨some d, o, none⟩
@[reducible] def oN (o : AOp) : AOper := ⟨none, o, none⟩
@[reducible] def oG (d : Nat) (o : AOp) (t : Nat) (b : Bool) : AOper := ⟨some d, o, some (t, b)⟩
theorem mV_eq {d n : Nat} : mV d n = ⟨some d, .mv (.t n), none⟩ := id rfl
theorem oP_eq {d : Nat} {o : AOp} : oP d o = ⟨some d, o, none⟩ := id rfl
theorem oN_eq {o : AOp} : oN o = ⟨none, o, none⟩ := id rfl
theorem oG_eq {d : Nat} {o : AOp} {t : Nat} {b : Bool} : oG d o t b = ⟨some d, o, some (t, b)⟩ := id rfl
/-- the slots that an operation of a region names, but for the one that it writes -/
def AOper.looks (o : AOper) : List Nat := (match o.guard with
  | some (g, _) => [g]
  | none => []) ++ o.op.reads
/-- does the one write what the other names? -/
def AOper.clash (x y : AOper) : Bool :=
  (match x.dst with
   | some d => y.looks.contains d || y.dst == some d
   | none => false) ||
  (match y.dst with
   | some d => x.looks.contains d
   | none => false)
def staticFrom (x : AOper) (i : Nat) : List AOper → List Nat → Bool
  | y :: ys, m :: ms => (!(x.clash y) || Nat.testBit m i) && staticFrom x i ys ms
  | _, _ => true
def staticAll : Nat → List AOper → List Nat → Bool
  | i, x :: xs, _ :: ms => staticFrom x i xs ms && staticAll (i + 1) xs ms
  | _, _, _ => true
inductive AC where
  | skip
  | ops (l : List AOper)
  | draw (l : List AOper) (before : List Nat)
  | seq (a b : AC)
  | cond (c : Opd) (x y : AC)
  | block (id : Nat) (b : AC)
  | loop (b : AC)
  | exit (id : Nat)
  | scope (b : AC)
  | ret
  | bad
inductive ARes where
  | tmp (t : Nat)
  | cell (t : Nat) (agg : Bool) (sz : Nat)
structure AFunc where
  results : List ARes
  body : AC
/-- the body of a function that defers calls -/
inductive AD where
  | code (c : AC)
  | dfr (l : List AOper) (f : Opd) (xs : List Opd)
  | seq (a b : AD)
structure DFunc where
  results : List ARes
  body : AD
/-- a function that is deferred and recovers: its first region is cut at the recover -/
structure RFunc where
  ops1 : List AOper
  dst : Option Nat
  ops2 : List AOper
  rest : AC
/-- What the machine knows of its program. -/
structure Env where
  func : Nat → Option AFunc
  glob : Nat → Option (List AV)
  pure_ : Nat → Bool
  prim : Nat → Option (List AV → Heap → Option (AV × Heap))
  ok : Nat → World → Prop := fun _ _ => True
  dfunc : Nat → Option DFunc := fun _ => none
  rfunc : Nat → Option RFunc := fun _ => none
structure OpRes where
  v : AV
  h : Heap
  c : Cls
def ldCells (agg : Bool) (sz : Nat) (cs : List AV) : Option AV :=
  match agg with
  | true => if sz ≤ cs.length then some (.agg (cs.take sz)) else none
  | false => cs.head?
def splice (cs : List AV) (off : Nat) (new : List AV) : List AV := cs.take off ++ new ++ cs.drop (off + new.length)
def aLoad (h : Heap) (agg : Bool) (sz : Nat) : AV → Option OpRes
  | .ptr id gen off => (h.at_ id gen).bind fun cs => (ldCells agg sz (cs.drop off)).map fun v => ⟨v, h, .read⟩
  | .fp cs => (ldCells agg sz cs).map fun v => ⟨v, h, .none⟩
  | _ => none
def aStore (h : Heap) (sz : Nat) (x v : AV) : Option OpRes :=
  match x with
  | .ptr id gen off => (h.at_ id gen).bind fun cs => v.row.bind fun vs =>
      if vs.length = sz ∧ off + sz ≤ cs.length then some ⟨.undef, h.upd id gen (splice cs off vs), .write⟩ else none
  | _ => none
/-- cells laid into cells -/
def aFill : List AV → List (Nat × Nat × AV) → Option (List AV)
  | cs, [] => some cs
  | cs, (off, sz, v) :: rest => v.row.bind fun vs => if vs.length = sz ∧ off + sz ≤ cs.length then aFill (splice cs off vs) rest else none
def aInt (op : BinOp) (k : IntKind) (a b : Int) : Option AV :=
  match op with
  | .add => some (.int k (k.wrap (a + b)))
  | .sub => some (.int k (k.wrap (a - b)))
  | .mul => some (.int k (k.wrap (a * b)))
  | .quo => if b = 0 then none else some (.int k (k.wrap (a.tdiv b)))
  | .rem => if b = 0 then none else some (.int k (a.tmod b))
  | .and => some (.int k (k.wrap (BitVec.ofInt k.bits a &&& BitVec.ofInt k.bits b).toNat))
  | .or => some (.int k (k.wrap (BitVec.ofInt k.bits a ||| BitVec.ofInt k.bits b).toNat))
  | .xor => some (.int k (k.wrap (BitVec.ofInt k.bits a ^^^ BitVec.ofInt k.bits b).toNat))
  | .andNot => some (.int k (k.wrap (BitVec.ofInt k.bits a &&& ~~~(BitVec.ofInt k.bits b)).toNat))
  | .eql => some (.bool (a == b))
  | .neq => some (.bool (a != b))
  | .lss => some (.bool (decide (a < b)))
  | .leq => some (.bool (decide (a ≤ b)))
  | .gtr => some (.bool (decide (a > b)))
  | .geq => some (.bool (decide (a ≥ b)))
  | _ => none
def aShift (op : BinOp) (k : IntKind) (a b : Int) : Option AV :=
  if b < 0 then none else
  match op with
  | .shl => some (.int k (k.wrap (a * 2 ^ (min b.toNat k.bits))))
  | .shr => some (.int k (a.fdiv (2 ^ (min b.toNat k.bits))))
  | _ => none
def aStr (op : BinOp) (x y : List UInt8) : Option AV :=
  match op with
  | .add => if x.length + y.length ≤ 9223372036854775807 then some (.str (x ++ y)) else none
  | .eql => some (.bool (x == y))
  | .neq => some (.bool !(x == y))
  | .lss => some (.bool (Op.bytesLess x y))
  | .leq => some (.bool (Op.bytesLess x y || x == y))
  | .gtr => some (.bool !(Op.bytesLess x y || x == y))
  | .geq => some (.bool !(Op.bytesLess x y))
  | _ => none
def aBin (op : BinOp) : AV → AV → Option AV
  | .int k a, .int k' b =>
    match op with
    | .shl | .shr => aShift op k a b
    | _ => if k = k' then aInt op k a b else none
  | .str a, .str b => aStr op a b
  | _, _ => none
def aUn (op : UnOp) : AV → Option AV
  | .int k n =>
    match op with
    | .neg => some (.int k (k.wrap (0 - n)))
    | .xor => some (.int k (k.wrap (BitVec.ofInt k.bits (if k.signed then -1 else k.max) ^^^ BitVec.ofInt k.bits n).toNat))
    | _ => none
  | .bool b => match op with | .not => some (.bool !b) | _ => none
  | _ => none
def aEqScalar (e : EqT) (x y : AV) : Option Bool :=
  match e with
  | .bool => match x with
    | .bool a => match y with
      | .bool b => some (a == b)
      | _ => none
    | _ => none
  | .int => match x with
    | .int k a => match y with
      | .int k' b => if k = k' then some (a == b) else none
      | _ => none
    | _ => none
  | .str => match x with
    | .str a => match y with
      | .str b => some (a == b)
      | _ => none
    | _ => none
  | .ptr => match x with
    | .nilp => match y with
      | .nilp => some true
      | .ptr .. | .fp _ => some false
      | _ => none
    | .ptr .. | .fp _ => match y with
      | .nilp => some false
      | _ => none
    | _ => none
  | .slice => match x with
    | .nils => match y with
      | .nils => some true
      | .sl .. | .fs .. => some false
      | _ => none
    | .sl .. | .fs .. => match y with
      | .nils => some false
      | _ => none
    | _ => none
  | .map => match x with
    | .nilm => match y with
      | .nilm => some true
      | _ => none
    | _ => none
  | .func => match x with
    | .nilf => match y with
      | .nilf => some true
      | .fn .. => some false
      | _ => none
    | .fn .. => match y with
      | .nilf => some false
      | _ => none
    | _ => none
  | .iface lit => match x with
    | .nili => match y with
      | .nili => match lit with
        | true => some true
        | false => none
      | .ifc .. => some false
      | _ => none
    | .ifc t _ => match y with
      | .nili => some false
      | .ifc u _ => if t = u then none else some false
      | _ => none
    | _ => none
  | .struct _ => none
def negIf (neg r : Bool) : Bool := match neg with
  | true => !r
  | false => r
def partOf (agg : Bool) (sz off : Nat) (cs : List AV) : Option AV :=
  match agg with
  | true => some (.agg ((cs.drop off).take sz))
  | false => cs[off]?
def aEqs : List (Nat × Nat × Bool × EqT) → List AV → List AV → Option Bool
  | [], _, _ => some true
  | (off, _, false, e) :: fs, xs, ys =>
    (xs[off]?).bind fun a => (ys[off]?).bind fun b => (aEqScalar e a b).bind fun r => match r with | true => aEqs fs xs ys | false => some false
  | _, _, _ => none
def aEq (e : EqT) (x y : AV) : Option Bool :=
  match e with
  | .struct fs => match x, y with
    | .agg xs, .agg ys => aEqs fs xs ys
    | _, _ => none
  | e => aEqScalar e x y
def byteAV (b : UInt8) : AV := .int .u8 b.toNat
def toByte : AV → Option UInt8
  | .int .u8 n => some (UInt8.ofNat n.toNat)
  | _ => none
/-- the cells of a slice's first elements; which heap they were read in: does it matter? -/
def sliceCells (h : Heap) (sz n : Nat) : AV → Option (List AV × Cls)
  | .nils => if n = 0 then some ([], .none) else none
  | .fs _ len cs => if n ≤ len ∧ cs.length = len * sz then some (cs.take (n * sz), .none) else none
  | .sl id gen off sz' len _ => if sz' = sz ∧ n ≤ len then
      (h.at_ id gen).bind fun cs => if off + n * sz ≤ cs.length then some ((cs.drop off).take (n * sz), .read) else none
    else none
  | .str s => if sz = 1 ∧ n ≤ s.length then some ((s.take n).map byteAV, .none) else none
  | _ => none
def aLen : AV → Option Nat
  | .nils => some 0
  | .fs _ len _ => some len
  | .sl _ _ _ _ len _ => some len
  | .str s => some s.length
  | _ => none
def runesL (s : ByteArray) : Nat → Nat → List Int
  | 0, _ => []
  | b + 1, i => if i < s.size then Int.ofNat (Utf8.decode s i).1 :: runesL s b (i + (Utf8.decode s i).2) else []
def runeAV (n : Int) : AV := .int .i32 n
def aConv (h : Heap) (c : CvT) (x : AV) : Option OpRes :=
  match c with
  | .int k => match x with | .int _ n => some ⟨.int k (k.wrap n), h, .none⟩ | _ => none
  | .rune => match x with | .int _ n => some ⟨.str (Utf8.encode n).data.toList, h, .none⟩ | _ => none
  | .same => match x with | .str s => some ⟨.str s, h, .none⟩ | _ => none
  | .s2b => match x with
    | .str s => some ⟨.sl h.next 0 0 1 s.length none, h.new (s.map byteAV), .write⟩
    | _ => none
  | .b2s => match x with
    | .str _ => none
    | x => (aLen x).bind fun n => (sliceCells h 1 n x).bind fun (cs, k) => (cs.mapM toByte).map fun bs => ⟨.str bs, h, k⟩
  | .r2s => none
  | .s2r => match x with
    | .str s => some ⟨.sl h.next 0 0 1 (runesL ⟨s.toArray⟩ s.length 0).length none, h.new ((runesL ⟨s.toArray⟩ s.length 0).map runeAV), .write⟩
    | _ => none
  | .b2b => match x with
    | .sl id gen off sz len (some c) => if len = c ∧ 0 < c then (h.at_ id gen).bind fun cs => if off = 0 ∧ cs.length = len * sz then some ⟨x, h.upd id gen cs, .write⟩ else none else none
    | _ => none
def sbound (y : Nat) : AV → Option Nat
  | .int _ i => if 0 ≤ i ∧ i ≤ y then some i.toNat else none
  | _ => none
def bounds (len cap : Nat) (lo hi mx : Option AV) : Option (Nat × Nat × Nat) :=
  (match mx with | some v => sbound cap v | none => some cap).bind fun m =>
  (match hi, mx with | some v, _ => sbound m v | none, none => some len | none, some _ => none).bind fun h =>
  (match lo with | some v => sbound h v | none => some 0).map fun l => (l, h, m)
def aSlice (sz : Nat) (x : AV) (lo hi mx : Option AV) : Option AV :=
  match x with
  | .nils => (bounds 0 0 lo hi mx).map fun _ => .nils
  | .sl id gen off sz' len cap => if sz' = sz then
      match cap with
      | some c => (bounds len c lo hi mx).map fun (l, h, m) => .sl id gen (off + l * sz) sz (h - l) (some (m - l))
      | none => (bounds len len lo hi mx).map fun (l, h, m) => .sl id gen (off + l * sz) sz (h - l) (mx.map fun _ => m - l)
    else none
  | .fs full len cs => if cs.length = len * sz then
      (bounds len len lo hi mx).map fun (l, h, m) =>
        .fs (match mx with | some _ => m == h | none => full && h == len) (h - l) ((cs.drop (l * sz)).take ((h - l) * sz))
    else none
  | _ => none
def aSliceStr (x : AV) (lo hi : Option AV) : Option AV :=
  match x with
  | .str s => (bounds s.length s.length lo hi none).map fun (l, h, _) => .str ((s.drop l).take (h - l))
  | _ => none
def aSliceArr (h : Heap) (sz n : Nat) (x : AV) (lo hi mx : Option AV) : Option OpRes :=
  match x with
  | .ptr id gen off => (h.at_ id gen).bind fun cs => if off + n * sz ≤ cs.length then
      (bounds n n lo hi mx).map fun (l, u, m) => ⟨.sl id gen (off + l * sz) sz (u - l) (some (m - l)), h, .read⟩
    else none
  | .fp cs => if n * sz ≤ cs.length then
      (bounds n n lo hi mx).map fun (l, u, m) => ⟨.fs (m == u) (u - l) ((cs.drop (l * sz)).take ((u - l) * sz)), h, .none⟩
    else none
  | _ => none
def aIndex (n : Nat) : AV → Option Nat
  | .int _ i => if 0 ≤ i ∧ i < n then some i.toNat else none
  | _ => none
def aIdxAddr (sz : Nat) (x i : AV) : Option AV :=
  match x with
  | .sl id gen off sz' len _ => if sz' = sz then (aIndex len i).map fun j => .ptr id gen (off + j * sz) else none
  | .fs _ len cs => match cs with
    | [] => none
    | _ :: _ => (aIndex len i).map fun j => .fp (cs.drop (j * sz))
  | _ => none
def aIdxAddrArr (sz n : Nat) (x i : AV) : Option AV :=
  match x with
  | .ptr id gen off => (aIndex n i).map fun j => .ptr id gen (off + j * sz)
  | .fp cs => (aIndex n i).map fun j => .fp (cs.drop (j * sz))
  | _ => none
/-- 'append': the sum of the lengths times an element's bytes must be modest. -/
def aAppend (h : Heap) (sz bytes : Nat) (x y : AV) : Option OpRes :=
  (aLen y).bind fun n => (aLen x).bind fun len =>
  if (len + n) * bytes ≤ 70368744177664 ∧ len + n ≤ 70368744177664 ∧ 0 < sz then
    if n = 0 then (match x with | .str _ => none | _ => some ⟨x, h, .none⟩) else
    (sliceCells h sz n y).bind fun (new, _) =>
    let grown : Option OpRes := (sliceCells h sz len x).map fun (old, _) => ⟨.sl h.next 0 0 sz (len + n) none, h.new (old ++ new), .write⟩
    match x with
    | .nils => grown
    | .fs true _ _ => grown
    | .sl id gen off sz' _ (some c) =>
      if sz' = sz then
        if len + n ≤ c then
          (h.at_ id gen).bind fun cs =>
            if off + (len + n) * sz ≤ cs.length then
              some ⟨.sl id gen off sz (len + n) (some c), h.upd id gen (splice cs (off + len * sz) new), .write⟩
            else none
        else grown
      else none
    | .sl id gen off sz' _ none =>
      if sz' = sz then
        (h.at_ id gen).bind fun cs =>
          if off + (len + n) * sz ≤ cs.length then
            some ⟨.sl id gen off sz (len + n) none, h.upd id gen (splice cs (off + len * sz) new), .write⟩
          else if off + len * sz = cs.length then
            some ⟨.sl id (Nat.succ gen) 0 sz (len + n) none, h.upd id (Nat.succ gen) (cs.drop off ++ new), .write⟩
          else none
      else none
    | _ => none
  else none
def aMakeSlice (h : Heap) (sz bytes : Nat) (zero : List AV) (l c : AV) : Option OpRes :=
  match l, c with
  | .int .i64 l, .int .i64 c =>
    if 0 ≤ l ∧ l ≤ c ∧ bytes * c ≤ 70368744177664 ∧ c ≤ 70368744177664 ∧ zero.length = sz then
      some ⟨.sl h.next 0 0 sz l.toNat (some c.toNat), h.new (List.replicate c.toNat zero).flatten, .write⟩
    else none
  | _, _ => none
/-- of a slice whose capacity is not known: up to what is known to lie there -/
def aSliceH (h : Heap) (sz : Nat) (x : AV) (lo hi mx : Option AV) : Option OpRes :=
  match x, hi, mx with
  | .sl id gen off sz' len none, some u, none => if sz' = sz ∧ 0 < sz then
      (h.at_ id gen).bind fun cs => (bounds len ((cs.length - off) / sz) lo (some u) none).map fun (l, u, _) => ⟨.sl id gen (off + l * sz) sz (u - l) none, h, .read⟩
    else none
  | _, _, _ => none
def aCap : AV → Option AV
  | .nils => some (.int .i64 0)
  | .fs true n _ => some (.int .i64 n)
  | .sl _ _ _ _ _ (some c) => some (.int .i64 c)
  | _ => none
/-- 'append(x, make(..)...)' of nothing: what is made has k elements that are zero -/
def aAppendZ (h : Heap) (sz bytes : Nat) (zero : List AV) (x y : AV) : Option OpRes :=
  match x, y with
  | .nils, .int .i64 k => if 0 < k ∧ k * bytes ≤ 70368744177664 ∧ k ≤ 70368744177664 ∧ 0 < sz ∧ zero.length = sz then
      some ⟨.sl h.next 0 0 sz k.toNat none, h.new (List.replicate k.toNat zero).flatten, .write⟩
    else none
  | _, _ => none
def aClear (h : Heap) (sz : Nat) (zero : List AV) (x : AV) : Option OpRes :=
  match x with
  | .nils => some ⟨.undef, h, .none⟩
  | .fs _ len _ => if len = 0 then some ⟨.undef, h, .none⟩ else none
  | .sl id gen off sz' len _ => if len = 0 then some ⟨.undef, h, .none⟩ else if sz' = sz ∧ zero.length = sz then
      (h.at_ id gen).bind fun cs => if off + len * sz ≤ cs.length then some ⟨.undef, h.upd id gen (splice cs off (List.replicate len zero).flatten), .write⟩ else none
    else none
  | _ => none
def aCopy (h : Heap) (sz : Nat) (x y : AV) : Option OpRes :=
  (aLen y).bind fun m =>
  match x with
  | .nils => some ⟨.int .i64 0, h, .none⟩
  | .fs _ len _ => if min m len = 0 then some ⟨.int .i64 0, h, .none⟩ else none
  | .sl id gen off sz' len _ => if min m len = 0 then some ⟨.int .i64 0, h, .none⟩ else if sz' = sz then
      (sliceCells h sz (min m len) y).bind fun (new, _) => (h.at_ id gen).bind fun cs =>
        if off + min m len * sz ≤ cs.length then some ⟨.int .i64 (min m len : Nat), h.upd id gen (splice cs off new), .write⟩ else none
    else none
  | _ => none
/-- a walk's next step -/
def Heap.walk (h : Heap) (s : List UInt8) : Heap := { h with its := h.its ++ [(s, 0)] }
def Heap.step (h : Heap) (k : Nat) (s : List UInt8) (p : Nat) : Heap := { h with its := h.its.set k (s, p) }
def aNext (h : Heap) (k : Nat) : Option OpRes :=
  match h.its[k]? with
  | some (s, p) => if p < s.length then
      some ⟨.tup [.bool true, .int .i64 p, .int .i32 (Utf8.decode ⟨s.toArray⟩ p).1], h.step k s (p + (Utf8.decode ⟨s.toArray⟩ p).2), .write⟩
    else some ⟨.tup [.bool false], h, .write⟩
  | none => none
def aMinMax (mx : Bool) : AV → AV → Option AV
  | .int k x, .int k' y => if k = k' then some (.int k (match mx with | true => if y > x then y else x | false => if y < x then y else x)) else none
  | _, _ => none
def Slots := Tr AV
def Slots.empty : Slots := Tr.nil
def Slots.get (σ : Slots) (n : Nat) : AV := match Tr.get σ n with | some v => v | none => .undef
def Slots.put (σ : Slots) (n : Nat) (v : AV) : Slots := Tr.set σ n (some v)
def Env.opd (E : Env) (σ : Slots) : Opd → Option AV
  | .t n => some (σ.get n)
  | .c v => some v
  | .g n => (E.glob n).map .fp
def Env.opds (E : Env) (σ : Slots) : List Opd → Option (List AV)
  | [] => some []
  | x :: xs => (E.opd σ x).bind fun v => (E.opds σ xs).map fun vs => v :: vs
def Env.opdo (E : Env) (σ : Slots) : Option Opd → Option (Option AV)
  | none => some none
  | some x => (E.opd σ x).map some
def Env.parts (E : Env) (σ : Slots) : List (Nat × Nat × Opd) → Option (List (Nat × Nat × AV))
  | [] => some []
  | (i, s, x) :: xs => (E.opd σ x).bind fun v => (E.parts σ xs).map fun vs => (i, s, v) :: vs
/-- An operation that calls nothing. -/
def Env.op (E : Env) (σ : Slots) (h : Heap) : AOp → Option OpRes
  | .mv x => (E.opd σ x).map fun v => ⟨v, h, .none⟩
  | .pick c a b => (E.opd σ c).bind fun
    | .bool true => (E.opd σ a).map fun v => ⟨v, h, .none⟩
    | .bool false => (E.opd σ b).map fun v => ⟨v, h, .none⟩
    | _ => none
  | .alloc zero => some ⟨.ptr h.next 0 0, h.new zero, .write⟩
  | .box fr sz x => (E.opd σ x).bind fun v => v.row.bind fun vs => if vs.length = sz then
      match fr with
      | true => some ⟨.fp vs, h, .none⟩
      | false => some ⟨.ptr h.next 0 0, h.new vs, .write⟩
    else none
  | .build zero ps => (E.parts σ ps).bind fun l => (aFill zero l).map fun cs => ⟨.agg cs, h, .none⟩
  | .lit fr sz len cells ps => (E.parts σ ps).bind fun l => (aFill cells l).bind fun cs => if cs.length = len * sz then
      match fr with
      | true => some ⟨.fs true len cs, h, .none⟩
      | false => some ⟨.sl h.next 0 0 sz len (some len), h.new cs, .write⟩
    else none
  | .load agg sz x => (E.opd σ x).bind (aLoad h agg sz)
  | .store sz x v => (E.opd σ x).bind fun a => (E.opd σ v).bind fun b => aStore h sz a b
  | .nilCheck x => (E.opd σ x).bind fun v => match v with
    | .ptr .. | .fp _ | .fn (.func _) _ _ | .ifc .. => some ⟨v, h, .none⟩
    | _ => none
  | .bin op x y => (E.opd σ x).bind fun a => (E.opd σ y).bind fun b => (aBin op a b).map fun v => ⟨v, h, .none⟩
  | .eq neg e x y => (E.opd σ x).bind fun a => (E.opd σ y).bind fun b => (aEq e a b).map fun r => ⟨.bool (negIf neg r), h, .none⟩
  | .un op x => (E.opd σ x).bind fun a => (aUn op a).map fun v => ⟨v, h, .none⟩
  | .conv c x => (E.opd σ x).bind (aConv h c)
  | .mkIface t x => (E.opd σ x).map fun v => ⟨.ifc t v, h, .none⟩
  | .mkFunc f first cap => (E.opds σ first).bind fun a => (E.opds σ cap).map fun b => ⟨.fn f a b, h, .none⟩
  | .makeSlice sz bytes zero l c => (E.opd σ l).bind fun a => (E.opd σ c).bind fun b => aMakeSlice h sz bytes zero a b
  | .slice sz x lo hi mx => (E.opd σ x).bind fun v => (E.opdo σ lo).bind fun a => (E.opdo σ hi).bind fun b => (E.opdo σ mx).bind fun c => (match aSlice sz v a b c with | some v => some ⟨v, h, .none⟩ | none => aSliceH h sz v a b c)
  | .sliceStr x lo hi => (E.opd σ x).bind fun v => (E.opdo σ lo).bind fun a => (E.opdo σ hi).bind fun b => (aSliceStr v a b).map fun v => ⟨v, h, .none⟩
  | .sliceArr sz n x lo hi mx => (E.opd σ x).bind fun v => (E.opdo σ lo).bind fun a => (E.opdo σ hi).bind fun b => (E.opdo σ mx).bind fun c => aSliceArr h sz n v a b c
  | .fieldAddr off x => (E.opd σ x).bind fun
    | .ptr id gen o => some ⟨.ptr id gen (o + off), h, .none⟩
    | .fp cs => some ⟨.fp (cs.drop off), h, .none⟩
    | _ => none
  | .field agg sz off x => (E.opd σ x).bind fun
    | .agg cs => if off + sz ≤ cs.length then (partOf agg sz off cs).map fun v => ⟨v, h, .none⟩ else none
    | _ => none
  | .idxAddr sz x i => (E.opd σ x).bind fun a => (E.opd σ i).bind fun b => (aIdxAddr sz a b).map fun v => ⟨v, h, .none⟩
  | .idxAddrArr sz n x i => (E.opd σ x).bind fun a => (E.opd σ i).bind fun b => (aIdxAddrArr sz n a b).map fun v => ⟨v, h, .none⟩
  | .idxStr x i => (E.opd σ x).bind fun
    | .str s => (E.opd σ i).bind fun b => (aIndex s.length b).bind fun j => (s[j]?).map fun c => ⟨byteAV c, h, .none⟩
    | _ => none
  | .idxArr agg sz n x i => (E.opd σ x).bind fun
    | .agg cs => (E.opd σ i).bind fun b => (aIndex n b).bind fun j => if (j + 1) * sz ≤ cs.length then (partOf agg sz (j * sz) cs).map fun v => ⟨v, h, .none⟩ else none
    | _ => none
  | .extract x i => (E.opd σ x).bind fun
    | .tup vs => (vs[i]?).map fun v => ⟨v, h, .none⟩
    | _ => none
  | .len str x => (E.opd σ x).bind fun v => match str, v with
    | true, .str s => some ⟨.int .i64 s.length, h, .none⟩
    | false, .nils => some ⟨.int .i64 0, h, .none⟩
    | false, .fs _ n _ => some ⟨.int .i64 n, h, .none⟩
    | false, .sl _ _ _ _ n _ => some ⟨.int .i64 n, h, .none⟩
    | _, _ => none
  | .append sz bytes x y => (E.opd σ x).bind fun a => (E.opd σ y).bind fun b => aAppend h sz bytes a b
  | .minmax mx x y => (E.opd σ x).bind fun a => (E.opd σ y).bind fun b => (aMinMax mx a b).map fun v => ⟨v, h, .none⟩
  | .cap x => (E.opd σ x).bind fun a => (aCap a).map fun v => ⟨v, h, .none⟩
  | .appendZ sz bytes zero x y => (E.opd σ x).bind fun a => (E.opd σ y).bind fun b => aAppendZ h sz bytes zero a b
  | .clear sz zero x => (E.opd σ x).bind (aClear h sz zero)
  | .copy sz x y => (E.opd σ x).bind fun a => (E.opd σ y).bind fun b => aCopy h sz a b
  | .range x => (E.opd σ x).bind fun
    | .str s => some ⟨.itr h.its.length, h.walk s, .write⟩
    | _ => none
  | .next x => (E.opd σ x).bind fun
    | .itr k => aNext h k
    | _ => none
  | _ => none
mutual
def AV.noRef : AV → Bool
  | .ptr .. | .sl .. | .itr _ => false
  | .fp cs => AV.noRefs cs
  | .fs _ _ cs => AV.noRefs cs
  | .fn _ a b => AV.noRefs a && AV.noRefs b
  | .ifc _ v => v.noRef
  | .agg cs => AV.noRefs cs
  | .tup vs => AV.noRefs vs
  | _ => true
def AV.noRefs : List AV → Bool
  | [] => true
  | v :: vs => v.noRef && AV.noRefs vs
end
/-- A value with its content in the place of its addresses. -/
def freeze (h : Heap) : Nat → AV → Option AV
  | 0, _ => none
  | n + 1, v =>
    match v.noRef with
    | true => some v
    | false => match v with
      | .ptr id gen off => (h.at_ id gen).bind fun cs => ((cs.drop off).mapM (freeze h n)).map .fp
      | .sl id gen off sz len cap => (h.at_ id gen).bind fun cs =>
        if off + len * sz ≤ cs.length then (((cs.drop off).take (len * sz)).mapM (freeze h n)).map (.fs (cap == some len) len) else none
      | .fp cs => (cs.mapM (freeze h n)).map .fp
      | .fs full len cs => (cs.mapM (freeze h n)).map (.fs full len)
      | .ifc t v => (freeze h n v).map (.ifc t)
      | .agg cs => (cs.mapM (freeze h n)).map .agg
      | .tup vs => (vs.mapM (freeze h n)).map .tup
      | _ => none
inductive AExit where
  | norm | ret
  | exit (id : Nat)
  | panic (v : AV)
structure St where
  σ : Slots
  h : Heap
inductive COut where
  | ret (r : OpRes)
  | panic (v : AV) (h : Heap)
def St.put (s : St) (dst : Option Nat) (v : AV) (h : Heap) : St :=
  match dst with
  | some d => ⟨s.σ.put d v, h⟩
  | none => ⟨s.σ, h⟩
abbrev CallF := Nat → List AV → Heap → Option COut
/-- An operation, a call among them. -/
def Env.act (E : Env) (C : CallF) (σ : Slots) (h : Heap) : AOp → Option COut
  | .call f args => (E.opds σ args).bind fun l => C f l h
  | .callv f args => (E.opd σ f).bind fun
    | .fn (.func f) first cap => (E.opds σ args).bind fun l => C f (first ++ l ++ cap) h
    | _ => none
  | .panic x => (E.opd σ x).bind fun v => match v with
    | .ifc _ _ => some (.panic v h)
    | _ => none
  | op => (E.op σ h op).map .ret
def AOper.wanted (o : AOper) (σ : Slots) : Bool :=
  match o.guard with
  | none => true
  | some (t, want) => match σ.get t with
    | .bool b => b == want
    | _ => false
/-- One operation of a region: the state behind it, its class; or the value with which it panics. -/
def Env.one (E : Env) (C : CallF) (o : AOper) (s : St) : Option (St × Cls × Option AV) :=
  match o.wanted s.σ with
  | true => (E.act C s.σ s.h o.op).map fun
    | .ret r => (s.put o.dst r.v r.h, r.c, none)
    | .panic v h => (⟨s.σ, h⟩, .write, some v)
  | false => some (s.put o.dst .undef s.h, .none, none)
/-- A region, in the order of the text. -/
def Env.ops (E : Env) (C : CallF) : List AOper → St → Option (AExit × St)
  | [], s => some (.norm, s)
  | o :: l, s => (E.one C o s).bind fun
    | (s', _, none) => E.ops C l s'
    | (s', _, some v) => some (.panic v, s')
/-- In the order of the text, but told what each operation was: its class, the state ahead of it. -/
def Env.opsLog (E : Env) (C : CallF) : List AOper → St → Option (St × List (AOper × St × Cls))
  | [], s => some (s, [])
  | o :: l, s => (E.one C o s).bind fun
    | (s', c, none) => (E.opsLog C l s').map fun (r, log) => (r, (o, s, c) :: log)
    | (_, _, some _) => none
mutual
def AV.same : AV → AV → Bool
  | .bool a, .bool b => a == b
  | .int j a, .int k b => j == k && a == b
  | .str a, .str b => a == b
  | .nilp, .nilp | .nils, .nils | .nilm, .nilm | .nilf, .nilf | .nili, .nili => true
  | .ptr a b c, .ptr a' b' c' => a == a' && b == b' && c == c'
  | .sl a b c d e f, .sl a' b' c' d' e' f' => a == a' && b == b' && c == c' && d == d' && e == e' && f == f'
  | .fp a, .fp b => AV.sames a b
  | .fs f n a, .fs g m b => f == g && n == m && AV.sames a b
  | .fn f a b, .fn g c d => f == g && AV.sames a c && AV.sames b d
  | .ifc t a, .ifc u b => t == u && a.same b
  | .agg a, .agg b => AV.sames a b
  | .tup a, .tup b => AV.sames a b
  | .itr a, .itr b => a == b
  | _, _ => false
def AV.sames : List AV → List AV → Bool
  | [], [] => true
  | a :: as, b :: bs => a.same b && AV.sames as bs
  | _, _ => false
end
/-- does the operation read the same in all these heaps? -/
def Env.steady (E : Env) (o : AOper) (s : St) : List Heap → Bool
  | [] => true
  | h :: hs =>
    (match E.op s.σ s.h o.op, E.op s.σ h o.op with
     | some r, some r' => r.v.same r'.v && (match r'.c with | .write => false | _ => true)
     | _, _ => false) && E.steady o s hs
/-- Two operations of a region that draws, the first ahead of the second in the text; are they ordered? If not: may they change places? -/
def Env.apart (E : Env) (ordered : Bool) (hs : List Heap) (x y : AOper × St × Cls) : Bool :=
  ordered ||
  match x.2.2, y.2.2 with
  | .none, _ | _, .none | .read, .read => true
  | .write, .write => false
  | .read, .write => E.steady x.1 x.2.1 hs
  | .write, .read => E.steady y.1 y.2.1 hs
def Env.apartAll (E : Env) (hs : List Heap) (x : AOper × St × Cls) (i : Nat) : List (AOper × St × Cls) → List Nat → Bool
  | y :: ys, m :: ms => E.apart (Nat.testBit m i) hs x y && E.apartAll hs x i ys ms
  | _, _ => true
def Env.drawOk (E : Env) (hs : List Heap) : Nat → List (AOper × St × Cls) → List Nat → Bool
  | i, x :: xs, _ :: ms => E.apartAll hs x i xs ms && E.drawOk hs (i + 1) xs ms
  | _, _, _ => true
def Env.draws (E : Env) (C : CallF) (l : List AOper) (before : List Nat) (s : St) : Option (AExit × St) :=
  (E.opsLog C l s).bind fun (s', log) =>
    if E.drawOk (s'.h :: log.map (fun x => x.2.1.h)) 0 log before then some (.norm, s') else none
def loopN (f : St → Option (AExit × St)) : Nat → St → Option (AExit × St)
  | 0, _ => none
  | n + 1, s => (f s).bind fun
    | (.norm, s') => loopN f n s'
    | r => some r
def Env.code (E : Env) (C : CallF) (n : Nat) : AC → St → Option (AExit × St)
  | .skip, s => some (.norm, s)
  | .ops l, s => E.ops C l s
  | .draw l b, s => E.draws C l b s
  | .seq x y, s => (E.code C n x s).bind fun
    | (.norm, s') => E.code C n y s'
    | r => some r
  | .cond c x y, s => (E.opd s.σ c).bind fun
    | .bool true => E.code C n x s
    | .bool false => E.code C n y s
    | _ => none
  | .block id b, s => (E.code C n b s).map fun
    | (.exit id', s') => if id' = id then (.norm, s') else (.exit id', s')
    | r => r
  | .loop b, s => loopN (E.code C n b) n s
  | .exit id, s => some (.exit id, s)
  | .scope b, s => E.code C n b s
  | .ret, s => some (.ret, s)
  | .bad, _ => none
def Env.results (E : Env) (s : St) : List ARes → Option (List AV)
  | [] => some []
  | .tmp t :: l => (E.results s l).map fun vs => s.σ.get t :: vs
  | .cell t agg sz :: l => (aLoad s.h agg sz (s.σ.get t)).bind fun r => (E.results s l).map fun vs => r.v :: vs
def oneOrTup : List AV → AV
  | [v] => v
  | vs => .tup vs
def Slots.ofList : Nat → List AV → Slots → Slots
  | _, [], σ => σ
  | i, v :: vs, σ => Slots.ofList (i + 1) vs (σ.put i v)
/-- A body's run, its results. -/
def Env.body (E : Env) (C : CallF) (n : Nat) (fn : AFunc) (args : List AV) (h : Heap) : Option COut :=
  (E.code C n fn.body ⟨Slots.ofList 0 args .empty, h⟩).bind fun
    | (.norm, s) | (.ret, s) => (E.results s fn.results).map fun vs => .ret ⟨oneOrTup vs, s.h, .write⟩
    | (.panic v, s) => some (.panic v s.h)
    | (.exit _, _) => none
inductive AMode where
  | ret
  | pan (v : AV)
  | cau (v : AV)
abbrev DC := Nat × List AV
def Env.dcode (E : Env) (C : CallF) (n : Nat) : AD → St → List DC → Option (AExit × St × List DC)
  | .code c, s, ds => (E.code C n c s).map fun (e, s') => (e, s', ds)
  | .dfr l f xs, s, ds => (E.ops C l s).bind fun
    | (.norm, s') => (E.opd s'.σ f).bind fun
      | .fn (.func g) a b => (E.opds s'.σ xs).map fun ys => (.norm, s', (g, a ++ ys ++ b) :: ds)
      | _ => none
    | (e, s') => some (e, s', ds)
  | .seq a b, s, ds => (E.dcode C n a s ds).bind fun
    | (.norm, s', ds') => E.dcode C n b s' ds'
    | r => some r
def AMode.told : AMode → AV × AMode
  | .pan v => (v, .cau v)
  | m => (.nili, m)
def AMode.settle : AMode → AMode
  | .cau _ => .ret
  | m => m
def Env.rbody (E : Env) (C : CallF) (n : Nat) (rf : RFunc) (args : List AV) (m : AMode) (h : Heap) : Option (AMode × Heap) :=
  (E.ops C rf.ops1 ⟨Slots.ofList 0 args .empty, h⟩).bind fun
    | (.norm, s1) => (E.ops C rf.ops2 (s1.put rf.dst m.told.1 s1.h)).bind fun
      | (.norm, s2) => (E.code C n rf.rest s2).bind fun
        | (.norm, s3) | (.ret, s3) => some (m.told.2, s3.h)
        | _ => none
      | _ => none
    | _ => none
/-- one deferred call -/
def Env.dcall (E : Env) (C : CallF) (n : Nat) (g : Nat) (args : List AV) (m : AMode) (h : Heap) : Option (AMode × Heap) :=
  match E.rfunc g with
  | some rf => E.rbody C n rf args m h
  | none => (E.func g).bind fun af => (E.body C n af args h).bind fun
    | .ret r => some (m, r.h)
    | .panic _ _ => none
def Env.unwind (E : Env) (C : CallF) (n : Nat) : List DC → AMode → Heap → Option (AMode × Heap)
  | [], m, h => some (m, h)
  | (g, args) :: ds, m, h => (E.dcall C n g args m h).bind fun (m', h') => E.unwind C n ds m'.settle h'
def AExit.mode : AExit → Option AMode
  | .norm | .ret => some .ret
  | .panic v => some (.pan v)
  | .exit _ => none
def Env.dbody (E : Env) (C : CallF) (n : Nat) (df : DFunc) (args : List AV) (h : Heap) : Option COut :=
  (E.dcode C n df.body ⟨Slots.ofList 0 args .empty, h⟩ []).bind fun (e, s, ds) =>
    e.mode.bind fun m => (E.unwind C n ds m s.h).bind fun
      | (.ret, h') => (E.results ⟨s.σ, h'⟩ df.results).map fun vs => .ret ⟨oneOrTup vs, h', .write⟩
      | (.pan v, h') => some (.panic v h')
      | (.cau _, _) => none
def Env.call (E : Env) : Nat → CallF
  | 0 => fun _ _ _ => none
  | n + 1 => fun f args h =>
    match E.prim f with
    | some p => (p args h).map fun (v, h') => .ret ⟨v, h', .write⟩
    | none => match E.func f with
      | none => (E.dfunc f).bind fun df => E.dbody (E.call n) n df args h
      | some fn => match E.pure_ f with
        | true =>
          match AV.noRefs args with
          | true => (E.body (E.call n) n fn args .empty).bind fun
            | .ret r => (freeze r.h n r.v).map fun v => .ret ⟨v, h, .none⟩
            | .panic _ _ => none
          | false => E.body (E.call n) n fn args h
        | false => E.body (E.call n) n fn args h
end Go.AM
