/- For BifCalls. -/
import GoSem.Dispatch
set_option linter.unusedVariables false
namespace Go.AM
theorem baa:type_of% @Bool.and_self:=@Bool.and_self
theorem bab:type_of% @Nat.le_refl:=@Nat.le_refl
theorem bac:type_of% @Option.bind_eq_some_iff:=@Option.bind_eq_some_iff
theorem bae:type_of% @Option.some.injEq:=@Option.some.injEq
theorem baf:type_of% @Nat.zero_add:=@Nat.zero_add
theorem bag:type_of% @Option.bind_some:=@Option.bind_some
theorem bah:type_of% @List.drop_zero:=@List.drop_zero
theorem bai:type_of% @Option.map_eq_some_iff:=@Option.map_eq_some_iff
theorem baj:type_of% @Bool.not_true:=@Bool.not_true
theorem bak:type_of% @Bool.not_false:=@Bool.not_false
theorem bal:type_of% @Nat.le_trans:=@Nat.le_trans
theorem bam:type_of% @Option.pure_def:=@Option.pure_def
theorem ban:type_of% @List.length_append:=@List.length_append
theorem bao:type_of% @List.drop_of_length_le:=@List.drop_of_length_le
theorem bap:type_of% @Option.bind_eq_bind:=@Option.bind_eq_bind
theorem baq:type_of% @Option.map_some:=@Option.map_some
theorem bar:type_of% @List.take_of_length_le:=@List.take_of_length_le
theorem bas:type_of% @List.getElem_mem:=@List.getElem_mem
theorem bat:type_of% @List.drop_eq_getElem_cons:=@List.drop_eq_getElem_cons
theorem bau:type_of% @Bool.and_eq_true:=@Bool.and_eq_true
theorem bav:type_of% @List.length_cons:=@List.length_cons
theorem baw:type_of% @Prod.mk.injEq:=@Prod.mk.injEq
theorem bax:type_of% @List.length_map:=@List.length_map
theorem bay:type_of% @List.length_eq_zero_iff:=@List.length_eq_zero_iff
theorem baz:type_of% @Nat.lt_of_lt_of_le:=@Nat.lt_of_lt_of_le
theorem bba:type_of% @List.map_cons:=@List.map_cons
theorem bbb:type_of% @Bool.true_and:=@Bool.true_and
theorem bbc:type_of% @Nat.zero_mul:=@Nat.zero_mul
theorem bbd:type_of% @Bool.false_and:=@Bool.false_and
theorem bbe:type_of% @List.nil_append:=@List.nil_append
theorem bbf:type_of% @Array.getElem?_eq_getElem:=@Array.getElem?_eq_getElem
theorem bbg:type_of% @List.length_take:=@List.length_take
theorem bbh:type_of% @Array.getElem?_eq_some_iff:=@Array.getElem?_eq_some_iff
theorem bbi:type_of% @List.mem_cons:=@List.mem_cons
theorem bbj:type_of% @List.append_nil:=@List.append_nil
theorem bbk:type_of% @Array.getD_eq_getD_getElem?:=@Array.getD_eq_getD_getElem?
theorem bbl:type_of% @List.length_drop:=@List.length_drop
theorem bbm:type_of% @Bool.false_eq_true:=@Bool.false_eq_true
theorem bbn:type_of% @List.mapM_cons:=@List.mapM_cons
theorem bbo:type_of% @Array.length_toList:=@Array.length_toList
theorem bbp:type_of% @List.append_assoc:=@List.append_assoc
theorem bbq:type_of% @List.getElem?_eq_getElem:=@List.getElem?_eq_getElem
theorem bbr:type_of% @List.getElem?_cons_zero:=@List.getElem?_cons_zero
theorem bbs:type_of% @List.getElem?_toArray:=@List.getElem?_toArray
theorem bbt:type_of% @List.getElem?_eq_some_iff:=@List.getElem?_eq_some_iff
theorem jaa:type_of% (And.intro (@Option.bind_eq_some_iff.{0,0}) (@Option.some.injEq.{0})):=And.intro (@Option.bind_eq_some_iff.{0,0}) (@Option.some.injEq.{0})
theorem jab:type_of% (And.intro (@Option.bind_some.{0,0}) (@Option.map_some.{0,0})):=And.intro (@Option.bind_some.{0,0}) (@Option.map_some.{0,0})
theorem jac:type_of% (And.intro (@Option.bind_eq_some_iff.{0,0}) (@Option.map_eq_some_iff.{0,0})):=And.intro (@Option.bind_eq_some_iff.{0,0}) (@Option.map_eq_some_iff.{0,0})
theorem jad:type_of% (And.intro (@List.drop_zero.{0}) (@if_true.{1})):=And.intro (@List.drop_zero.{0}) (@if_true.{1})
theorem jae:type_of% (And.intro (@Bool.and_self) (@_root_.eq_self.{1})):=And.intro (@Bool.and_self) (@_root_.eq_self.{1})
theorem jaf:type_of% (And.intro (@List.length_cons.{0}) (@List.length_nil.{0})):=And.intro (@List.length_cons.{0}) (@List.length_nil.{0})
theorem jag:type_of% (And.intro (@Bool.not_true) (@Nat.zero_add)):=And.intro (@Bool.not_true) (@Nat.zero_add)
theorem jah:type_of% (And.intro (@Bool.not_false) (@Nat.zero_add)):=And.intro (@Bool.not_false) (@Nat.zero_add)
theorem jai:type_of% (And.intro (@Nat.le_refl) (@and_true)):=And.intro (@Nat.le_refl) (@and_true)
theorem jaj:type_of% (And.intro (@List.drop_zero.{0}) (@Nat.zero_add)):=And.intro (@List.drop_zero.{0}) (@Nat.zero_add)
theorem jak:type_of% (And.intro (@Option.map_some.{0,0}) (@if_true.{1})):=And.intro (@Option.map_some.{0,0}) (@if_true.{1})
inductive AV where
 |bool (b:Bool)
 |int (k:IntKind) (n:Int)
 |str (s:List UInt8)
 |gC|ax|qt|qk|bL
 |ptr (id gen off:Nat)
 |sl (id gen off sz len:Nat) (cap:Option Nat)
 |fp (cells:List AV)
 |fs (full:Bool) (len:Nat) (cells:List AV)
 |fn (f:Fn) (first captured:List AV)
 |fN (t:TypeId) (v:AV)
 |agg (cells:List AV)
 |aF (vs:List AV)
 |xO (k:Nat)
instance:Inhabited AV:=⟨.aF []⟩
def AV.undef:AV:=.aF []
def AV.row:AV→Option (List AV)
 |.agg cs=>some cs
 |.aF _=>none
 |v=>some [v]
def AV.one:AV→Bool
 |.agg _|.aF _=>false
 |_=>true
inductive Tr (α:Type) where
 |nil
 |node (l:Tr α) (v:Option α) (r:Tr α)
namespace Tr
variable {α : Type}
def get:Tr α→Nat→Option α
 |.nil,_=>none
 |.node l v r,n=>
  match Nat.beq n 0 with
  |true=>v
  |false=>match Nat.beq (Nat.mod n 2) 1 with
   |true=>l.get (Nat.div n 2)
   |false=>r.get (Nat.sub (Nat.div n 2) 1)
def put:Nat→Tr α→Nat→Option α→Tr α
 |0,t,_,_=>t
 |f+1,.nil,n,x=>
  match Nat.beq n 0 with
  |true=>.node .nil x .nil
  |false=>match Nat.beq (Nat.mod n 2) 1 with
   |true=>.node (put f .nil (Nat.div n 2) x) none .nil
   |false=>.node .nil none (put f .nil (Nat.sub (Nat.div n 2) 1) x)
 |f+1,.node l v r,n,x=>
  match Nat.beq n 0 with
  |true=>.node l x r
  |false=>match Nat.beq (Nat.mod n 2) 1 with
   |true=>.node (put f l (Nat.div n 2) x) v r
   |false=>.node l v (put f r (Nat.sub (Nat.div n 2) 1) x)
def set (t:Tr α) (n:Nat) (x:Option α):Tr α:=put (n+1) t n x
theorem aa:∀(f:Nat) (t:Tr α) (n m:Nat) (x:Option α),n<f→(put f t n x).get m=if m=n then x else t.get m
 |0,_,_,_,_,h=>absurd h (Nat.not_lt_zero _)
 |f+1,t,n,m,x,h=>by
  have hd:n≠0→Nat.div n 2<f:=fun h0=>by have:n.div 2=n/2:=rfl;rw[this];omega
  have hd' :n≠0→Nat.sub (Nat.div n 2) 1<f:=fun h0=>by have h1:n.div 2=n/2:=rfl;have h2:(n/2).sub 1=n/2-1:=rfl;rw[h1,h2];omega
  have key:∀(a b:Nat),a≠0→b≠0→Nat.beq (Nat.mod a 2) 1=Nat.beq (Nat.mod b 2) 1→
    ((Nat.beq (Nat.mod a 2) 1=true→Nat.div b 2=Nat.div a 2→b=a)∧(Nat.beq (Nat.mod a 2) 1=false→Nat.sub (Nat.div b 2) 1=Nat.sub (Nat.div a 2) 1→b=a)):=by
   intro a b ha hb hab;have e1:∀c,Nat.mod c 2=c % 2:=fun _=>rfl
   have e2:∀c,Nat.div c 2=c/2:=fun _=>rfl
   have e3:∀c,Nat.sub c 1=c-1:=fun _=>rfl
   simp only[e1,e2,e3]at*
   constructor
   ·intro h1 h2
    rw[h1]at hab
    have h3:=Nat.eq_of_beq_eq_true h1
    have h4:=Nat.eq_of_beq_eq_true hab.symm
    omega
   ·intro h1 h2
    rw[h1]at hab
    have h3:=Nat.ne_of_beq_eq_false h1
    have h4:=Nat.ne_of_beq_eq_false hab.symm
    omega
  have b0:∀c,c≠0→Nat.beq c 0=false:=fun c hc=>by cases c with
   |zero=>exact absurd rfl hc
   |succ c=>rfl
  cases t with
  |nil=>
   by_cases hn:n=0
   ·subst hn
    simp only[put]
    by_cases hm:m=0
    ·subst hm;simp[get]
    ·simp only[get,b0 m hm,if_neg hm];cases Nat.beq (Nat.mod m 2) 1<;>rfl
   ·simp only[put,b0 n hn]
    cases hp:Nat.beq (Nat.mod n 2) 1 with
    |true=>
     by_cases hm:m=0
     ·subst hm;simp[get,Ne.symm hn]
     ·simp only[get,b0 m hm]
      cases hq:Nat.beq (Nat.mod m 2) 1 with
      |true=>
       simp only[aa f _ _ _ x (hd hn),get]
       by_cases he:m=n
       ·subst he;simp
       ·rw[if_neg he,if_neg (fun e=>he ((key n m hn hm (by rw[hp,hq])).1 hp e))]
      |false=>simp only[];rw[if_neg (fun e=>by rw[e,hp]at hq;cases hq)]
    |false=>
     by_cases hm:m=0
     ·subst hm;simp[get,Ne.symm hn]
     ·simp only[get,b0 m hm]
      cases hq:Nat.beq (Nat.mod m 2) 1 with
      |true=>simp only[];rw[if_neg (fun e=>by rw[e,hp]at hq;cases hq)]
      |false=>
       simp only[aa f _ _ _ x (hd' hn),get]
       by_cases he:m=n
       ·subst he;simp
       ·rw[if_neg he,if_neg (fun e=>he ((key n m hn hm (by rw[hp,hq])).2 hp e))]
  |node l v r=>
   by_cases hn:n=0
   ·subst hn
    simp only[put]
    by_cases hm:m=0
    ·subst hm;simp[get]
    ·simp only[get,b0 m hm,if_neg hm]
   ·simp only[put,b0 n hn]
    cases hp:Nat.beq (Nat.mod n 2) 1 with
    |true=>
     by_cases hm:m=0
     ·subst hm;simp[get,Ne.symm hn]
     ·simp only[get,b0 m hm]
      cases hq:Nat.beq (Nat.mod m 2) 1 with
      |true=>
       simp only[aa f _ _ _ x (hd hn)]
       by_cases he:m=n
       ·subst he;simp
       ·rw[if_neg he,if_neg (fun e=>he ((key n m hn hm (by rw[hp,hq])).1 hp e))]
      |false=>simp only[];rw[if_neg (fun e=>by rw[e,hp]at hq;cases hq)]
    |false=>
     by_cases hm:m=0
     ·subst hm;simp[get,Ne.symm hn]
     ·simp only[get,b0 m hm]
      cases hq:Nat.beq (Nat.mod m 2) 1 with
      |true=>simp only[];rw[if_neg (fun e=>by rw[e,hp]at hq;cases hq)]
      |false=>
       simp only[aa f _ _ _ x (hd' hn)]
       by_cases he:m=n
       ·subst he;simp
       ·rw[if_neg he,if_neg (fun e=>he ((key n m hn hm (by rw[hp,hq])).2 hp e))]
theorem o4 (t:Tr α) (n m:Nat) (x:Option α):(t.set n x).get m=if m=n then x else t.get m:=
 aa _ _ _ _ _ (Nat.lt_succ_self n)
end Tr
structure SA where
 gen:Nat
 cells:List AV
structure Heap where
 next:Nat
 tr:Tr SA
 gg:List (List UInt8×Nat)
namespace Heap
def empty:Heap:=⟨0,.nil,[]⟩
def look (h:Heap) (id:Nat):Option SA:=h.tr.get id
def at_ (h:Heap) (id gen:Nat):Option (List AV):=
 match h.tr.get id with
 |some o=>match Nat.beq o.gen gen with
  |true=>some o.cells
  |false=>none
 |none=>none
def new (h:Heap) (cs:List AV):Heap:=⟨Nat.succ h.next,h.tr.set h.next (some ⟨0,cs⟩),h.gg⟩
def cD (h:Heap) (id gen:Nat) (cs:List AV):Heap:=⟨h.next,h.tr.set id (some ⟨gen,cs⟩),h.gg⟩
end Heap
inductive eN where
 |t (n:Nat)
 |c (v:AV)
 |g (n:Nat)
inductive dB where
 |none|read|write
 deriving DecidableEq
inductive Le where
 |bool|int|str|ptr|slice|map|func
 |iface (lit:Bool)
 |struct (fs:List (Nat×Nat×Bool×Le))
inductive CvT where
 |int (k:IntKind)
 |rune
 |same
 |Ui|Ld|s2r|r2s
 |b2b
inductive jo where
 |mv (x:eN)
 |pick (c a b:eN)
 |alloc (zero:List AV)
 |box (fr:Bool) (sz:Nat) (x:eN)
 |build (zero:List AV) (parts:List (Nat×Nat×eN))
 |lit (fr:Bool) (sz len:Nat) (cells:List AV) (parts:List (Nat×Nat×eN))
 |load (agg:Bool) (sz:Nat) (x:eN)
 |store (sz:Nat) (x v:eN)
 |nilCheck (x:eN)
 |bin (op:BinOp) (x y:eN)
 |eq (neg:Bool) (e:Le) (x y:eN)
 |un (op:UnOp) (x:eN)
 |conv (c:CvT) (x:eN)
 |dU (t:TypeId) (x:eN)
 |lC (f:Fn) (first captured:List eN)
 |makeSlice (sz bytes:Nat) (zero:List AV) (l c:eN)
 |slice (sz:Nat) (x:eN) (lo hi mx:Option eN)
 |ey (x:eN) (lo hi:Option eN)
 |hM (sz n:Nat) (x:eN) (lo hi mx:Option eN)
 |fieldAddr (off:Nat) (x:eN)
 |field (agg:Bool) (sz off:Nat) (x:eN)
 |cL (sz:Nat) (x i:eN)
 |eC (sz n:Nat) (x i:eN)
 |dD (x i:eN)
 |o5 (agg:Bool) (sz n:Nat) (x i:eN)
 |extract (x:eN) (i:Nat)
 |len (str:Bool) (x:eN)
 |append (sz bytes:Nat) (x y:eN)
 |copy (sz:Nat) (x y:eN)
 |iF (mx:Bool) (x y:eN)
 |cap (x:eN)
 |kU (sz bytes:Nat) (zero:List AV) (x y:eN)
 |clear (sz:Nat) (zero:List AV) (x:eN)
 |range (x:eN)
 |next (x:eN)
 |call (f:Nat) (args:List eN)
 |kr (f:eN) (args:List eN)
 |panic (x:eN)
 |bad
def eN.fM:eN→List Nat
 |.t n=>[n]
 |_=>[]
def wV:Option eN→List Nat
 |some x=>x.fM
 |none=>[]
def qu:List eN→List Nat
 |[]=>[]
 |x::xs=>x.fM++qu xs
def Ai:List (Nat×Nat×eN)→List Nat
 |[]=>[]
 |(_,_,x)::xs=>x.fM++Ai xs
def jo.reads:jo→List Nat
 |.mv x|.cap x|.clear _ _ x|.range x|.next x|.box _ _ x|.load _ _ x|.nilCheck x|.un _ x|.conv _ x|.dU _ x|.fieldAddr _ x|.field _ _ _ x|.extract x _|.len _ x|.panic x=>x.fM
 |.pick c a b=>c.fM++(a.fM++b.fM)
 |.build _ ps|.lit _ _ _ _ ps=>Ai ps
 |.store _ x y|.bin _ x y|.eq _ _ x y|.makeSlice _ _ _ x y|.cL _ x y|.eC _ _ x y|.dD x y|.o5 _ _ _ x y|.append _ _ x y|.kU _ _ _ x y|.copy _ x y|.iF _ x y=>x.fM++y.fM
 |.lC _ a b=>qu a++qu b
 |.slice _ x lo hi mx|.hM _ _ x lo hi mx=>x.fM++(wV lo++(wV hi++wV mx))
 |.ey x lo hi=>x.fM++(wV lo++wV hi)
 |.call _ l=>qu l
 |.kr f l=>f.fM++qu l
 |.alloc _|.bad=>[]
structure aH where
 dst:Option Nat
 op:jo
 guard:Option (Nat×Bool)
@[reducible] def mV (d n:Nat):aH:=⟨some d,.mv (.t n),none⟩
@[reducible] def oP (d:Nat) (o:jo):aH:=⟨some d,o,none⟩
@[reducible] def oN (o:jo):aH:=⟨none,o,none⟩
@[reducible] def oG (d:Nat) (o:jo) (t:Nat) (b:Bool):aH:=⟨some d,o,some (t,b)⟩
def aI (d:Nat) (n:Int):aH:=oP d (.mv (.c (.int .i64 n)))
def bF (d:Nat) (a:Nat) (s:List UInt8):aH:=oP d (.bin .eql (.t a) (.c (.str s)))
def cq (d:Nat) (a:Nat) (n:Int):aH:=oP d (.bin .eql (.t a) (.c (.int .i64 n)))
def aP (d:Nat) (k:Nat) (a:Nat):aH:=oP d (.load false k (.t a))
def bm (d:Nat) (k:Nat) (a:Nat):aH:=oP d (.load true k (.t a))
def aV (d:Nat) (k:Nat) (a:Nat):aH:=oP d (.fieldAddr k (.t a))
def aO (k:Nat) (a:Nat) (b:Nat):aH:=oN (.store k (.t a) (.t b))
def bS (d:Nat) (a:Nat) (k:Nat):aH:=oP d (.extract (.t a) k)
def dh (d:Nat) (k:Nat) (a:Nat) (n:Int):aH:=oP d (.cL k (.t a) (.c (.int .i64 n)))
def dV (d:Nat) (k:Nat) (a:Nat) (b:Nat):aH:=oP d (.cL k (.t a) (.t b))
def bT (d:Nat) (k:Nat) (a:Nat):aH:=oP d (.call k [.t a])
def cQ (d:Nat) (k:Nat) (a:Nat) (b:Nat):aH:=oP d (.call k [.t a,.t b])
def c9 (d:Nat) (a:Nat) (b:Nat):aH:=oP d (.pick (.t a) (.t b) (.c (.bool false)))
def db (d:Nat) (a:Nat) (b:Nat):aH:=oP d (.pick (.t a) (.c (.bool true)) (.t b))
def dS (d:Nat) (a:Nat) (n:Int):aH:=oP d (.bin .add (.t a) (.c (.int .i64 n)))
def cK (d:Nat) (a:Nat):aH:=oP d (.len false (.t a))
def cE (d:Nat) (b:Bool):aH:=oP d (.mv (.c (.bool b)))
def dQ (d:Nat) (a:Nat) (b:Nat):aH:=oP d (.bin .lss (.t a) (.t b))
def br (d:Nat) (a:Nat) (k:Nat) (b:Bool):aH:=oG d (.mv (.t a)) k b
def cy (d:Nat) (n:Nat) (a:Nat) (k:Nat) (b:Bool):aH:=oG d (.load false n (.t a)) k b
def cM (d:Nat) (n:Nat) (a:Nat) (k:Nat) (b:Bool):aH:=oG d (.fieldAddr n (.t a)) k b
def gR (d:Nat) (a:Nat) (n:Int) (k:Nat) (b:Bool):aH:=oG d (.bin .eql (.t a) (.c (.int .i64 n))) k b
theorem adP {d:Nat} {n:Int}:aI d n=oP d (.mv (.c (.int .i64 n))):=id rfl
theorem adQ {d:Nat} {a:Nat} {s:List UInt8}:bF d a s=oP d (.bin .eql (.t a) (.c (.str s))):=id rfl
theorem adR {d:Nat} {a:Nat} {n:Int}:cq d a n=oP d (.bin .eql (.t a) (.c (.int .i64 n))):=id rfl
theorem adS {d:Nat} {k:Nat} {a:Nat}:aP d k a=oP d (.load false k (.t a)):=id rfl
theorem adT {d:Nat} {k:Nat} {a:Nat}:bm d k a=oP d (.load true k (.t a)):=id rfl
theorem adU {d:Nat} {k:Nat} {a:Nat}:aV d k a=oP d (.fieldAddr k (.t a)):=id rfl
theorem adV {k:Nat} {a:Nat} {b:Nat}:aO k a b=oN (.store k (.t a) (.t b)):=id rfl
theorem adW {d:Nat} {a:Nat} {k:Nat}:bS d a k=oP d (.extract (.t a) k):=id rfl
theorem adX {d:Nat} {k:Nat} {a:Nat} {n:Int}:dh d k a n=oP d (.cL k (.t a) (.c (.int .i64 n))):=id rfl
theorem adY {d:Nat} {k:Nat} {a:Nat} {b:Nat}:dV d k a b=oP d (.cL k (.t a) (.t b)):=id rfl
theorem adZ {d:Nat} {k:Nat} {a:Nat}:bT d k a=oP d (.call k [.t a]):=id rfl
theorem ad0 {d:Nat} {k:Nat} {a:Nat} {b:Nat}:cQ d k a b=oP d (.call k [.t a,.t b]):=id rfl
theorem ad1 {d:Nat} {a:Nat} {b:Nat}:c9 d a b=oP d (.pick (.t a) (.t b) (.c (.bool false))):=id rfl
theorem ad2 {d:Nat} {a:Nat} {b:Nat}:db d a b=oP d (.pick (.t a) (.c (.bool true)) (.t b)):=id rfl
theorem ad3 {d:Nat} {a:Nat} {n:Int}:dS d a n=oP d (.bin .add (.t a) (.c (.int .i64 n))):=id rfl
theorem ad4 {d:Nat} {a:Nat}:cK d a=oP d (.len false (.t a)):=id rfl
theorem ad5 {d:Nat} {b:Bool}:cE d b=oP d (.mv (.c (.bool b))):=id rfl
theorem ad6 {d:Nat} {a:Nat} {b:Nat}:dQ d a b=oP d (.bin .lss (.t a) (.t b)):=id rfl
theorem ad7 {d:Nat} {a:Nat} {k:Nat} {b:Bool}:br d a k b=oG d (.mv (.t a)) k b:=id rfl
theorem ad8 {d:Nat} {n:Nat} {a:Nat} {k:Nat} {b:Bool}:cy d n a k b=oG d (.load false n (.t a)) k b:=id rfl
theorem ad9 {d:Nat} {n:Nat} {a:Nat} {k:Nat} {b:Bool}:cM d n a k b=oG d (.fieldAddr n (.t a)) k b:=id rfl
theorem ad_ {d:Nat} {a:Nat} {n:Int} {k:Nat} {b:Bool}:gR d a n k b=oG d (.bin .eql (.t a) (.c (.int .i64 n))) k b:=id rfl
def bA:List AV:=[(.int .i64 0),(.int .i64 0),(.str []),(.int .u32 0),.ax,.ax]
theorem aea:bA=[(.int .i64 0),(.int .i64 0),(.str []),(.int .u32 0),.ax,.ax]:=id rfl
def dM:List AV:=[(.str []),(.int .i64 0),(.int .i64 0),(.bool false)]
theorem aeb:dM=[(.str []),(.int .i64 0),(.int .i64 0),(.bool false)]:=id rfl
abbrev ak:=List aH
def qaa (d:Nat) (s:List UInt8) (a:Int) (b:Int) (c:Bool):aH:=oP d (.build dM [(0,1,(.c (.str s))),(1,1,(.c (.int .i64 a))),(2,1,(.c (.int .i64 b))),(3,1,(.c (.bool c)))])
theorem qah {d:Nat} {s:List UInt8} {a:Int} {b:Int} {c:Bool}:qaa d s a b c=oP d (.build dM [(0,1,(.c (.str s))),(1,1,(.c (.int .i64 a))),(2,1,(.c (.int .i64 b))),(3,1,(.c (.bool c)))]):=id rfl
def qab (d:Nat) (k:Nat) (a:Nat) (b:Nat) (c:Nat):aH:=oP d (.append k a (.t b) (.t c))
theorem qai {d:Nat} {k:Nat} {a:Nat} {b:Nat} {c:Nat}:qab d k a b c=oP d (.append k a (.t b) (.t c)):=id rfl
def qac (d:Nat) (k:Nat) (a:Nat):aH:=oP d (.box false k (.t a))
theorem qaj {d:Nat} {k:Nat} {a:Nat}:qac d k a=oP d (.box false k (.t a)):=id rfl
def qad (d:Nat) (k:Nat) (s:List UInt8):aH:=oP d (.call k [(.c (.str s))])
theorem qak {d:Nat} {k:Nat} {s:List UInt8}:qad d k s=oP d (.call k [(.c (.str s))]):=id rfl
def qae (d:Nat):aH:=oP d (.build bA [])
theorem qal {d:Nat}:qae d=oP d (.build bA []):=id rfl
def qaf (d:Nat):aH:=oP d (.alloc bA)
theorem qam {d:Nat}:qaf d=oP d (.alloc bA):=id rfl
theorem aec {d n:Nat}:mV d n=⟨some d,.mv (.t n),none⟩:=id rfl
theorem aed {d:Nat} {o:jo}:oP d o=⟨some d,o,none⟩:=id rfl
theorem aee {o:jo}:oN o=⟨none,o,none⟩:=id rfl
theorem aef {d:Nat} {o:jo} {t:Nat} {b:Bool}:oG d o t b=⟨some d,o,some (t,b)⟩:=id rfl
def aH.looks (o:aH):List Nat:=(match o.guard with
 |some (g,_)=>[g]
 |none=>[])++o.op.reads
def aH.mh (x y:aH):Bool:=
 (match x.dst with
  |some d=>y.looks.contains d||y.dst==some d
  |none=>false)||
 (match y.dst with
  |some d=>x.looks.contains d
  |none=>false)
def o6 (x:aH) (i:Nat):List aH→List Nat→Bool
 |y::ys,m::ms=>(!(x.mh y)||Nat.testBit m i)&&o6 x i ys ms
 |_,_=>true
def rV:Nat→List aH→List Nat→Bool
 |i,x::xs,_::ms=>o6 x i xs ms&&rV (i+1) xs ms
 |_,_,_=>true
inductive AC where
 |skip
 |ops (l:List aH)
 |draw (l:List aH) (before:List Nat)
 |seq (a b:AC)
 |cond (c:eN) (x y:AC)
 |block (id:Nat) (b:AC)
 |loop (b:AC)
 |exit (id:Nat)
 |scope (b:AC)
 |ret
 |bad
@[reducible] def bbu (a:List aH) (c:AC):AC:=.seq (.ops a) c
@[reducible] def bbv (n:Nat) (a b:AC):AC:=.cond (.t n) a b
inductive ET where
 |tmp (t:Nat)
 |cell (t:Nat) (agg:Bool) (sz:Nat)
structure aS where
 results:List ET
 body:AC
structure Env where
 func:Nat→Option aS
 jn:Nat→Option (List AV)
 kO:Nat→Bool
 nU:Nat→Option (List AV→Heap→Option (AV×Heap))
 ok:Nat→World→Prop:=fun _ _=>True
structure cB where
 v:AV
 h:Heap
 c:dB
def bp (agg:Bool) (sz:Nat) (cs:List AV):Option AV:=
 match agg with
 |true=>if sz≤cs.length then some (.agg (cs.take sz))else none
 |false=>cs.head?
def bU (cs:List AV) (off:Nat) (new:List AV):List AV:=cs.take off++new++cs.drop (off+new.length)
def bg (h:Heap) (agg:Bool) (sz:Nat):AV→Option cB
 |.ptr id gen off=>(h.at_ id gen).bind fun cs=>(bp agg sz (cs.drop off)).map fun v=>⟨v,h,.read⟩
 |.fp cs=>(bp agg sz cs).map fun v=>⟨v,h,.none⟩
 |_=>none
def bC (h:Heap) (sz:Nat) (x v:AV):Option cB:=
 match x with
 |.ptr id gen off=>(h.at_ id gen).bind fun cs=>v.row.bind fun vs=>
   if vs.length=sz∧off+sz≤cs.length then some ⟨.undef,h.cD id gen (bU cs off vs),.write⟩else none
 |_=>none
def bY:List AV→List (Nat×Nat×AV)→Option (List AV)
 |cs,[]=>some cs
 |cs,(off,sz,v)::rest=>v.row.bind fun vs=>if vs.length=sz∧off+sz≤cs.length then bY (bU cs off vs) rest else none
def hS (op:BinOp) (k:IntKind) (a b:Int):Option AV:=
 match op with
 |.add=>some (.int k (k.wrap (a+b)))
 |.sub=>some (.int k (k.wrap (a-b)))
 |.mul=>some (.int k (k.wrap (a*b)))
 |.quo=>if b=0 then none else some (.int k (k.wrap (a.tdiv b)))
 |.rem=>if b=0 then none else some (.int k (a.tmod b))
 |.and=>some (.int k (k.wrap (BitVec.ofInt k.bits a&&&BitVec.ofInt k.bits b).toNat))
 |.or=>some (.int k (k.wrap (BitVec.ofInt k.bits a|||BitVec.ofInt k.bits b).toNat))
 |.xor=>some (.int k (k.wrap (BitVec.ofInt k.bits a^^^BitVec.ofInt k.bits b).toNat))
 |.andNot=>some (.int k (k.wrap (BitVec.ofInt k.bits a&&& ~~~(BitVec.ofInt k.bits b)).toNat))
 |.eql=>some (.bool (a==b))
 |.neq=>some (.bool (a !=b))
 |.lss=>some (.bool (decide (a<b)))
 |.leq=>some (.bool (decide (a≤b)))
 |.gtr=>some (.bool (decide (a>b)))
 |.geq=>some (.bool (decide (a≥b)))
 |_=>none
def Lf (op:BinOp) (k:IntKind) (a b:Int):Option AV:=
 if b<0 then none else
 match op with
 |.shl=>some (.int k (k.wrap (a*2^(min b.toNat k.bits))))
 |.shr=>some (.int k (a.fdiv (2^(min b.toNat k.bits))))
 |_=>none
def aD (op:BinOp) (x y:List UInt8):Option AV:=
 match op with
 |.add=>if x.length+y.length≤9223372036854775807 then some (.str (x++y))else none
 |.eql=>some (.bool (x==y))
 |.neq=>some (.bool !(x==y))
 |.lss=>some (.bool (Op.bytesLess x y))
 |.leq=>some (.bool (Op.bytesLess x y||x==y))
 |.gtr=>some (.bool !(Op.bytesLess x y||x==y))
 |.geq=>some (.bool !(Op.bytesLess x y))
 |_=>none
def kx (op:BinOp):AV→AV→Option AV
 |.int k a,.int k' b=>
  match op with
  |.shl|.shr=>Lf op k a b
  |_=>if k=k' then hS op k a b else none
 |.str a,.str b=>aD op a b
 |_,_=>none
def dm (op:UnOp):AV→Option AV
 |.int k n=>
  match op with
  |.neg=>some (.int k (k.wrap (0-n)))
  |.xor=>some (.int k (k.wrap (BitVec.ofInt k.bits (if k.signed then-1 else k.max)^^^BitVec.ofInt k.bits n).toNat))
  |_=>none
 |.bool b=>match op with|.not=>some (.bool !b)|_=>none
 |_=>none
def fU (e:Le) (x y:AV):Option Bool:=
 match e with
 |.bool=>match x with
  |.bool a=>match y with
   |.bool b=>some (a==b)
   |_=>none
  |_=>none
 |.int=>match x with
  |.int k a=>match y with
   |.int k' b=>if k=k' then some (a==b)else none
   |_=>none
  |_=>none
 |.str=>match x with
  |.str a=>match y with
   |.str b=>some (a==b)
   |_=>none
  |_=>none
 |.ptr=>match x with
  |.gC=>match y with
   |.gC=>some true
   |.ptr .. |.fp _=>some false
   |_=>none
  |.ptr .. |.fp _=>match y with
   |.gC=>some false
   |_=>none
  |_=>none
 |.slice=>match x with
  |.ax=>match y with
   |.ax=>some true
   |.sl .. |.fs .. =>some false
   |_=>none
  |.sl .. |.fs .. =>match y with
   |.ax=>some false
   |_=>none
  |_=>none
 |.map=>match x with
  |.qt=>match y with
   |.qt=>some true
   |_=>none
  |_=>none
 |.func=>match x with
  |.qk=>match y with
   |.qk=>some true
   |.fn .. =>some false
   |_=>none
  |.fn .. =>match y with
   |.qk=>some false
   |_=>none
  |_=>none
 |.iface lit=>match x with
  |.bL=>match y with
   |.bL=>match lit with
    |true=>some true
    |false=>none
   |.fN .. =>some false
   |_=>none
  |.fN t _=>match y with
   |.bL=>some false
   |.fN u _=>if t=u then none else some false
   |_=>none
  |_=>none
 |.struct _=>none
def sX (neg r:Bool):Bool:=match neg with
 |true=> !r
 |false=>r
def partOf (agg:Bool) (sz off:Nat) (cs:List AV):Option AV:=
 match agg with
 |true=>some (.agg ((cs.drop off).take sz))
 |false=>cs[off]?
def SB:List (Nat×Nat×Bool×Le)→List AV→List AV→Option Bool
 |[],_,_=>some true
 |(off,_,false,e)::fs,xs,ys=>
  (xs[off]?).bind fun a=>(ys[off]?).bind fun b=>(fU e a b).bind fun r=>match r with|true=>SB fs xs ys|false=>some false
 |_,_,_=>none
def uS (e:Le) (x y:AV):Option Bool:=
 match e with
 |.struct fs=>match x,y with
  |.agg xs,.agg ys=>SB fs xs ys
  |_,_=>none
 |e=>fU e x y
def bK (b:UInt8):AV:=.int .u8 b.toNat
def toByte:AV→Option UInt8
 |.int .u8 n=>some (UInt8.ofNat n.toNat)
 |_=>none
def aT (h:Heap) (sz n:Nat):AV→Option (List AV×dB)
 |.ax=>if n=0 then some ([],.none)else none
 |.fs _ len cs=>if n≤len∧cs.length=len*sz then some (cs.take (n*sz),.none)else none
 |.sl id gen off sz' len _=>if sz' =sz∧n≤len then
   (h.at_ id gen).bind fun cs=>if off+n*sz≤cs.length then some ((cs.drop off).take (n*sz),.read)else none
  else none
 |.str s=>if sz=1∧n≤s.length then some ((s.take n).map bK,.none)else none
 |_=>none
def cr:AV→Option Nat
 |.ax=>some 0
 |.fs _ len _=>some len
 |.sl _ _ _ _ len _=>some len
 |.str s=>some s.length
 |_=>none
def dW (s:ByteArray):Nat→Nat→List Int
 |0,_=>[]
 |b+1,i=>if i<s.size then Int.ofNat (Utf8.decode s i).1::dW s b (i+(Utf8.decode s i).2)else[]
def gH (n:Int):AV:=.int .i32 n
def di (h:Heap) (c:CvT) (x:AV):Option cB:=
 match c with
 |.int k=>match x with|.int _ n=>some ⟨.int k (k.wrap n),h,.none⟩|_=>none
 |.rune=>match x with|.int _ n=>some ⟨.str (Utf8.encode n).data.toList,h,.none⟩|_=>none
 |.same=>match x with|.str s=>some ⟨.str s,h,.none⟩|_=>none
 |.Ui=>match x with
  |.str s=>some ⟨.sl h.next 0 0 1 s.length none,h.new (s.map bK),.write⟩
  |_=>none
 |.Ld=>match x with
  |.str _=>none
  |x=>(cr x).bind fun n=>(aT h 1 n x).bind fun(cs,k)=>(cs.mapM toByte).map fun bs=>⟨.str bs,h,k⟩
 |.r2s=>none
 |.s2r=>match x with
  |.str s=>some ⟨.sl h.next 0 0 1 (dW ⟨s.toArray⟩ s.length 0).length none,h.new ((dW ⟨s.toArray⟩ s.length 0).map gH),.write⟩
  |_=>none
 |.b2b=>match x with
  |.sl id gen off sz len (some c)=>if len=c∧0<c then(h.at_ id gen).bind fun cs=>if off=0∧cs.length=len*sz then some ⟨x,h.cD id gen cs,.write⟩else none else none
  |_=>none
def lD (y:Nat):AV→Option Nat
 |.int _ i=>if 0≤i∧i≤y then some i.toNat else none
 |_=>none
def bounds (len cap:Nat) (lo hi mx:Option AV):Option (Nat×Nat×Nat):=
 (match mx with|some v=>lD cap v|none=>some cap).bind fun m=>
 (match hi,mx with|some v,_=>lD m v|none,none=>some len|none,some _=>none).bind fun h=>
 (match lo with|some v=>lD h v|none=>some 0).map fun l=>(l,h,m)
def cU (sz:Nat) (x:AV) (lo hi mx:Option AV):Option AV:=
 match x with
 |.ax=>(bounds 0 0 lo hi mx).map fun _=>.ax
 |.sl id gen off sz' len cap=>if sz' =sz then
   match cap with
   |some c=>(bounds len c lo hi mx).map fun(l,h,m)=>.sl id gen (off+l*sz) sz (h-l) (some (m-l))
   |none=>(bounds len len lo hi mx).map fun(l,h,m)=>.sl id gen (off+l*sz) sz (h-l) (mx.map fun _=>m-l)
  else none
 |.fs full len cs=>if cs.length=len*sz then
   (bounds len len lo hi mx).map fun(l,h,m)=>
    .fs (match mx with|some _=>m==h|none=>full&&h==len) (h-l) ((cs.drop (l*sz)).take ((h-l)*sz))
  else none
 |_=>none
def ik (x:AV) (lo hi:Option AV):Option AV:=
 match x with
 |.str s=>(bounds s.length s.length lo hi none).map fun(l,h,_)=>.str ((s.drop l).take (h-l))
 |_=>none
def jP (h:Heap) (sz n:Nat) (x:AV) (lo hi mx:Option AV):Option cB:=
 match x with
 |.ptr id gen off=>(h.at_ id gen).bind fun cs=>if off+n*sz≤cs.length then
   (bounds n n lo hi mx).map fun(l,u,m)=>⟨.sl id gen (off+l*sz) sz (u-l) (some (m-l)),h,.read⟩
  else none
 |.fp cs=>if n*sz≤cs.length then
   (bounds n n lo hi mx).map fun(l,u,m)=>⟨.fs (m==u) (u-l) ((cs.drop (l*sz)).take ((u-l)*sz)),h,.none⟩
  else none
 |_=>none
def c_ (n:Nat):AV→Option Nat
 |.int _ i=>if 0≤i∧i<n then some i.toNat else none
 |_=>none
def aZ (sz:Nat) (x i:AV):Option AV:=
 match x with
 |.sl id gen off sz' len _=>if sz' =sz then(c_ len i).map fun j=>.ptr id gen (off+j*sz)else none
 |.fs _ len cs=>match cs with
  |[]=>none
  |_::_=>(c_ len i).map fun j=>.fp (cs.drop (j*sz))
 |_=>none
def ky (sz n:Nat) (x i:AV):Option AV:=
 match x with
 |.ptr id gen off=>(c_ n i).map fun j=>.ptr id gen (off+j*sz)
 |.fp cs=>(c_ n i).map fun j=>.fp (cs.drop (j*sz))
 |_=>none
def b9 (h:Heap) (sz bytes:Nat) (x y:AV):Option cB:=
 (cr y).bind fun n=>(cr x).bind fun len=>
 if(len+n)*bytes≤70368744177664∧len+n≤70368744177664∧0<sz then
  if n=0 then(match x with|.str _=>none|_=>some ⟨x,h,.none⟩)else
  (aT h sz n y).bind fun(new,_)=>
  let grown:Option cB:=(aT h sz len x).map fun(old,_)=>⟨.sl h.next 0 0 sz (len+n) none,h.new (old++new),.write⟩
  match x with
  |.ax=>grown
  |.fs true _ _=>grown
  |.sl id gen off sz' _ (some c)=>
   if sz' =sz then
    if len+n≤c then
     (h.at_ id gen).bind fun cs=>
      if off+(len+n)*sz≤cs.length then
       some ⟨.sl id gen off sz (len+n) (some c),h.cD id gen (bU cs (off+len*sz) new),.write⟩
      else none
    else grown
   else none
  |.sl id gen off sz' _ none=>
   if sz' =sz then
    (h.at_ id gen).bind fun cs=>
     if off+(len+n)*sz≤cs.length then
      some ⟨.sl id gen off sz (len+n) none,h.cD id gen (bU cs (off+len*sz) new),.write⟩
     else if off+len*sz=cs.length then
      some ⟨.sl id (Nat.succ gen) 0 sz (len+n) none,h.cD id (Nat.succ gen) (cs.drop off++new),.write⟩
     else none
   else none
  |_=>none
 else none
def jQ (h:Heap) (sz bytes:Nat) (zero:List AV) (l c:AV):Option cB:=
 match l,c with
 |.int .i64 l,.int .i64 c=>
  if 0≤l∧l≤c∧bytes*c≤70368744177664∧c≤70368744177664∧zero.length=sz then
   some ⟨.sl h.next 0 0 sz l.toNat (some c.toNat),h.new (List.replicate c.toNat zero).flatten,.write⟩
  else none
 |_,_=>none
def jq (h:Heap) (sz:Nat) (x:AV) (lo hi mx:Option AV):Option cB:=
 match x,hi,mx with
 |.sl id gen off sz' len none,some u,none=>if sz' =sz∧0<sz then
   (h.at_ id gen).bind fun cs=>(bounds len ((cs.length-off)/sz) lo (some u) none).map fun(l,u,_)=>⟨.sl id gen (off+l*sz) sz (u-l) none,h,.read⟩
  else none
 |_,_,_=>none
def aa5:AV→Option AV
 |.ax=>some (.int .i64 0)
 |.fs true n _=>some (.int .i64 n)
 |.sl _ _ _ _ _ (some c)=>some (.int .i64 c)
 |_=>none
def jr (h:Heap) (sz bytes:Nat) (zero:List AV) (x y:AV):Option cB:=
 match x,y with
 |.ax,.int .i64 k=>if 0<k∧k*bytes≤70368744177664∧k≤70368744177664∧0<sz∧zero.length=sz then
   some ⟨.sl h.next 0 0 sz k.toNat none,h.new (List.replicate k.toNat zero).flatten,.write⟩
  else none
 |_,_=>none
def lE (h:Heap) (sz:Nat) (zero:List AV) (x:AV):Option cB:=
 match x with
 |.ax=>some ⟨.undef,h,.none⟩
 |.fs _ len _=>if len=0 then some ⟨.undef,h,.none⟩else none
 |.sl id gen off sz' len _=>if len=0 then some ⟨.undef,h,.none⟩else if sz' =sz∧zero.length=sz then
   (h.at_ id gen).bind fun cs=>if off+len*sz≤cs.length then some ⟨.undef,h.cD id gen (bU cs off (List.replicate len zero).flatten),.write⟩else none
  else none
 |_=>none
def xP (h:Heap) (sz:Nat) (x y:AV):Option cB:=
 (cr y).bind fun m=>
 match x with
 |.ax=>some ⟨.int .i64 0,h,.none⟩
 |.fs _ len _=>if min m len=0 then some ⟨.int .i64 0,h,.none⟩else none
 |.sl id gen off sz' len _=>if min m len=0 then some ⟨.int .i64 0,h,.none⟩else if sz' =sz then
   (aT h sz (min m len) y).bind fun(new,_)=>(h.at_ id gen).bind fun cs=>
    if off+min m len*sz≤cs.length then some ⟨.int .i64 (min m len:Nat),h.cD id gen (bU cs off new),.write⟩else none
  else none
 |_=>none
def Heap.walk (h:Heap) (s:List UInt8):Heap:={h with gg:=h.gg++[(s,0)]}
def Heap.step (h:Heap) (k:Nat) (s:List UInt8) (p:Nat):Heap:={h with gg:=h.gg.set k (s,p)}
def uT (h:Heap) (k:Nat):Option cB:=
 match h.gg[k]? with
 |some (s,p)=>if p<s.length then
   some ⟨.aF [.bool true,.int .i64 p,.int .i32 (Utf8.decode ⟨s.toArray⟩ p).1],h.step k s (p+(Utf8.decode ⟨s.toArray⟩ p).2),.write⟩
  else some ⟨.aF [.bool false],h,.write⟩
 |none=>none
def gu (mx:Bool):AV→AV→Option AV
 |.int k x,.int k' y=>if k=k' then some (.int k (match mx with|true=>if y>x then y else x|false=>if y<x then y else x))else none
 |_,_=>none
def ah:=Tr AV
def ah.empty:ah:=Tr.nil
def ah.get (σ:ah) (n:Nat):AV:=match Tr.get σ n with|some v=>v|none=>.undef
def ah.put (σ:ah) (n:Nat) (v:AV):ah:=Tr.set σ n (some v)
def Env.eM (E:Env) (σ:ah):eN→Option AV
 |.t n=>some (σ.get n)
 |.c v=>some v
 |.g n=>(E.jn n).map .fp
def Env.nV (E:Env) (σ:ah):List eN→Option (List AV)
 |[]=>some []
 |x::xs=>(E.eM σ x).bind fun v=>(E.nV σ xs).map fun vs=>v::vs
def Env.kV (E:Env) (σ:ah):Option eN→Option (Option AV)
 |none=>some none
 |some x=>(E.eM σ x).map some
def Env.parts (E:Env) (σ:ah):List (Nat×Nat×eN)→Option (List (Nat×Nat×AV))
 |[]=>some []
 |(i,s,x)::xs=>(E.eM σ x).bind fun v=>(E.parts σ xs).map fun vs=>(i,s,v)::vs
def Env.op (E:Env) (σ:ah) (h:Heap):jo→Option cB
 |.mv x=>(E.eM σ x).map fun v=>⟨v,h,.none⟩
 |.pick c a b=>(E.eM σ c).bind fun
  |.bool true=>(E.eM σ a).map fun v=>⟨v,h,.none⟩
  |.bool false=>(E.eM σ b).map fun v=>⟨v,h,.none⟩
  |_=>none
 |.alloc zero=>some ⟨.ptr h.next 0 0,h.new zero,.write⟩
 |.box fr sz x=>(E.eM σ x).bind fun v=>v.row.bind fun vs=>if vs.length=sz then
   match fr with
   |true=>some ⟨.fp vs,h,.none⟩
   |false=>some ⟨.ptr h.next 0 0,h.new vs,.write⟩
  else none
 |.build zero ps=>(E.parts σ ps).bind fun l=>(bY zero l).map fun cs=>⟨.agg cs,h,.none⟩
 |.lit fr sz len cells ps=>(E.parts σ ps).bind fun l=>(bY cells l).bind fun cs=>if cs.length=len*sz then
   match fr with
   |true=>some ⟨.fs true len cs,h,.none⟩
   |false=>some ⟨.sl h.next 0 0 sz len (some len),h.new cs,.write⟩
  else none
 |.load agg sz x=>(E.eM σ x).bind (bg h agg sz)
 |.store sz x v=>(E.eM σ x).bind fun a=>(E.eM σ v).bind fun b=>bC h sz a b
 |.nilCheck x=>(E.eM σ x).bind fun v=>match v with
  |.ptr .. |.fp _|.fn (.func _) _ _|.fN .. =>some ⟨v,h,.none⟩
  |_=>none
 |.bin op x y=>(E.eM σ x).bind fun a=>(E.eM σ y).bind fun b=>(kx op a b).map fun v=>⟨v,h,.none⟩
 |.eq neg e x y=>(E.eM σ x).bind fun a=>(E.eM σ y).bind fun b=>(uS e a b).map fun r=>⟨.bool (sX neg r),h,.none⟩
 |.un op x=>(E.eM σ x).bind fun a=>(dm op a).map fun v=>⟨v,h,.none⟩
 |.conv c x=>(E.eM σ x).bind (di h c)
 |.dU t x=>(E.eM σ x).map fun v=>⟨.fN t v,h,.none⟩
 |.lC f first cap=>(E.nV σ first).bind fun a=>(E.nV σ cap).map fun b=>⟨.fn f a b,h,.none⟩
 |.makeSlice sz bytes zero l c=>(E.eM σ l).bind fun a=>(E.eM σ c).bind fun b=>jQ h sz bytes zero a b
 |.slice sz x lo hi mx=>(E.eM σ x).bind fun v=>(E.kV σ lo).bind fun a=>(E.kV σ hi).bind fun b=>(E.kV σ mx).bind fun c=>(match cU sz v a b c with|some v=>some ⟨v,h,.none⟩|none=>jq h sz v a b c)
 |.ey x lo hi=>(E.eM σ x).bind fun v=>(E.kV σ lo).bind fun a=>(E.kV σ hi).bind fun b=>(ik v a b).map fun v=>⟨v,h,.none⟩
 |.hM sz n x lo hi mx=>(E.eM σ x).bind fun v=>(E.kV σ lo).bind fun a=>(E.kV σ hi).bind fun b=>(E.kV σ mx).bind fun c=>jP h sz n v a b c
 |.fieldAddr off x=>(E.eM σ x).bind fun
  |.ptr id gen o=>some ⟨.ptr id gen (o+off),h,.none⟩
  |.fp cs=>some ⟨.fp (cs.drop off),h,.none⟩
  |_=>none
 |.field agg sz off x=>(E.eM σ x).bind fun
  |.agg cs=>if off+sz≤cs.length then(partOf agg sz off cs).map fun v=>⟨v,h,.none⟩else none
  |_=>none
 |.cL sz x i=>(E.eM σ x).bind fun a=>(E.eM σ i).bind fun b=>(aZ sz a b).map fun v=>⟨v,h,.none⟩
 |.eC sz n x i=>(E.eM σ x).bind fun a=>(E.eM σ i).bind fun b=>(ky sz n a b).map fun v=>⟨v,h,.none⟩
 |.dD x i=>(E.eM σ x).bind fun
  |.str s=>(E.eM σ i).bind fun b=>(c_ s.length b).bind fun j=>(s[j]?).map fun c=>⟨bK c,h,.none⟩
  |_=>none
 |.o5 agg sz n x i=>(E.eM σ x).bind fun
  |.agg cs=>(E.eM σ i).bind fun b=>(c_ n b).bind fun j=>if(j+1)*sz≤cs.length then(partOf agg sz (j*sz) cs).map fun v=>⟨v,h,.none⟩else none
  |_=>none
 |.extract x i=>(E.eM σ x).bind fun
  |.aF vs=>(vs[i]?).map fun v=>⟨v,h,.none⟩
  |_=>none
 |.len str x=>(E.eM σ x).bind fun v=>match str,v with
  |true,.str s=>some ⟨.int .i64 s.length,h,.none⟩
  |false,.ax=>some ⟨.int .i64 0,h,.none⟩
  |false,.fs _ n _=>some ⟨.int .i64 n,h,.none⟩
  |false,.sl _ _ _ _ n _=>some ⟨.int .i64 n,h,.none⟩
  |_,_=>none
 |.append sz bytes x y=>(E.eM σ x).bind fun a=>(E.eM σ y).bind fun b=>b9 h sz bytes a b
 |.iF mx x y=>(E.eM σ x).bind fun a=>(E.eM σ y).bind fun b=>(gu mx a b).map fun v=>⟨v,h,.none⟩
 |.cap x=>(E.eM σ x).bind fun a=>(aa5 a).map fun v=>⟨v,h,.none⟩
 |.kU sz bytes zero x y=>(E.eM σ x).bind fun a=>(E.eM σ y).bind fun b=>jr h sz bytes zero a b
 |.clear sz zero x=>(E.eM σ x).bind (lE h sz zero)
 |.copy sz x y=>(E.eM σ x).bind fun a=>(E.eM σ y).bind fun b=>xP h sz a b
 |.range x=>(E.eM σ x).bind fun
  |.str s=>some ⟨.xO h.gg.length,h.walk s,.write⟩
  |_=>none
 |.next x=>(E.eM σ x).bind fun
  |.xO k=>uT h k
  |_=>none
 |_=>none
mutual
def AV.ae:AV→Bool
 |.ptr .. |.sl .. |.xO _=>false
 |.fp cs=>AV.aj cs
 |.fs _ _ cs=>AV.aj cs
 |.fn _ a b=>AV.aj a&&AV.aj b
 |.fN _ v=>v.ae
 |.agg cs=>AV.aj cs
 |.aF vs=>AV.aj vs
 |_=>true
def AV.aj:List AV→Bool
 |[]=>true
 |v::vs=>v.ae&&AV.aj vs
end
theorem bdk:type_of% (And.intro (@AV.ae.eq_1) (And.intro (@AV.ae.eq_2) (And.intro (@AV.ae.eq_3) (And.intro (@AV.ae.eq_4) (And.intro (@AV.ae.eq_5) (And.intro (@AV.ae.eq_6) (And.intro (@AV.ae.eq_7) (And.intro (@AV.ae.eq_8) (And.intro (@AV.ae.eq_9) (And.intro (@AV.ae.eq_10) (And.intro (@AV.aj.eq_1) (And.intro (@AV.aj.eq_2) (@Bool.and_self))))))))))))):=(And.intro (@AV.ae.eq_1) (And.intro (@AV.ae.eq_2) (And.intro (@AV.ae.eq_3) (And.intro (@AV.ae.eq_4) (And.intro (@AV.ae.eq_5) (And.intro (@AV.ae.eq_6) (And.intro (@AV.ae.eq_7) (And.intro (@AV.ae.eq_8) (And.intro (@AV.ae.eq_9) (And.intro (@AV.ae.eq_10) (And.intro (@AV.aj.eq_1) (And.intro (@AV.aj.eq_2) (@Bool.and_self)))))))))))))
def freeze (h:Heap):Nat→AV→Option AV
 |0,_=>none
 |n+1,v=>
  match v.ae with
  |true=>some v
  |false=>match v with
   |.ptr id gen off=>(h.at_ id gen).bind fun cs=>((cs.drop off).mapM (freeze h n)).map .fp
   |.sl id gen off sz len cap=>(h.at_ id gen).bind fun cs=>
    if off+len*sz≤cs.length then(((cs.drop off).take (len*sz)).mapM (freeze h n)).map (.fs (cap==some len) len)else none
   |.fp cs=>(cs.mapM (freeze h n)).map .fp
   |.fs full len cs=>(cs.mapM (freeze h n)).map (.fs full len)
   |.fN t v=>(freeze h n v).map (.fN t)
   |.agg cs=>(cs.mapM (freeze h n)).map .agg
   |.aF vs=>(vs.mapM (freeze h n)).map .aF
   |_=>none
inductive aU where
 |norm|ret
 |exit (id:Nat)
 |panic (v:AV)
structure St where
 σ:ah
 h:Heap
inductive fC where
 |ret (r:cB)
 |panic (v:AV) (h:Heap)
def St.put (s:St) (dst:Option Nat) (v:AV) (h:Heap):St:=
 match dst with
 |some d=>⟨s.σ.put d v,h⟩
 |none=>⟨s.σ,h⟩
abbrev eO:=Nat→List AV→Heap→Option fC
def Env.act (E:Env) (C:eO) (σ:ah) (h:Heap):jo→Option fC
 |.call f args=>(E.nV σ args).bind fun l=>C f l h
 |.kr f args=>(E.eM σ f).bind fun
  |.fn (.func f) first cap=>(E.nV σ args).bind fun l=>C f (first++l++cap) h
  |_=>none
 |.panic x=>(E.eM σ x).bind fun v=>match v with
  |.fN _ _=>some (.panic v h)
  |_=>none
 |op=>(E.op σ h op).map .ret
def aH.wanted (o:aH) (σ:ah):Bool:=
 match o.guard with
 |none=>true
 |some (t,want)=>match σ.get t with
  |.bool b=>b==want
  |_=>false
def Env.one (E:Env) (C:eO) (o:aH) (s:St):Option (St×dB×Option AV):=
 match o.wanted s.σ with
 |true=>(E.act C s.σ s.h o.op).map fun
  |.ret r=>(s.put o.dst r.v r.h,r.c,none)
  |.panic v h=>(⟨s.σ,h⟩,.write,some v)
 |false=>some (s.put o.dst .undef s.h,.none,none)
def Env.ops (E:Env) (C:eO):List aH→St→Option (aU×St)
 |[],s=>some (.norm,s)
 |o::l,s=>(E.one C o s).bind fun
  |(s',_,none)=>E.ops C l s'
  |(s',_,some v)=>some (.panic v,s')
def Env.mY (E:Env) (C:eO):List aH→St→Option (St×List (aH×St×dB))
 |[],s=>some (s,[])
 |o::l,s=>(E.one C o s).bind fun
  |(s',c,none)=>(E.mY C l s').map fun(r,log)=>(r,(o,s,c)::log)
  |(_,_,some _)=>none
mutual
def AV.same:AV→AV→Bool
 |.bool a,.bool b=>a==b
 |.int j a,.int k b=>j==k&&a==b
 |.str a,.str b=>a==b
 |.gC,.gC|.ax,.ax|.qt,.qt|.qk,.qk|.bL,.bL=>true
 |.ptr a b c,.ptr a' b' c' =>a==a' &&b==b' &&c==c'
 |.sl a b c d e f,.sl a' b' c' d' e' f' =>a==a' &&b==b' &&c==c' &&d==d' &&e==e' &&f==f'
 |.fp a,.fp b=>AV.nX a b
 |.fs f n a,.fs g m b=>f==g&&n==m&&AV.nX a b
 |.fn f a b,.fn g c d=>f==g&&AV.nX a c&&AV.nX b d
 |.fN t a,.fN u b=>t==u&&a.same b
 |.agg a,.agg b=>AV.nX a b
 |.aF a,.aF b=>AV.nX a b
 |.xO a,.xO b=>a==b
 |_,_=>false
def AV.nX:List AV→List AV→Bool
 |[],[]=>true
 |a::as,b::bs=>a.same b&&AV.nX as bs
 |_,_=>false
end
def Env.steady (E:Env) (o:aH) (s:St):List Heap→Bool
 |[]=>true
 |h::hs=>
  (match E.op s.σ s.h o.op,E.op s.σ h o.op with
   |some r,some r' =>r.v.same r'.v&&(match r'.c with|.write=>false|_=>true)
   |_,_=>false)&&E.steady o s hs
def Env.apart (E:Env) (ordered:Bool) (hs:List Heap) (x y:aH×St×dB):Bool:=
 ordered||
 match x.2.2,y.2.2 with
 |.none,_|_,.none|.read,.read=>true
 |.write,.write=>false
 |.read,.write=>E.steady x.1 x.2.1 hs
 |.write,.read=>E.steady y.1 y.2.1 hs
def Env.gP (E:Env) (hs:List Heap) (x:aH×St×dB) (i:Nat):List (aH×St×dB)→List Nat→Bool
 |y::ys,m::ms=>E.apart (Nat.testBit m i) hs x y&&E.gP hs x i ys ms
 |_,_=>true
def Env.gJ (E:Env) (hs:List Heap):Nat→List (aH×St×dB)→List Nat→Bool
 |i,x::xs,_::ms=>E.gP hs x i xs ms&&E.gJ hs (i+1) xs ms
 |_,_,_=>true
def Env.Dh (E:Env) (C:eO) (l:List aH) (before:List Nat) (s:St):Option (aU×St):=
 (E.mY C l s).bind fun(s',log)=>
  if E.gJ (s'.h::log.map (fun x=>x.2.1.h)) 0 log before then some (.norm,s')else none
def mj (f:St→Option (aU×St)):Nat→St→Option (aU×St)
 |0,_=>none
 |n+1,s=>(f s).bind fun
  |(.norm,s')=>mj f n s'
  |r=>some r
def Env.code (E:Env) (C:eO) (n:Nat):AC→St→Option (aU×St)
 |.skip,s=>some (.norm,s)
 |.ops l,s=>E.ops C l s
 |.draw l b,s=>E.Dh C l b s
 |.seq x y,s=>(E.code C n x s).bind fun
  |(.norm,s')=>E.code C n y s'
  |r=>some r
 |.cond c x y,s=>(E.eM s.σ c).bind fun
  |.bool true=>E.code C n x s
  |.bool false=>E.code C n y s
  |_=>none
 |.block id b,s=>(E.code C n b s).map fun
  |(.exit id',s')=>if id' =id then(.norm,s')else(.exit id',s')
  |r=>r
 |.loop b,s=>mj (E.code C n b) n s
 |.exit id,s=>some (.exit id,s)
 |.scope b,s=>E.code C n b s
 |.ret,s=>some (.ret,s)
 |.bad,_=>none
def Env.results (E:Env) (s:St):List ET→Option (List AV)
 |[]=>some []
 |.tmp t::l=>(E.results s l).map fun vs=>s.σ.get t::vs
 |.cell t agg sz::l=>(bg s.h agg sz (s.σ.get t)).bind fun r=>(E.results s l).map fun vs=>r.v::vs
def dX:List AV→AV
 |[v]=>v
 |vs=>.aF vs
def ah.bbw:Nat→List AV→ah→ah
 |_,[],σ=>σ
 |i,v::vs,σ=>ah.bbw (i+1) vs (σ.put i v)
def Env.body (E:Env) (C:eO) (n:Nat) (fn:aS) (args:List AV) (h:Heap):Option fC:=
 (E.code C n fn.body ⟨ah.bbw 0 args .empty,h⟩).bind fun
  |(.norm,s)|(.ret,s)=>(E.results s fn.results).map fun vs=>.ret ⟨dX vs,s.h,.write⟩
  |(.panic v,s)=>some (.panic v s.h)
  |(.exit _,_)=>none
def Env.call (E:Env):Nat→eO
 |0=>fun _ _ _=>none
 |n+1=>fun f args h=>
  match E.nU f with
  |some p=>(p args h).map fun(v,h')=>.ret ⟨v,h',.write⟩
  |none=>(E.func f).bind fun fn=>
   match E.kO f with
   |true=>
    match AV.aj args with
    |true=>(E.body (E.call n) n fn args .empty).bind fun
     |.ret r=>(freeze r.h n r.v).map fun v=>.ret ⟨v,h,.none⟩
     |.panic _ _=>none
    |false=>E.body (E.call n) n fn args h
   |false=>E.body (E.call n) n fn args h
end Go.AM
