/- For BifCalls. -/
import Derived.Test.YtaielgjmhbjfhaaGreatDoorAmOp
import Derived.Scope
set_option linter.unusedVariables false
namespace Go.AM
open Go.RowKit
section
variable {B : Nat} {w0 : World} {E : Env} {P : Program}
def zg (v:Value):List PanicEntry:=[{v,recovered:=false}]
def Outcome (B:Nat) (w0:World) (E:Env) (X:RX):fC→Ending→World→Prop
 |.ret r,e,w' =>∃X' v',X'.w=w' ∧X'.h=r.h∧Rel B w0 E X' ∧Ext X X' ∧bo X' r.v v' ∧e=.returned v'
 |.panic v h,e,w' =>∃X' v',X'.w=w' ∧X'.h=h∧Rel B w0 E X' ∧Ext X X' ∧bo X' v v' ∧e=.panicked (zg v')
def j_ (P:Program) (f:Nat):Prop:=∃fn,P.funcs[f]? =some fn∧fn.body.isSome=true∧fn.name≠ "runtime.NumGoroutine"
def lz (P:Program) (E:Env) (C:eO):Prop:=
 ∀f args h o,C f args h=some o→j_ P f∧
  ∀(B:Nat) (w0:World) (X:RX) (ab:List Value),Rel B w0 E X→X.h=h→a_ X args ab→Calls P f ab.toArray X.w (Outcome B w0 E X o)
structure nT (X:RX) (n:Nat) (s:St) (a:Act):Prop where
 heap:X.h=s.h
 fM:jN X n s.σ a.tmps
 defers:a.defers=[]
inductive rU (X:RX):aU→Exit→Prop
 |norm:rU X .norm .normal
 |ret:rU X .ret .ret
 |exit (id:Nat):rU X (.exit id) (.exit id)
 |panic (v:AV) (v' :Value) (h:bo X v v'):rU X (.panic v) (.panic (zg v'))
def jg (B:Nat) (w0:World) (E:Env) (X:RX) (n:Nat) (e:aU) (s:St):Exit→Act→World→Prop:=fun e' a' w' =>
 ∃X',X'.w=w' ∧Rel B w0 E X' ∧Ext X X' ∧nT X' n s a' ∧rU X' e e'
theorem jg.trans {X X1:RX} (h:Ext X X1) {n:Nat} {e:aU} {s:St} {e' :Exit} {a' :Act} {w' :World} (k:jg B w0 E X1 n e s e' a' w'):jg B w0 E X n e s e' a' w' :=by
 obtain⟨X',h1,h2,h3,h4,h5⟩:=k
 exact⟨X',h1,h2,h.trans h3,h4,h5⟩
theorem uQ {f:Nat} (h:j_ P f) (args:Array Value) (w:World):(callFunc f args).run P w=.ok (.enter f args) w:=by
 obtain⟨fn,h1,h2,h3⟩:=h
 have h2' :fn.body.isNone=false:=by cases hb:fn.body<;>simp_all
 simp only[callFunc,Sem.run_bind,run_program,Result.andThen_ok,h1]
 rw[if_neg (by simpa using h3),h2']
 rfl
inductive Af (B:Nat) (w0:World) (E:Env) (X:RX) (P:Program) (s:Sem Next):fC→Prop
 |val (r:cB) (h:kK B w0 E X P s r.v r.h):Af B w0 E X P s (.ret r)
 |call (f:Nat) (args:Array Value) (o:fC) (hr:s.run P X.w=.ok (.enter f args) X.w) (hc:Calls P f args X.w (Outcome B w0 E X o)):Af B w0 E X P s o
 |panic (v:AV) (v' :Value) (hr:s.run P X.w=.halt (.panic v') X.w) (hv:bo X v v'):Af B w0 E X P s (.panic v X.h)
def jo.plain:jo→Bool
 |.call .. |.kr .. |.panic _=>false
 |_=>true
theorem jh {E:Env} {C:eO} {σ:ah} {h:Heap} {ao:jo} (hp:ao.plain=true):E.act C σ h ao=(E.op σ h ao).map fC.ret:=by
 cases ao<;>first|rfl|simp[jo.plain]at hp
theorem Ag {b:Builtin} {types:Array TypeId} {args:Array Operand} {ao:jo} (ht:jO P b types args=some ao):
  ao.plain=true∨(b=.panic∧∃x x',args= #[x]∧cC x=some x' ∧ao=.panic x'):=by
 cases b<;>simp only[jO,reduceCtorEq,bap,bam,bac]at ht
 case append=>
  split at ht
  ·cases ht
  simp only[bac]at ht
  obtain⟨_,_,_,_,_,_,_,_,_,_,d1,_,_,_,d2,_,ht⟩:=ht
  split at ht
  ·split at ht
   ·simp only[jaa]at ht;obtain⟨_,_,_,_,rfl⟩:=ht;exact .inl rfl
   ·cases ht
  ·split at ht
   ·simp only[jaa]at ht;obtain⟨_,_,_,_,rfl⟩:=ht;exact .inl rfl
   ·cases ht
  ·simp only[jaa]at ht;obtain⟨_,_,_,_,_,_,rfl⟩:=ht;exact .inl rfl
  ·cases ht
 case cap=>
  split at ht
  ·cases ht
  simp only[bac]at ht
  obtain⟨_,_,_,_,_,_,d,_,ht⟩:=ht
  cases d<;>simp only[reduceCtorEq,bae]at ht
  subst ht;exact .inl rfl
 case clear=>
  split at ht
  ·cases ht
  simp only[bac]at ht
  obtain⟨_,_,_,_,_,_,d,_,ht⟩:=ht
  cases d<;>simp only[reduceCtorEq,jaa]at ht
  obtain⟨_,_,_,_,rfl⟩:=ht;exact .inl rfl
 case copy=>
  split at ht
  ·cases ht
  simp only[bac]at ht
  obtain⟨_,_,_,_,_,_,_,_,_,_,d,_,ht⟩:=ht
  cases d<;>simp only[reduceCtorEq,jaa]at ht
  obtain⟨_,_,rfl⟩:=ht;exact .inl rfl
 case len=>
  obtain⟨_,_,_,_,_,_,d,_,ht⟩:=ht
  cases d<;>simp only[reduceCtorEq]at ht
  all_goals (split at ht<;>first|(simp only[bae]at ht;subst ht;exact .inl rfl)|cases ht)
 case max=>
  split at ht
  ·cases ht
  ·simp only[jaa]at ht;obtain⟨_,_,_,_,_,_,_,_,rfl⟩:=ht;exact .inl rfl
 case min=>
  split at ht
  ·cases ht
  ·simp only[jaa]at ht;obtain⟨_,_,_,_,_,_,_,_,rfl⟩:=ht;exact .inl rfl
 case panic=>
  split at ht
  ·cases ht
  ·rename_i hsz
   simp only[jaa]at ht
   obtain⟨x,hx,x',hx',rfl⟩:=ht
   refine .inr ⟨rfl,x,x',?_,hx',rfl⟩
   obtain⟨args⟩:=args
   match args,(Decidable.not_not.1 hsz)with
   |[y],_=>simp at hx;subst hx;rfl
theorem Sz {fr:Bool} {op:Op} {ao:jo} (ht:Ah P fr op=some ao):ao.plain=true∨
  (∃f ab types args,op=.call ⟨.value (.func f),ab,types⟩∧wT ab=some args∧ao=.call f args)∨
  (∃x x' ab types args,op=.call ⟨.value x,ab,types⟩∧cC x=some x' ∧wT ab=some args∧ao=.kr x' args)∨
  (∃x x',op=.panic x∧cC x=some x' ∧ao=.panic x')∨
  (∃x x' types,op=.call ⟨.builtin .panic,#[x],types⟩∧cC x=some x' ∧ao=.panic x'):=by
 cases op<;>simp only[Ah,reduceCtorEq,bap,bam,jaa]at ht
 case move=>obtain⟨_,_,rfl⟩:=ht;exact .inl rfl
 case range=>
  obtain⟨d,_,ht⟩:=ht
  cases d<;>simp only[reduceCtorEq,jaa]at ht
  obtain⟨_,_,rfl⟩:=ht;exact .inl rfl
 case next x isStr=>
  cases isStr<;>simp only[reduceCtorEq,jaa]at ht
  obtain⟨_,_,rfl⟩:=ht;exact .inl rfl
 case assign=>obtain⟨_,_,rfl⟩:=ht;exact .inl rfl
 case pick=>obtain⟨_,_,_,_,_,_,rfl⟩:=ht;exact .inl rfl
 case alloc=>obtain⟨_,_,rfl⟩:=ht;exact .inl rfl
 case box=>obtain⟨_,_,_,_,rfl⟩:=ht;exact .inl rfl
 case build=>
  simp only[uR,bap,bac]at ht
  obtain⟨z,_,d,_,ht⟩:=ht
  cases d<;>simp only[reduceCtorEq,bam,jaa]at ht
  ·obtain⟨_,_,_,_,rfl⟩:=ht;exact .inl rfl
  ·obtain⟨_,_,_,_,rfl⟩:=ht;exact .inl rfl
 case buildSlice=>
  unfold It at ht
  split at ht
  ·simp only[bac]at ht
   obtain⟨s,hs,ht⟩:=ht
   split at ht
   ·cases ht
   simp only[bac]at ht
   obtain⟨z,hz,ht⟩:=ht
   split at ht
   ·cases ht
   simp only[bai]at ht
   obtain⟨ps,_,rfl⟩:=ht
   exact .inl rfl
  ·cases ht
 case load=>obtain⟨_,_,_,_,_,_,rfl⟩:=ht;exact .inl rfl
 case store=>obtain⟨_,_,_,_,_,_,rfl⟩:=ht;exact .inl rfl
 case nilCheck=>obtain⟨_,_,rfl⟩:=ht;exact .inl rfl
 case binOp=>obtain⟨_,_,_,_,h2⟩:=Dg ht;rcases h2 with rfl|⟨_,_,_,_,rfl⟩<;>exact .inl rfl
 case unOp=>obtain⟨_,_,rfl⟩:=ht;exact .inl rfl
 case convert=>obtain⟨_,_,_,_,rfl⟩:=ht;exact .inl rfl
 case makeInterface=>
  obtain⟨d,_,ht⟩:=ht
  cases d<;>simp only[reduceCtorEq,jaa]at ht
  all_goals (obtain⟨_,_,rfl⟩:=ht;exact .inl rfl)
 case makeFunc=>obtain⟨_,_,_,_,rfl⟩:=ht;exact .inl rfl
 case makeSlice=>
  obtain⟨d,_,ht⟩:=ht
  cases d<;>simp only[reduceCtorEq,jaa]at ht
  obtain⟨_,_,_,_,_,_,_,_,_,_,rfl⟩:=ht;exact .inl rfl
 case slice=>
  obtain⟨_,_,_,_,_,_,_,_,h2⟩:=xN ht
  rcases h2 with⟨_,_,rfl⟩|⟨_,_,_,_,rfl⟩|⟨_,_,_,_,_,rfl⟩<;>exact .inl rfl
 case fieldAddr=>
  obtain⟨_,_,_,_,ht⟩:=ht
  split at ht
  ·cases ht
  ·simp only[jaa]at ht;obtain⟨_,_,rfl⟩:=ht;exact .inl rfl
 case field=>obtain⟨_,_,_,_,_,_,_,_,rfl⟩:=ht;exact .inl rfl
 case indexAddr=>
  obtain⟨d,_,ht⟩:=ht
  cases d<;>simp only[reduceCtorEq,jaa]at ht
  all_goals (obtain⟨_,_,_,_,_,_,rfl⟩:=ht;exact .inl rfl)
 case index=>
  obtain⟨d,_,ht⟩:=ht
  cases d<;>simp only[reduceCtorEq,jaa]at ht
  ·obtain⟨_,_,_,_,rfl⟩:=ht;exact .inl rfl
  ·obtain⟨_,_,_,_,_,_,_,_,rfl⟩:=ht;exact .inl rfl
 case extract=>obtain⟨_,_,rfl⟩:=ht;exact .inl rfl
 case panic x=>obtain⟨x',hx',rfl⟩:=ht;exact .inr (.inr (.inr (.inl ⟨x,x',rfl,hx',rfl⟩)))
 case call c=>
  obtain⟨callee,ab,types⟩:=c
  cases callee with
  |invoke _ _=>simp[wU]at ht
  |builtin b=>
   have ht' :jO P b types ab=some ao:=ht
   rcases Ag ht' with h|⟨rfl,x,x',rfl,hx',rfl⟩
   ·exact .inl h
   ·exact .inr (.inr (.inr (.inr ⟨x,x',types,rfl,hx',rfl⟩)))
  |value fo=>
   cases fo with
   |func g=>
    simp only[wU,bap,bam,jaa]at ht
    obtain⟨l,hl,rfl⟩:=ht
    exact .inr (.inl ⟨g,ab,types,l,rfl,hl,rfl⟩)
   |_=>
    simp only[wU,bap,bam,jaa]at ht
    obtain⟨x',hx',l,hl,rfl⟩:=ht
    exact .inr (.inr (.inl ⟨_,x',ab,types,l,rfl,hx',hl,rfl⟩))
theorem P2 {C:eO} (hC:lz P E C) {X:RX} (hR:Rel B w0 E X) {n:Nat} {σ:ah} {a:Act} (k:jN X n σ a.tmps) {fr:Bool} {o:Oper} {ao:jo} (ht:Ah P fr o.op=some ao)
  {out:fC} (h:E.act C σ X.h ao=some out):Af B w0 E X P (execOp a.eval o) out:=by
 rcases Sz ht with hp|⟨f,ab,types,args,ho,hl,rfl⟩|⟨x,x',ab,types,args,ho,hx',hl,rfl⟩|⟨x,x',ho,hx',rfl⟩|⟨x,x',types,ho,hx',rfl⟩
 ·rw[jh hp]at h
  simp only[bai]at h
  obtain⟨r,hr,rfl⟩:=h
  exact .val r (ago hR k ht hr)
 ·obtain⟨dst,op,ty,pos,after,guard⟩:=o
  dsimp only at ho
  subst ho;simp only[Env.act,bac]at h
  obtain⟨vs,hvs,h⟩:=h
  obtain⟨he,hc⟩:=hC _ _ _ _ h
  have hrel:=qs hR k hl hvs
  have bck:=hc B w0 X _ hR rfl hrel
  have e1:(List.map a.eval ab.toList).toArray=ab.map a.eval:=by apply Array.ext';simp
  rw[e1]at bck
  refine .call f (ab.map a.eval) out ?_ bck
  have hx:(execOp a.eval {dst:=dst,op:=Op.call {callee:=Callee.value (Operand.func f),args:=ab,argTypes:=types},type:=ty,pos:=pos,after:=after,guard:=guard})=
    callFunc f (#[]++ab.map a.eval++ #[]):=rfl
  rw[hx]
  simpa using uQ he (ab.map a.eval) X.w
 ·obtain⟨dst,op,ty,pos,after,guard⟩:=o
  dsimp only at ho
  subst ho;simp only[Env.act,bac]at h
  obtain⟨fv,hfv,h⟩:=h
  have hfr:=bz hR k hx' hfv
  generalize hce:a.eval x=cc at hfr
  cases hfr with
  |fn f p q p' q' hp hq=>
   cases f with
   |func f=>
    simp only[bac]at h
    obtain⟨vs,hvs,h⟩:=h
    obtain⟨he,hc⟩:=hC _ _ _ _ h
    have hrel:=qs hR k hl hvs
    have bck:=hc B w0 X _ hR rfl ((hp.append hrel).append hq)
    have e1:(p' ++List.map a.eval ab.toList++q').toArray=p'.toArray++ab.map a.eval++q'.toArray:=by apply Array.ext';simp
    rw[e1]at bck
    refine .call f _ out ?_ bck
    have hx:(execOp a.eval {dst:=dst,op:=Op.call {callee:=Callee.value x,args:=ab,argTypes:=types},type:=ty,pos:=pos,after:=after,guard:=guard})=
      (do let d←Deferred.ofValue (a.eval x) (ab.map a.eval);invoke d.target d.args):=rfl
    rw[hx,hce];simp only[Deferred.ofValue,Sem.run_bind,Sem.run_pure,Result.andThen_ok,invoke]
    exact uQ he _ X.w
   |_=>cases h
  |_=>cases h
 ·obtain⟨dst,op,ty,pos,after,guard⟩:=o
  dsimp only at ho
  subst ho;simp only[Env.act,bac]at h
  obtain⟨v,hv,h⟩:=h
  have hvr:=bz hR k hx' hv
  generalize hce:a.eval x=cc at hvr
  cases hvr with
  |fN t u u' hu=>
   cases h;refine .panic _ (.iface t u') ?_ (.fN _ _ _ hu)
   have hx:(execOp a.eval {dst:=dst,op:=Op.panic x,type:=ty,pos:=pos,after:=after,guard:=guard})=(do pure (.value (←Instr.panic (a.eval x)))):=rfl
   rw[hx,hce];simp[Instr.panic]
  |_=>cases h
 ·obtain⟨dst,op,ty,pos,after,guard⟩:=o
  dsimp only at ho
  subst ho;simp only[Env.act,bac]at h
  obtain⟨v,hv,h⟩:=h
  have hvr:=bz hR k hx' hv
  generalize hce:a.eval x=cc at hvr
  cases hvr with
  |fN t u u' hu=>
   cases h;refine .panic _ (.iface t u') ?_ (.fN _ _ _ hu)
   simp[execOp,resolve,invoke,builtin,hce,Instr.panic]
  |_=>cases h
end
end Go.AM
