/-
  THE ABSTRACT MACHINE AND THE MODEL: calls, regions in the order of the text.
-/
import Derived.Test.YtpggjddiddmkkaaGreatDoorAmOp
import Derived.Scope
set_option linter.unusedSimpArgs false
set_option linter.unusedVariables false
namespace Go.AM
open Go.RowKit
section
variable {B : Nat} {w0 : World} {E : Env} {P : Program} {D : List Deferred}
/-- what a panic with one value is -/
def chainOf (v : Value) : List PanicEntry := [{ v, recovered := false }]
/-- What a call of the model ends in, where the machine's call has this answer. -/
def Outcome (B : Nat) (w0 : World) (E : Env) (X : RX) : COut → Ending → World → Prop
  | .ret r, e, w' => ∃ X' v', X'.w = w' ∧ X'.h = r.h ∧ Rel B w0 E X' ∧ Ext X X' ∧ VRel X' r.v v' ∧ e = .returned v'
  | .panic v h, e, w' => ∃ X' v', X'.w = w' ∧ X'.h = h ∧ Rel B w0 E X' ∧ Ext X X' ∧ VRel X' v v' ∧ e = .panicked (chainOf v')
/-- a function that is entered where it is called -/
def Entered (P : Program) (f : Nat) : Prop := ∃ fn, P.funcs[f]? = some fn ∧ fn.body.isSome = true ∧ fn.name ≠ "runtime.NumGoroutine"
def CallOk (P : Program) (E : Env) (C : CallF) : Prop :=
  ∀ f args h o, C f args h = some o → Entered P f ∧
    ∀ (B : Nat) (w0 : World) (X : RX) (cargs : List Value), Rel B w0 E X → X.h = h → VRels X args cargs → Calls P f cargs.toArray X.w (Outcome B w0 E X o)
structure StRel (D : List Deferred) (X : RX) (n : Nat) (s : St) (a : Act) : Prop where
  heap : X.h = s.h
  slots : SRel X n s.σ a.tmps
  defers : a.defers = D
inductive ExitRel (X : RX) : AExit → Exit → Prop
  | norm : ExitRel X .norm .normal
  | ret : ExitRel X .ret .ret
  | exit (id : Nat) : ExitRel X (.exit id) (.exit id)
  | panic (v : AV) (v' : Value) (h : VRel X v v') : ExitRel X (.panic v) (.panic (chainOf v'))
/-- What a piece of the model's code ends in, where the machine's ends so. -/
def CPost (D : List Deferred) (B : Nat) (w0 : World) (E : Env) (X : RX) (n : Nat) (e : AExit) (s : St) : Exit → Act → World → Prop := fun e' a' w' =>
  ∃ X', X'.w = w' ∧ Rel B w0 E X' ∧ Ext X X' ∧ StRel D X' n s a' ∧ ExitRel X' e e'
theorem CPost.trans {X X1 : RX} (h : Ext X X1) {n : Nat} {e : AExit} {s : St} {e' : Exit} {a' : Act} {w' : World} (k : CPost D B w0 E X1 n e s e' a' w') : CPost D B w0 E X n e s e' a' w' := by
  obtain ⟨X', h1, h2, h3, h4, h5⟩ := k
  exact ⟨X', h1, h2, h.trans h3, h4, h5⟩
theorem run_callFunc {f : Nat} (h : Entered P f) (args : Array Value) (w : World) : (callFunc f args).run P w = .ok (.enter f args) w := by
  obtain ⟨fn, h1, h2, h3⟩ := h
  have h2' : fn.body.isNone = false := by cases hb : fn.body <;> simp_all
  simp only [callFunc, Sem.run_bind, run_program, Result.andThen_ok, h1]
  rw [if_neg (by simpa using h3), h2']
  rfl
/-- What an operation of the model comes to, where the machine's has this answer. -/
inductive Comes1 (B : Nat) (w0 : World) (E : Env) (X : RX) (P : Program) (s : Sem Next) : COut → Prop
  | val (r : OpRes) (h : ActSim B w0 E X P s r.v r.h) : Comes1 B w0 E X P s (.ret r)
  | call (f : Nat) (args : Array Value) (o : COut) (hr : s.run P X.w = .ok (.enter f args) X.w) (hc : Calls P f args X.w (Outcome B w0 E X o)) : Comes1 B w0 E X P s o
  | panic (v : AV) (v' : Value) (hr : s.run P X.w = .halt (.panic v') X.w) (hv : VRel X v v') : Comes1 B w0 E X P s (.panic v X.h)
def AOp.plain : AOp → Bool
  | .call .. | .callv .. | .panic _ => false
  | _ => true
theorem E_act_plain {E : Env} {C : CallF} {σ : Slots} {h : Heap} {ao : AOp} (hp : ao.plain = true) : E.act C σ h ao = (E.op σ h ao).map COut.ret := by
  cases ao <;> first | rfl | simp [AOp.plain] at hp
theorem trBuiltin_kind {b : Builtin} {types : Array TypeId} {args : Array Operand} {ao : AOp} (ht : trBuiltin P b types args = some ao) :
    ao.plain = true ∨ (b = .panic ∧ ∃ x x', args = #[x] ∧ trOpd x = some x' ∧ ao = .panic x') := by
  cases b <;> simp only [trBuiltin, reduceCtorEq, Option.bind_eq_bind, Option.pure_def, Option.bind_eq_some_iff, Option.some.injEq] at ht
  case append =>
    split at ht
    · cases ht
    simp only [Option.bind_eq_some_iff] at ht
    obtain ⟨_, _, _, _, _, _, _, _, _, _, d1, _, _, _, d2, _, ht⟩ := ht
    split at ht
    · split at ht
      · simp only [Option.bind_eq_some_iff, Option.some.injEq] at ht; obtain ⟨_, _, _, _, rfl⟩ := ht; exact .inl rfl
      · cases ht
    · split at ht
      · simp only [Option.bind_eq_some_iff, Option.some.injEq] at ht; obtain ⟨_, _, _, _, rfl⟩ := ht; exact .inl rfl
      · cases ht
    · simp only [Option.bind_eq_some_iff, Option.some.injEq] at ht; obtain ⟨_, _, _, _, _, _, rfl⟩ := ht; exact .inl rfl
    · cases ht
  case cap =>
    split at ht
    · cases ht
    simp only [Option.bind_eq_some_iff] at ht
    obtain ⟨_, _, _, _, _, _, d, _, ht⟩ := ht
    cases d <;> simp only [reduceCtorEq, Option.some.injEq] at ht
    subst ht; exact .inl rfl
  case clear =>
    split at ht
    · cases ht
    simp only [Option.bind_eq_some_iff] at ht
    obtain ⟨_, _, _, _, _, _, d, _, ht⟩ := ht
    cases d <;> simp only [reduceCtorEq, Option.bind_eq_some_iff, Option.some.injEq] at ht
    obtain ⟨_, _, _, _, rfl⟩ := ht; exact .inl rfl
  case copy =>
    split at ht
    · cases ht
    simp only [Option.bind_eq_some_iff] at ht
    obtain ⟨_, _, _, _, _, _, _, _, _, _, d, _, ht⟩ := ht
    cases d <;> simp only [reduceCtorEq, Option.bind_eq_some_iff, Option.some.injEq] at ht
    obtain ⟨_, _, rfl⟩ := ht; exact .inl rfl
  case len =>
    obtain ⟨_, _, _, _, _, _, d, _, ht⟩ := ht
    cases d <;> simp only [reduceCtorEq] at ht
    all_goals (split at ht <;> first | (simp only [Option.some.injEq] at ht; subst ht; exact .inl rfl) | cases ht)
  case max =>
    split at ht
    · cases ht
    · simp only [Option.bind_eq_some_iff, Option.some.injEq] at ht; obtain ⟨_, _, _, _, _, _, _, _, rfl⟩ := ht; exact .inl rfl
  case min =>
    split at ht
    · cases ht
    · simp only [Option.bind_eq_some_iff, Option.some.injEq] at ht; obtain ⟨_, _, _, _, _, _, _, _, rfl⟩ := ht; exact .inl rfl
  case panic =>
    split at ht
    · cases ht
    · rename_i hsz
      simp only [Option.bind_eq_some_iff, Option.some.injEq] at ht
      obtain ⟨x, hx, x', hx', rfl⟩ := ht
      refine .inr ⟨rfl, x, x', ?_, hx', rfl⟩
      obtain ⟨args⟩ := args
      match args, (Decidable.not_not.1 hsz) with
      | [y], _ => simp at hx; subst hx; rfl
/-- which operations call -/
theorem trOp_kind {fr : Bool} {op : Op} {ao : AOp} (ht : trOp P fr op = some ao) : ao.plain = true ∨
    (∃ f cargs types args, op = .call ⟨.value (.func f), cargs, types⟩ ∧ trOpds cargs = some args ∧ ao = .call f args) ∨
    (∃ x x' cargs types args, op = .call ⟨.value x, cargs, types⟩ ∧ trOpd x = some x' ∧ trOpds cargs = some args ∧ ao = .callv x' args) ∨
    (∃ x x', op = .panic x ∧ trOpd x = some x' ∧ ao = .panic x') ∨
    (∃ x x' types, op = .call ⟨.builtin .panic, #[x], types⟩ ∧ trOpd x = some x' ∧ ao = .panic x') := by
  cases op <;> simp only [trOp, reduceCtorEq, Option.bind_eq_bind, Option.pure_def, Option.bind_eq_some_iff, Option.some.injEq] at ht
  case move => obtain ⟨_, _, rfl⟩ := ht; exact .inl rfl
  case range =>
    obtain ⟨d, _, ht⟩ := ht
    cases d <;> simp only [reduceCtorEq, Option.bind_eq_some_iff, Option.some.injEq] at ht
    obtain ⟨_, _, rfl⟩ := ht; exact .inl rfl
  case next x isStr =>
    cases isStr <;> simp only [reduceCtorEq, Option.bind_eq_some_iff, Option.some.injEq] at ht
    obtain ⟨_, _, rfl⟩ := ht; exact .inl rfl
  case assign => obtain ⟨_, _, rfl⟩ := ht; exact .inl rfl
  case pick => obtain ⟨_, _, _, _, _, _, rfl⟩ := ht; exact .inl rfl
  case alloc => obtain ⟨_, _, rfl⟩ := ht; exact .inl rfl
  case box => obtain ⟨_, _, _, _, rfl⟩ := ht; exact .inl rfl
  case build =>
    simp only [trBuild, Option.bind_eq_bind, Option.bind_eq_some_iff] at ht
    obtain ⟨z, _, d, _, ht⟩ := ht
    cases d <;> simp only [reduceCtorEq, Option.pure_def, Option.bind_eq_some_iff, Option.some.injEq] at ht
    · obtain ⟨_, _, _, _, rfl⟩ := ht; exact .inl rfl
    · obtain ⟨_, _, _, _, rfl⟩ := ht; exact .inl rfl
  case buildSlice =>
    unfold trLit at ht
    split at ht
    · simp only [Option.bind_eq_some_iff] at ht
      obtain ⟨s, hs, ht⟩ := ht
      split at ht
      · cases ht
      simp only [Option.bind_eq_some_iff] at ht
      obtain ⟨z, hz, ht⟩ := ht
      split at ht
      · cases ht
      simp only [Option.map_eq_some_iff] at ht
      obtain ⟨ps, _, rfl⟩ := ht
      exact .inl rfl
    · cases ht
  case load => obtain ⟨_, _, _, _, _, _, rfl⟩ := ht; exact .inl rfl
  case store => obtain ⟨_, _, _, _, _, _, rfl⟩ := ht; exact .inl rfl
  case nilCheck => obtain ⟨_, _, rfl⟩ := ht; exact .inl rfl
  case binOp => obtain ⟨_, _, _, _, h2⟩ := trBin_inv ht; rcases h2 with rfl | ⟨_, _, _, _, rfl⟩ <;> exact .inl rfl
  case unOp => obtain ⟨_, _, rfl⟩ := ht; exact .inl rfl
  case convert => obtain ⟨_, _, _, _, rfl⟩ := ht; exact .inl rfl
  case makeInterface =>
    obtain ⟨d, _, ht⟩ := ht
    cases d <;> simp only [reduceCtorEq, Option.bind_eq_some_iff, Option.some.injEq] at ht
    all_goals (obtain ⟨_, _, rfl⟩ := ht; exact .inl rfl)
  case makeFunc => obtain ⟨_, _, _, _, rfl⟩ := ht; exact .inl rfl
  case makeSlice =>
    obtain ⟨d, _, ht⟩ := ht
    cases d <;> simp only [reduceCtorEq, Option.bind_eq_some_iff, Option.some.injEq] at ht
    obtain ⟨_, _, _, _, _, _, _, _, _, _, rfl⟩ := ht; exact .inl rfl
  case slice =>
    obtain ⟨_, _, _, _, _, _, _, _, h2⟩ := trSlice_inv ht
    rcases h2 with ⟨_, _, rfl⟩ | ⟨_, _, _, _, rfl⟩ | ⟨_, _, _, _, _, rfl⟩ <;> exact .inl rfl
  case fieldAddr =>
    obtain ⟨_, _, _, _, ht⟩ := ht
    split at ht
    · cases ht
    · simp only [Option.bind_eq_some_iff, Option.some.injEq] at ht; obtain ⟨_, _, rfl⟩ := ht; exact .inl rfl
  case field => obtain ⟨_, _, _, _, _, _, _, _, rfl⟩ := ht; exact .inl rfl
  case indexAddr =>
    obtain ⟨d, _, ht⟩ := ht
    cases d <;> simp only [reduceCtorEq, Option.bind_eq_some_iff, Option.some.injEq] at ht
    all_goals (obtain ⟨_, _, _, _, _, _, rfl⟩ := ht; exact .inl rfl)
  case index =>
    obtain ⟨d, _, ht⟩ := ht
    cases d <;> simp only [reduceCtorEq, Option.bind_eq_some_iff, Option.some.injEq] at ht
    · obtain ⟨_, _, _, _, rfl⟩ := ht; exact .inl rfl
    · obtain ⟨_, _, _, _, _, _, _, _, rfl⟩ := ht; exact .inl rfl
  case extract => obtain ⟨_, _, rfl⟩ := ht; exact .inl rfl
  case panic x => obtain ⟨x', hx', rfl⟩ := ht; exact .inr (.inr (.inr (.inl ⟨x, x', rfl, hx', rfl⟩)))
  case call c =>
    obtain ⟨callee, cargs, types⟩ := c
    cases callee with
    | invoke _ _ => simp [trCall] at ht
    | builtin b =>
      have ht' : trBuiltin P b types cargs = some ao := ht
      rcases trBuiltin_kind ht' with h | ⟨rfl, x, x', rfl, hx', rfl⟩
      · exact .inl h
      · exact .inr (.inr (.inr (.inr ⟨x, x', types, rfl, hx', rfl⟩)))
    | value fo =>
      cases fo with
      | func g =>
        simp only [trCall, Option.bind_eq_bind, Option.pure_def, Option.bind_eq_some_iff, Option.some.injEq] at ht
        obtain ⟨l, hl, rfl⟩ := ht
        exact .inr (.inl ⟨g, cargs, types, l, rfl, hl, rfl⟩)
      | _ =>
        simp only [trCall, Option.bind_eq_bind, Option.pure_def, Option.bind_eq_some_iff, Option.some.injEq] at ht
        obtain ⟨x', hx', l, hl, rfl⟩ := ht
        exact .inr (.inr (.inl ⟨_, x', cargs, types, l, rfl, hx', hl, rfl⟩))
theorem act_sim {C : CallF} (hC : CallOk P E C) {X : RX} (hR : Rel B w0 E X) {n : Nat} {σ : Slots} {a : Act} (k : SRel X n σ a.tmps) {fr : Bool} {o : Oper} {ao : AOp} (ht : trOp P fr o.op = some ao)
    {out : COut} (h : E.act C σ X.h ao = some out) : Comes1 B w0 E X P (execOp a.eval o) out := by
  rcases trOp_kind ht with hp | ⟨f, cargs, types, args, ho, hl, rfl⟩ | ⟨x, x', cargs, types, args, ho, hx', hl, rfl⟩ | ⟨x, x', ho, hx', rfl⟩ | ⟨x, x', types, ho, hx', rfl⟩
  · rw [E_act_plain hp] at h
    simp only [Option.map_eq_some_iff] at h
    obtain ⟨r, hr, rfl⟩ := h
    exact .val r (op_sim hR k ht hr)
  · obtain ⟨dst, op, ty, pos, after, guard⟩ := o
    dsimp only at ho
    subst ho
    simp only [Env.act, Option.bind_eq_some_iff] at h
    obtain ⟨vs, hvs, h⟩ := h
    obtain ⟨he, hc⟩ := hC _ _ _ _ h
    have hrel := opds_rel hR k hl hvs
    have hcall := hc B w0 X _ hR rfl hrel
    have e1 : (List.map a.eval cargs.toList).toArray = cargs.map a.eval := by apply Array.ext'; simp
    rw [e1] at hcall
    refine .call f (cargs.map a.eval) out ?_ hcall
    have hx : (execOp a.eval { dst := dst, op := Op.call { callee := Callee.value (Operand.func f), args := cargs, argTypes := types }, type := ty, pos := pos, after := after, guard := guard }) =
        callFunc f (#[] ++ cargs.map a.eval ++ #[]) := rfl
    rw [hx]
    simpa using run_callFunc he (cargs.map a.eval) X.w
  · obtain ⟨dst, op, ty, pos, after, guard⟩ := o
    dsimp only at ho
    subst ho
    simp only [Env.act, Option.bind_eq_some_iff] at h
    obtain ⟨fv, hfv, h⟩ := h
    have hfr := opd_rel hR k hx' hfv
    generalize hce : a.eval x = cc at hfr
    cases hfr with
    | fn f p q p' q' hp hq =>
      cases f with
      | func f =>
        simp only [Option.bind_eq_some_iff] at h
        obtain ⟨vs, hvs, h⟩ := h
        obtain ⟨he, hc⟩ := hC _ _ _ _ h
        have hrel := opds_rel hR k hl hvs
        have hcall := hc B w0 X _ hR rfl ((hp.append hrel).append hq)
        have e1 : (p' ++ List.map a.eval cargs.toList ++ q').toArray = p'.toArray ++ cargs.map a.eval ++ q'.toArray := by apply Array.ext'; simp
        rw [e1] at hcall
        refine .call f _ out ?_ hcall
        have hx : (execOp a.eval { dst := dst, op := Op.call { callee := Callee.value x, args := cargs, argTypes := types }, type := ty, pos := pos, after := after, guard := guard }) =
            (do let d ← Deferred.ofValue (a.eval x) (cargs.map a.eval); invoke d.target d.args) := rfl
        rw [hx, hce]
        simp only [Deferred.ofValue, Sem.run_bind, Sem.run_pure, Result.andThen_ok, invoke]
        exact run_callFunc he _ X.w
      | _ => cases h
    | _ => cases h
  · obtain ⟨dst, op, ty, pos, after, guard⟩ := o
    dsimp only at ho
    subst ho
    simp only [Env.act, Option.bind_eq_some_iff] at h
    obtain ⟨v, hv, h⟩ := h
    have hvr := opd_rel hR k hx' hv
    generalize hce : a.eval x = cc at hvr
    cases hvr with
    | ifc t u u' hu =>
      cases h
      refine .panic _ (.iface t u') ?_ (.ifc _ _ _ hu)
      have hx : (execOp a.eval { dst := dst, op := Op.panic x, type := ty, pos := pos, after := after, guard := guard }) = (do pure (.value (← Instr.panic (a.eval x)))) := rfl
      rw [hx, hce]
      simp [Instr.panic]
    | _ => cases h
  · obtain ⟨dst, op, ty, pos, after, guard⟩ := o
    dsimp only at ho
    subst ho
    simp only [Env.act, Option.bind_eq_some_iff] at h
    obtain ⟨v, hv, h⟩ := h
    have hvr := opd_rel hR k hx' hv
    generalize hce : a.eval x = cc at hvr
    cases hvr with
    | ifc t u u' hu =>
      cases h
      refine .panic _ (.iface t u') ?_ (.ifc _ _ _ hu)
      simp [execOp, resolve, invoke, builtin, hce, Instr.panic]
    | _ => cases h
end
end Go.AM
