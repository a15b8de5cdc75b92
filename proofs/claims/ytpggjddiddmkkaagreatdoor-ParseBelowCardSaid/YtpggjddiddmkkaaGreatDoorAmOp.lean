/-
  THE ABSTRACT MACHINE AND THE MODEL: an operation that calls nothing, whichever it is.
-/
import Derived.Test.YtpggjddiddmkkaaGreatDoorAmOps7
import Derived.Laws.RangeString
set_option linter.unusedSimpArgs false
set_option linter.unusedVariables false
namespace Go.AM
open Go.RowKit
section
variable {B : Nat} {w0 : World} {E : Env} {X : RX} {P : Program}
theorem sim_range (hR : Rel B w0 E X) {t : TypeId} (hu : P.underlying t = some .string) {s : List UInt8} {c : Value} (hx : VRel X (.str s) c) :
    Sim B w0 E X P (Instr.range t c) (.itr X.h.its.length) (X.h.walk s) := by
  cases hx
  have hb := below_alloc' X.w (.stringIter ⟨s.toArray⟩ 0)
  refine ⟨X.walk (X.w.alloc (.stringIter ⟨s.toArray⟩ 0)) s X.w.heap.size, .pointer (some ⟨X.w.heap.size, 0, none⟩), run_range_string X.w t ⟨s.toArray⟩ hu, rfl, hR.walk hb (Nat.le_refl _) (heap_new X.w _), Ext.walk X hb s (Nat.le_refl _), ?_⟩
  have := VRel.itr (X := X.walk (X.w.alloc (.stringIter ⟨s.toArray⟩ 0)) s X.w.heap.size) X.h.its.length (by simp only [RX.walk, Heap.walk, List.length_append, List.length_singleton]; omega)
  simpa only [RX.walk, if_true] using this
theorem sim_next (hR : Rel B w0 E X) {k : Nat} {c : Value} (hx : VRel X (.itr k) c) {ty : TypeId} {r : OpRes} (h : aNext X.h k = some r) :
    Sim B w0 E X P (Instr.next c true ty) r.v r.h := by
  cases hx with
  | itr _ hk =>
  unfold aNext at h
  cases e : X.h.its[k]? with
  | none => rw [e] at h; cases h
  | some sp =>
    obtain ⟨s, p⟩ := sp
    rw [e] at h
    dsimp only at h
    obtain ⟨g1, g2, g3⟩ := hR.its k s p e
    have hsz : (⟨s.toArray⟩ : ByteArray).size = s.length := by simp [ByteArray.size]
    have hlt := (Array.getElem?_eq_some_iff.1 g1).1
    split at h
    · rename_i hp
      cases h
      obtain ⟨w', ew⟩ : ∃ w' : World, w' = { X.w with heap := X.w.heap.setIfInBounds (X.τ k) (.stringIter ⟨s.toArray⟩ (p + (Utf8.decode ⟨s.toArray⟩ p).2)) } := ⟨_, rfl⟩
      have hat : w'.heap[X.τ k]? = some (.stringIter ⟨s.toArray⟩ (p + (Utf8.decode ⟨s.toArray⟩ p).2)) := by
        rw [ew]; simp [Array.getElem?_setIfInBounds_self_of_lt hlt]
      have hO : Only (X.τ k) X.w w' := by
        rw [ew]
        exact ⟨rfl, rfl, rfl, by simp, fun b hb hne => by simp only; rw [Array.getElem?_setIfInBounds_ne (fun e => hne e.symm)]⟩
      refine ⟨X.step w' k s (p + (Utf8.decode ⟨s.toArray⟩ p).2), .tuple #[.bool true, goInt p, .int .i32 (Utf8.decode ⟨s.toArray⟩ p).1], ?_, rfl, hR.step e hO hat, Ext.step X hk hO s _, ?_⟩
      · show (Instr.next (.pointer (some ⟨X.τ k, 0, none⟩)) true ty).run P X.w = .ok _ w'
        rw [ew]
        simp only [Instr.next, getObj, setObj, Sem.run_bind, Sem.run, g1, Result.andThen, hsz, hp, if_true]
        simp [Sem.run, g1, hlt]
      · exact .tup [.bool true, .int .i64 p, .int .i32 (Utf8.decode ⟨s.toArray⟩ p).1] [.bool true, .int .i64 p, .int .i32 (Utf8.decode ⟨s.toArray⟩ p).1] (.cons _ _ _ _ (.bool _) (.cons _ _ _ _ (.int _ _) (.cons _ _ _ _ (.int _ _) .nil)))
    · rename_i hp
      cases h
      refine Sim.same hR (v' := .tuple #[.bool false]) ?_ (.tup [.bool false] [.bool false] (.cons _ _ _ _ (.bool _) .nil))
      simp only [Instr.next, getObj, setObj, Sem.run_bind, Sem.run, g1, Result.andThen, hsz, hp, if_false]
      rfl
end
end Go.AM

set_option linter.unusedSimpArgs false
set_option linter.unusedVariables false
namespace Go.AM
open Go.RowKit
section
variable {B : Nat} {w0 : World} {E : Env} {X : RX} {P : Program}
/-- The model's operation and the machine's come to the same. -/
def ActSim (B : Nat) (w0 : World) (E : Env) (X : RX) (P : Program) (s : Sem Next) (v : AV) (h : Heap) : Prop :=
  ∃ X' v', (s.run P X.w = .ok (.value v') X'.w ∨ (s.run P X.w = .ok .skip X'.w ∧ v' = Go.undef)) ∧ X'.h = h ∧ Rel B w0 E X' ∧ Ext X X' ∧ VRel X' v v'
theorem Sim.act {s : Sem Value} {v : AV} {h : Heap} (k : Sim B w0 E X P s v h) : ActSim B w0 E X P (do pure (.value (← s))) v h := by
  obtain ⟨X', v', h1, h2, h3, h4, h5⟩ := k
  exact ⟨X', v', .inl (by simp only [Sem.run_bind, h1, Result.andThen_ok, Sem.run_pure]), h2, h3, h4, h5⟩
theorem SimU.act {s : Sem Unit} {h : Heap} (k : SimU B w0 E X P s h) : ActSim B w0 E X P (do s; pure .skip) .undef h := by
  obtain ⟨X', h1, h2, h3, h4⟩ := k
  exact ⟨X', Go.undef, .inr ⟨by simp only [Sem.run_bind, h1, Result.andThen_ok, Sem.run_pure], rfl⟩, h2, h3, h4, VRel.undef⟩
theorem ActSim.value (hR : Rel B w0 E X) {v : AV} {v' : Value} (hv : VRel X v v') : ActSim B w0 E X P (pure (.value v')) v X.h :=
  ⟨X, v', .inl rfl, rfl, hR, Ext.refl X, hv⟩
theorem trConv_inv {s d : TypeId} {c : CvT} (h : trConv P s d = some c) :
    (∃ k k', P.underlying s = some (.int k) ∧ P.underlying d = some (.int k') ∧ c = .int k') ∨
    (∃ k, P.underlying s = some (.int k) ∧ P.underlying d = some .string ∧ c = .rune) ∨
    (P.underlying s = some .string ∧ P.underlying d = some .string ∧ c = .same) ∨
    (∃ e, P.underlying s = some .string ∧ P.underlying d = some (.slice e) ∧ P.underlying e = some (.int .u8) ∧ c = .s2b) ∨
    (∃ e, P.underlying s = some .string ∧ P.underlying d = some (.slice e) ∧ P.underlying e = some (.int .i32) ∧ c = .s2r) ∨
    (∃ e, P.underlying s = some (.slice e) ∧ P.underlying d = some .string ∧ P.underlying e = some (.int .u8) ∧ c = .b2s) ∨
    (∃ e, P.underlying s = some (.slice e) ∧ P.underlying d = some .string ∧ P.underlying e = some (.int .i32) ∧ c = .r2s) ∨
    (∃ e, s = d ∧ P.underlying s = some (.slice e) ∧ P.underlying e = some (.int .u8) ∧ c = .b2b) := by
  simp only [trConv, Option.bind_eq_bind, Option.bind_eq_some_iff] at h
  obtain ⟨ds, hs, dd, hd, h⟩ := h
  cases ds <;> cases dd <;> simp only [reduceCtorEq, Option.pure_def, Option.some.injEq, Option.bind_eq_some_iff] at h
  case int.int => exact .inl ⟨_, _, hs, hd, h.symm⟩
  case int.string => exact .inr (.inl ⟨_, hs, hd, h.symm⟩)
  case string.string => exact .inr (.inr (.inl ⟨hs, hd, h.symm⟩))
  case string.slice e =>
    obtain ⟨de, he, h⟩ := h
    split at h
    · cases h; exact .inr (.inr (.inr (.inl ⟨_, hs, hd, he, rfl⟩)))
    · cases h; exact .inr (.inr (.inr (.inr (.inl ⟨_, hs, hd, he, rfl⟩))))
    · cases h
  case slice.string e =>
    obtain ⟨de, he, h⟩ := h
    split at h
    · cases h; exact .inr (.inr (.inr (.inr (.inr (.inl ⟨_, hs, hd, he, rfl⟩)))))
    · cases h; exact .inr (.inr (.inr (.inr (.inr (.inr (.inl ⟨_, hs, hd, he, rfl⟩))))))
    · cases h
  case slice.slice e e' =>
    obtain ⟨de, he, h⟩ := h
    split at h
    · split at h
      · rename_i e1
        cases h
        subst e1
        rw [hs] at hd
        cases hd
        exact .inr (.inr (.inr (.inr (.inr (.inr (.inr ⟨_, rfl, hs, he, rfl⟩))))))
      · cases h
    · cases h
theorem sim_conv (hR : Rel B w0 E X) {s d : TypeId} {c : CvT} (hc : trConv P s d = some c) {x : AV} {u : Value} (hx : VRel X x u) {r : OpRes} (h : aConv X.h c x = some r) :
    Sim B w0 E X P (convert s d u) r.v r.h := by
  rcases trConv_inv hc with ⟨k, k', hs, hd, rfl⟩ | ⟨k, hs, hd, rfl⟩ | ⟨hs, hd, rfl⟩ | ⟨e, hs, hd, he, rfl⟩ | ⟨e, hs, hd, he, rfl⟩ | ⟨e, hs, hd, he, rfl⟩ | ⟨e, hs, hd, he, rfl⟩ | ⟨e, rfl, hs, he, rfl⟩
  · cases hx <;> simp only [aConv, Option.some.injEq, reduceCtorEq] at h
    subst h
    exact Sim.same hR (by simp [convert, run_underlying hs, run_underlying hd, Conv.intToInt]) (.int _ _)
  · cases hx <;> simp only [aConv, Option.some.injEq, reduceCtorEq] at h
    rename_i kk n
    subst h
    refine Sim.same hR (v' := .string (Utf8.encode n)) (by simp [convert, run_underlying hs, run_underlying hd, Conv.intToString]) ?_
    have : (.string (Utf8.encode n) : Value) = .string ⟨(Utf8.encode n).data.toList.toArray⟩ := by simp
    rw [this]
    exact .str _
  · cases hx <;> simp only [aConv, Option.some.injEq, reduceCtorEq] at h
    subst h
    exact Sim.same hR (by simp [convert, run_underlying hs, run_underlying hd]) (.str _)
  · exact sim_s2b hR hs hd he hx h
  · exact sim_s2r hR hs hd he hx h
  · exact sim_b2s hR hs he hd hx h
  · simp [aConv] at h
  · exact sim_b2b hR hs he hx h
theorem trBin_inv {op : BinOp} {t : TypeId} {x y : Operand} {ao : AOp} (h : trBin P op t x y = some ao) :
    ∃ a b, trOpd x = some a ∧ trOpd y = some b ∧ (ao = .bin op a b ∨
      ((op = .eql ∨ op = .neq) ∧ (∀ d, P.underlying t = some d → (∀ k, d ≠ .int k) ∧ d ≠ .string) ∧ ∃ e, trEq P t (isLit x || isLit y) = some e ∧ ao = .eq (isNeq op) e a b)) := by
  simp only [trBin, Option.bind_eq_bind, Option.bind_eq_some_iff] at h
  obtain ⟨a, ha, b, hb, h⟩ := h
  refine ⟨a, b, ha, hb, ?_⟩
  split at h
  · simp only [Option.bind_eq_some_iff] at h
    obtain ⟨d, hd, h⟩ := h
    split at h
    · simp only [Option.pure_def, Option.some.injEq] at h; exact .inl h.symm
    · simp only [Option.pure_def, Option.some.injEq] at h; exact .inl h.symm
    · rename_i n1 n2
      simp only [Option.pure_def, Option.bind_eq_some_iff, Option.some.injEq] at h
      obtain ⟨e, he, rfl⟩ := h
      exact .inr ⟨.inl rfl, fun d' hd' => by rw [hd] at hd'; cases hd'; exact ⟨fun k e1 => n1 k e1, fun e1 => n2 e1⟩, e, he, rfl⟩
  · simp only [Option.bind_eq_some_iff] at h
    obtain ⟨d, hd, h⟩ := h
    split at h
    · simp only [Option.pure_def, Option.some.injEq] at h; exact .inl h.symm
    · simp only [Option.pure_def, Option.some.injEq] at h; exact .inl h.symm
    · rename_i n1 n2
      simp only [Option.pure_def, Option.bind_eq_some_iff, Option.some.injEq] at h
      obtain ⟨e, he, rfl⟩ := h
      exact .inr ⟨.inr rfl, fun d' hd' => by rw [hd] at hd'; cases hd'; exact ⟨fun k e1 => n1 k e1, fun e1 => n2 e1⟩, e, he, rfl⟩
  · simp only [Option.pure_def, Option.some.injEq] at h; exact .inl h.symm
theorem trSlice_inv {t : TypeId} {x : Operand} {lo hi mx : Option Operand} {ao : AOp} (h : trSlice P t x lo hi mx = some ao) :
    ∃ a l u m, trOpd x = some a ∧ trOpdo lo = some l ∧ trOpdo hi = some u ∧ trOpdo mx = some m ∧
      ((P.underlying t = some .string ∧ m = none ∧ ao = .sliceStr a l u) ∨
       (∃ e s, P.underlying t = some (.slice e) ∧ tSize P e = some s ∧ ao = .slice s a l u m) ∨
       (∃ n e s, (P.underlying t = some (.array n e) ∨ ∃ arr, P.underlying t = some (.pointer arr) ∧ P.underlying arr = some (.array n e)) ∧ tSize P e = some s ∧ ao = .sliceArr s n a l u m)) := by
  simp only [trSlice, Option.bind_eq_bind, Option.bind_eq_some_iff] at h
  obtain ⟨a, ha, l, hl, u, hu, m, hm, d, hd, h⟩ := h
  refine ⟨a, l, u, m, ha, hl, hu, hm, ?_⟩
  cases d <;> simp only [reduceCtorEq, Option.pure_def, Option.bind_eq_some_iff, Option.some.injEq] at h
  case string =>
    cases m with
    | none => simp only [Option.some.injEq] at h; exact .inl ⟨hd, rfl, h.symm⟩
    | some m => cases h
  case slice e => obtain ⟨s, hs, rfl⟩ := h; exact .inr (.inl ⟨e, s, hd, hs, rfl⟩)
  case array n e => obtain ⟨s, hs, rfl⟩ := h; exact .inr (.inr ⟨n, e, s, .inl hd, hs, rfl⟩)
  case pointer arr =>
    obtain ⟨d', hd', h⟩ := h
    cases d' <;> simp only [reduceCtorEq, Option.pure_def, Option.bind_eq_some_iff, Option.some.injEq] at h
    obtain ⟨s, hs, rfl⟩ := h
    exact .inr (.inr ⟨_, _, s, .inr ⟨arr, hd, hd'⟩, hs, rfl⟩)
theorem zeros_length {e : TypeId} {s : Nat} (hs : tSize P e = some s) (h : (tZero P e).map List.length = tSize P e) : ∃ z, tZero P e = some z ∧ z.length = s := by
  rw [hs] at h
  simpa using h
/-- The builtins. -/
theorem sim_builtin (hR : Rel B w0 E X) {n : Nat} {σ : Slots} {a : Act} (k : SRel X n σ a.tmps) {b : Builtin} {types : Array TypeId} {args : Array Operand} {ty : TypeId} {consts : Array Bool} {ao : AOp}
    (ht : trBuiltin P b types args = some ao) {r : OpRes} (h : E.op σ X.h ao = some r) : ActSim B w0 E X P (builtin b types ty consts (args.map a.eval)) r.v r.h := by
  cases b <;> simp only [trBuiltin, reduceCtorEq] at ht
  case append =>
    split at ht
    · cases ht
    rename_i hsz
    simp only [not_or, Decidable.not_not] at hsz
    obtain ⟨hs1, hs2⟩ := hsz
    obtain ⟨args⟩ := args
    obtain ⟨types⟩ := types
    match args, hs1 with
    | [x, y], _ =>
    match types, hs2 with
    | [t, u], _ =>
    simp only [List.getElem?_toArray, List.getElem?_cons_zero, List.getElem?_cons_succ, Option.bind_eq_bind, Option.bind_some, Option.bind_eq_some_iff] at ht
    obtain ⟨x', hx', y', hy', d1, hd1, d2, hd2, ht⟩ := ht
    have fin : ∀ e sz bytes, AppT P t u e sz bytes → ao = .append sz bytes x' y' → ActSim B w0 E X P (builtin .append ⟨[t, u]⟩ ty consts (Array.map a.eval ⟨[x, y]⟩)) r.v r.h := by
      rintro e sz bytes hT rfl
      simp only [Env.op, Option.bind_eq_some_iff] at h
      obtain ⟨v1, hv1, v2, hv2, h⟩ := h
      have := sim_append (ty := ty) hR hT (opd_rel hR k hx' hv1) (opd_rel hR k hy' hv2) h
      have e : Array.map a.eval ⟨[x, y]⟩ = #[a.eval x, a.eval y] := by simp
      rw [e]
      exact Sim.act this
    split at ht
    · split at ht
      · rename_i hc
        obtain ⟨rfl, hz⟩ := hc
        simp only [Option.pure_def, Option.bind_eq_some_iff, Option.some.injEq] at ht
        obtain ⟨s, hs, bt, hbt, rfl⟩ := ht
        exact fin _ s bt ⟨hd1, .inl hd2, hs, hbt, zeros_length hs hz⟩ rfl
      · cases ht
    · split at ht
      · rename_i hz
        simp only [Option.pure_def, Option.bind_eq_some_iff, Option.some.injEq] at ht
        obtain ⟨s, hs, bt, hbt, rfl⟩ := ht
        exact fin _ s bt ⟨hd1, .inr hd2, hs, hbt, zeros_length hs hz⟩ rfl
      · cases ht
    · simp only [Option.pure_def, Option.bind_eq_some_iff, Option.some.injEq] at ht
      obtain ⟨s, hs, bt, hbt, z, hz, rfl⟩ := ht
      simp only [Env.op, Option.bind_eq_some_iff] at h
      obtain ⟨v1, hv1, v2, hv2, h⟩ := h
      have := sim_appendZ (ty := ty) hR hd1 hd2 hs hbt hz (opd_rel hR k hx' hv1) (opd_rel hR k hy' hv2) h
      have e : Array.map a.eval ⟨[x, y]⟩ = #[a.eval x, a.eval y] := by simp
      rw [e]
      exact Sim.act this
    · cases ht
  case cap =>
    split at ht
    · cases ht
    rename_i hsz
    obtain ⟨args⟩ := args
    match args, (Decidable.not_not.1 hsz) with
    | [x], _ =>
    simp only [List.getElem?_toArray, List.getElem?_cons_zero, Option.bind_eq_bind, Option.bind_some, Option.bind_eq_some_iff] at ht
    obtain ⟨x', hx', t, hty, d, hd, ht⟩ := ht
    cases d <;> simp only [reduceCtorEq, Option.pure_def, Option.some.injEq] at ht
    subst ht
    simp only [Env.op, Option.bind_eq_some_iff, Option.map_eq_some_iff] at h
    obtain ⟨v, hv, q, hq, rfl⟩ := h
    have e : Array.map a.eval ⟨[x]⟩ = #[a.eval x] := by simp
    rw [e]
    exact Sim.act (sim_cap (ty := ty) hR hty hd (opd_rel hR k hx' hv) hq)
  case clear =>
    split at ht
    · cases ht
    rename_i hsz
    obtain ⟨args⟩ := args
    match args, (Decidable.not_not.1 hsz) with
    | [x], _ =>
    simp only [List.getElem?_toArray, List.getElem?_cons_zero, Option.bind_eq_bind, Option.bind_some, Option.bind_eq_some_iff] at ht
    obtain ⟨x', hx', t, hty, d, hd, ht⟩ := ht
    cases d <;> simp only [reduceCtorEq, Option.pure_def, Option.bind_eq_some_iff, Option.some.injEq] at ht
    obtain ⟨s, hs, z, hz, rfl⟩ := ht
    simp only [Env.op, Option.bind_eq_some_iff] at h
    obtain ⟨v, hv, h⟩ := h
    have e : Array.map a.eval ⟨[x]⟩ = #[a.eval x] := by simp
    rw [e]
    exact Sim.act (sim_clear (ty := ty) hR hty hd hs hz (opd_rel hR k hx' hv) h)
  case copy =>
    split at ht
    · cases ht
    rename_i hsz
    obtain ⟨args⟩ := args
    match args, (Decidable.not_not.1 hsz) with
    | [x, y], _ =>
    simp only [List.getElem?_toArray, List.getElem?_cons_zero, List.getElem?_cons_succ, Option.bind_eq_bind, Option.bind_some, Option.bind_eq_some_iff] at ht
    obtain ⟨x', hx', y', hy', t, hty, d, hd, ht⟩ := ht
    cases d <;> simp only [reduceCtorEq, Option.pure_def, Option.bind_eq_some_iff, Option.some.injEq] at ht
    obtain ⟨s, hs, rfl⟩ := ht
    simp only [Env.op, Option.bind_eq_some_iff] at h
    obtain ⟨v, hv, u, hu, h⟩ := h
    have e : Array.map a.eval ⟨[x, y]⟩ = #[a.eval x, a.eval y] := by simp
    rw [e]
    exact Sim.act (sim_copy (ty := ty) hR hty hd hs (opd_rel hR k hx' hv) (opd_rel hR k hy' hu) h)
  case len =>
    simp only [Option.bind_eq_bind, Option.bind_eq_some_iff] at ht
    obtain ⟨x, hx, x', hx', t, hty, d, hd, ht⟩ := ht
    have harg : (args.map a.eval)[0]? = some (a.eval x) := by simp [hx]
    have key : ∀ (c : Value) (m : Nat), a.eval x = c → (Builtin.len_ types ty #[c]).run P X.w = .ok (.int .i64 m) X.w → args.size = 1 →
        ActSim B w0 E X P (builtin .len types ty consts (args.map a.eval)) (.int .i64 m) X.h := by
      intro c m hc hrun h1
      have hargs : args.map a.eval = #[c] := by
        apply Array.ext'
        obtain ⟨l⟩ := args
        match l, h1, hx with
        | [y], _, hx => simp at hx; subst hx; simp [hc]
      rw [hargs]
      exact Sim.act (s := Builtin.len_ types ty #[c]) (Sim.same hR hrun (.int _ _))
    cases d <;> simp only [reduceCtorEq] at ht
    case string =>
      split at ht
      · rename_i h1
        simp only [Option.pure_def, Option.some.injEq] at ht
        subst ht
        simp only [Env.op, Option.bind_eq_some_iff] at h
        obtain ⟨v, hv, h⟩ := h
        have hvr := opd_rel hR k hx' hv
        generalize hce : a.eval x = cc at hvr
        cases hvr <;> simp only [Option.some.injEq, reduceCtorEq] at h
        subst h
        refine key _ _ hce ?_ h1
        simp only [Builtin.len_, hty, List.getElem?_toArray, List.getElem?_cons_zero, Sem.run_bind, run_underlying hd, Result.andThen_ok, Sem.run_pure, goInt]
        rfl
      · cases ht
    case slice =>
      split at ht
      · rename_i h1
        simp only [Option.pure_def, Option.some.injEq] at ht
        subst ht
        simp only [Env.op, Option.bind_eq_some_iff] at h
        obtain ⟨v, hv, h⟩ := h
        have hvr := opd_rel hR k hx' hv
        generalize hce : a.eval x = cc at hvr
        cases hvr <;> simp only [Option.some.injEq, reduceCtorEq] at h <;> subst h
        · exact key _ 0 hce (by simp [Builtin.len_, hty, run_underlying hd, goInt]) h1
        · exact key _ _ hce (by simp [Builtin.len_, hty, run_underlying hd, goInt]) h1
        · exact key _ _ hce (by simp [Builtin.len_, hty, run_underlying hd, goInt]) h1
      · cases ht
    case array =>
      split at ht
      · rename_i h1
        simp only [Option.pure_def, Option.some.injEq] at ht
        subst ht
        simp only [Env.op, Env.opd, Option.map_some, Option.some.injEq] at h
        subst h
        exact key _ _ rfl (by simp [Builtin.len_, hty, run_underlying hd, goInt]) h1
      · cases ht
  case max =>
    split at ht
    · cases ht
    rename_i hsz
    obtain ⟨args⟩ := args
    match args, (Decidable.not_not.1 hsz) with
    | [x, y], _ =>
    simp only [List.getElem?_toArray, List.getElem?_cons_zero, List.getElem?_cons_succ, Option.bind_eq_bind, Option.bind_some, Option.bind_eq_some_iff, Option.pure_def, Option.some.injEq] at ht
    obtain ⟨x', hx', y', hy', rfl⟩ := ht
    simp only [Env.op, Option.bind_eq_some_iff, Option.map_eq_some_iff] at h
    obtain ⟨v1, hv1, v2, hv2, v, hv, rfl⟩ := h
    have e : Array.map a.eval ⟨[x, y]⟩ = #[a.eval x, a.eval y] := by simp
    rw [e]
    exact Sim.act (sim_max (tys := types) (ty := ty) hR (opd_rel hR k hx' hv1) (opd_rel hR k hy' hv2) hv)
  case min =>
    split at ht
    · cases ht
    rename_i hsz
    obtain ⟨args⟩ := args
    match args, (Decidable.not_not.1 hsz) with
    | [x, y], _ =>
    simp only [List.getElem?_toArray, List.getElem?_cons_zero, List.getElem?_cons_succ, Option.bind_eq_bind, Option.bind_some, Option.bind_eq_some_iff, Option.pure_def, Option.some.injEq] at ht
    obtain ⟨x', hx', y', hy', rfl⟩ := ht
    simp only [Env.op, Option.bind_eq_some_iff, Option.map_eq_some_iff] at h
    obtain ⟨v1, hv1, v2, hv2, v, hv, rfl⟩ := h
    have e : Array.map a.eval ⟨[x, y]⟩ = #[a.eval x, a.eval y] := by simp
    rw [e]
    exact Sim.act (sim_min (tys := types) (ty := ty) hR (opd_rel hR k hx' hv1) (opd_rel hR k hy' hv2) hv)
  case panic =>
    split at ht
    · cases ht
    · simp only [Option.bind_eq_bind, Option.bind_eq_some_iff, Option.pure_def, Option.some.injEq] at ht
      obtain ⟨_, _, _, _, rfl⟩ := ht
      simp [Env.op] at h
set_option maxHeartbeats 1000000 in
theorem op_sim (hR : Rel B w0 E X) {n : Nat} {σ : Slots} {a : Act} (k : SRel X n σ a.tmps) {fr : Bool} {o : Oper} {ao : AOp} (ht : trOp P fr o.op = some ao) {r : OpRes} (h : E.op σ X.h ao = some r) :
    ActSim B w0 E X P (execOp a.eval o) r.v r.h := by
  obtain ⟨dst, op, ty, pos, after, guard⟩ := o
  cases op <;> simp only [trOp, reduceCtorEq, Option.bind_eq_bind, Option.pure_def, Option.bind_eq_some_iff, Option.some.injEq] at ht
  case move x =>
    obtain ⟨x', hx', rfl⟩ := ht
    simp only [Env.op, Option.map_eq_some_iff] at h
    obtain ⟨v, hv, rfl⟩ := h
    exact ActSim.value hR (opd_rel hR k hx' hv)
  case assign x =>
    obtain ⟨x', hx', rfl⟩ := ht
    simp only [Env.op, Option.map_eq_some_iff] at h
    obtain ⟨v, hv, rfl⟩ := h
    exact ActSim.value hR (opd_rel hR k hx' hv)
  case pick c x y =>
    obtain ⟨c', hc', x', hx', y', hy', rfl⟩ := ht
    simp only [Env.op, Option.bind_eq_some_iff] at h
    obtain ⟨cv, hcv, h⟩ := h
    have hc := opd_rel hR k hc' hcv
    generalize hce : a.eval c = cc at hc
    cases hc with
    | bool b =>
      cases b with
      | true =>
        simp only [Option.map_eq_some_iff] at h
        obtain ⟨v, hv, rfl⟩ := h
        exact ⟨X, _, .inl (by simp [execOp, hce, asBool]), rfl, hR, Ext.refl X, opd_rel hR k hx' hv⟩
      | false =>
        simp only [Option.map_eq_some_iff] at h
        obtain ⟨v, hv, rfl⟩ := h
        exact ⟨X, _, .inl (by simp [execOp, hce, asBool]), rfl, hR, Ext.refl X, opd_rel hR k hy' hv⟩
    | _ => cases h
  case alloc e =>
    obtain ⟨z, hz, rfl⟩ := ht
    simp only [Env.op, Option.some.injEq] at h
    subst h
    exact Sim.act (sim_alloc hR hz)
  case box e x =>
    obtain ⟨s, hs, x', hx', rfl⟩ := ht
    simp only [Env.op, Option.bind_eq_some_iff] at h
    obtain ⟨v, hv, vs, hvs, h⟩ := h
    split at h
    · cases fr with
      | true => simp only [Option.some.injEq] at h; subst h; exact Sim.act (sim_boxStill hR (opd_rel hR k hx' hv) hvs)
      | false => simp only [Option.some.injEq] at h; subst h; exact Sim.act (sim_box hR (opd_rel hR k hx' hv) hvs)
    · cases h
  case build t parts =>
    have hb : ∃ z ps, ao = .build z ps := by
      simp only [trBuild, Option.bind_eq_bind, Option.bind_eq_some_iff] at ht
      obtain ⟨z, _, d, _, ht⟩ := ht
      cases d <;> simp only [reduceCtorEq, Option.pure_def, Option.bind_eq_some_iff, Option.some.injEq] at ht
      · obtain ⟨_, _, _, _, rfl⟩ := ht; exact ⟨_, _, rfl⟩
      · obtain ⟨_, _, _, _, rfl⟩ := ht; exact ⟨_, _, rfl⟩
    obtain ⟨z, ps, rfl⟩ := hb
    simp only [Env.op, Option.bind_eq_some_iff, Option.map_eq_some_iff] at h
    obtain ⟨l, hl, cs, hcs, rfl⟩ := h
    exact Sim.act (sim_build hR k ht hl hcs)
  case buildSlice t len parts =>
    have hb : ∃ fr' sz len' z ps, ao = .lit fr' sz len' z ps := by
      unfold trLit at ht
      split at ht
      · simp only [Option.bind_eq_some_iff] at ht
        obtain ⟨s, hs, ht⟩ := ht
        split at ht
        · cases ht
        simp only [Option.bind_eq_some_iff] at ht
        obtain ⟨z, hz, ht⟩ := ht
        split at ht
        · cases ht
        simp only [Option.map_eq_some_iff] at ht
        obtain ⟨ps, _, rfl⟩ := ht
        exact ⟨_, _, _, _, _, rfl⟩
      · cases ht
    obtain ⟨fr', sz, len', z, ps, rfl⟩ := hb
    simp only [Env.op, Option.bind_eq_some_iff] at h
    obtain ⟨l, hl, cs, hcs, h⟩ := h
    split at h
    · rename_i hlen
      obtain ⟨e, arr, g1, g2, rfl, g3⟩ := sim_lit (P := P) hR k ht hl hcs hlen
      have hgl := g1.length
      refine Sim.act (s := Instr.buildSlice t len' (parts.map fun (i, x) => (i, a.eval x))) ?_
      cases fr' with
      | true =>
        simp only [Option.some.injEq] at h; subst h
        have hb := below_alloc' X.w (.cells arr e)
        refine ⟨{ X with w := X.w.alloc (.cells arr e) }, _, g3, rfl, hR.grow hb, Ext.grow X hb,
          .fs true len' cs _ len' arr.toList (Nat.le_refl _) (fun _ => rfl) (fun _ => ⟨X.w.heap.size, 0, rfl, Still.new hR hb (Nat.le_refl _) (by simp), fun i v hv => ?_⟩) g2 (g1.ext (Ext.grow X hb))⟩
        simpa [World.cell?_alloc_new] using hv
      | false =>
        simp only [Option.some.injEq] at h; subst h
        refine Sim.new_ hR (below_alloc' X.w _) (Nat.le_refl _) g2 (heap_new X.w _) (.inl rfl) (by simpa using Nat.le_of_eq hgl) (by rw [hgl, List.take_length]; exact g1) g3
          (VRel.newSl _ _ _ _ _ _ _ _ (Nat.le_refl _) (fun _ e => by cases e; rfl) ?_ (fun e => by cases e))
        have : arr.size = len' * sz := by rw [← hlen, hgl]; simp
        omega
    · cases h
  case load t x =>
    obtain ⟨ag, hag, s, hs, x', hx', rfl⟩ := ht
    simp only [Env.op, Option.bind_eq_some_iff] at h
    obtain ⟨v, hv, h⟩ := h
    exact Sim.act (sim_load hR hag hs (opd_rel hR k hx' hv) h)
  case store t x y =>
    obtain ⟨s, hs, x', hx', y', hy', rfl⟩ := ht
    simp only [Env.op, Option.bind_eq_some_iff] at h
    obtain ⟨v, hv, u, hu, h⟩ := h
    obtain ⟨h1, h2⟩ := sim_store (P := P) hR hs (opd_rel hR k hx' hv) (opd_rel hR k hy' hu) h
    rw [h2]
    exact SimU.act h1
  case nilCheck x =>
    obtain ⟨x', hx', rfl⟩ := ht
    simp only [Env.op, Option.bind_eq_some_iff] at h
    obtain ⟨v, hv, h⟩ := h
    have hr := opd_rel hR k hx' hv
    generalize hce : a.eval x = cc at hr
    have fin : (execOp a.eval { dst := dst, op := .nilCheck x, type := ty, pos := pos, after := after, guard := guard }).run P X.w = .ok (.value (a.eval x)) X.w → r = ⟨v, X.h, .none⟩ →
        ActSim B w0 E X P (execOp a.eval { dst := dst, op := .nilCheck x, type := ty, pos := pos, after := after, guard := guard }) r.v r.h := by
      rintro h1 rfl
      exact ⟨X, _, .inl h1, rfl, hR, Ext.refl X, opd_rel hR k hx' hv⟩
    cases hr with
    | ptr => cases h; exact fin (by simp [execOp, hce]) rfl
    | fp => cases h; exact fin (by simp [execOp, hce]) rfl
    | ifc => cases h; exact fin (by simp [execOp, hce]) rfl
    | fn f =>
      cases f with
      | func g => cases h; exact fin (by simp [execOp, hce]) rfl
      | _ => cases h
    | _ => cases h
  case binOp bop t x y ty2 =>
    obtain ⟨x', y', hx', hy', h2⟩ := trBin_inv ht
    rcases h2 with rfl | ⟨ho, hni, e, he, rfl⟩
    · simp only [Env.op, Option.bind_eq_some_iff, Option.map_eq_some_iff] at h
      obtain ⟨v, hv, u, hu, q, hq, rfl⟩ := h
      exact Sim.act (sim_bin hR (opd_rel hR k hx' hv) (opd_rel hR k hy' hu) hq x y)
    · simp only [Env.op, Option.bind_eq_some_iff, Option.map_eq_some_iff] at h
      obtain ⟨v, hv, u, hu, q, hq, rfl⟩ := h
      have := sim_eq (P := P) hR ho he hni (opd_rel hR k hx' hv) (opd_rel hR k hy' hu) hq
      have e2 : negIf (isNeq bop) q = (if bop = .neq then !q else q) := by
        rcases ho with rfl | rfl <;> rfl
      rw [e2]
      exact Sim.act this
  case unOp uop t x =>
    obtain ⟨x', hx', rfl⟩ := ht
    simp only [Env.op, Option.bind_eq_some_iff, Option.map_eq_some_iff] at h
    obtain ⟨v, hv, q, hq, rfl⟩ := h
    exact Sim.act (sim_un hR (opd_rel hR k hx' hv) hq)
  case convert s d x =>
    obtain ⟨c, hc, x', hx', rfl⟩ := ht
    simp only [Env.op, Option.bind_eq_some_iff] at h
    obtain ⟨v, hv, h⟩ := h
    exact Sim.act (sim_conv hR hc (opd_rel hR k hx' hv) h)
  case makeInterface t x =>
    obtain ⟨d, hd, ht⟩ := ht
    have : ∃ x', trOpd x = some x' ∧ ao = .mkIface t x' ∧ ∀ ms, d ≠ .interface ms := by
      cases d <;> simp only [reduceCtorEq, Option.bind_eq_some_iff, Option.some.injEq] at ht
      all_goals (obtain ⟨x', hx', rfl⟩ := ht; exact ⟨x', hx', rfl, fun ms e => by cases e⟩)
    obtain ⟨x', hx', rfl, hni⟩ := this
    simp only [Env.op, Option.map_eq_some_iff] at h
    obtain ⟨v, hv, rfl⟩ := h
    refine Sim.act (s := Instr.makeInterface t (a.eval x)) (Sim.same hR (v' := .iface t (a.eval x)) ?_ (.ifc _ _ _ (opd_rel hR k hx' hv)))
    cases d <;> first | exact absurd rfl (hni _) | simp [Instr.makeInterface, run_underlying hd]
  case makeFunc f first cap =>
    obtain ⟨p, hp, q, hq, rfl⟩ := ht
    simp only [Env.op, Option.bind_eq_some_iff, Option.map_eq_some_iff] at h
    obtain ⟨v, hv, u, hu, rfl⟩ := h
    refine Sim.act (s := Instr.makeFunc f (first.map a.eval) (cap.map a.eval)) (Sim.same hR (v' := .func f (first.map a.eval) (cap.map a.eval)) rfl ?_)
    have h1 := VRel.fn f v u _ _ (opds_rel hR k hp hv) (opds_rel hR k hq hu)
    have e1 : (List.map a.eval first.toList).toArray = first.map a.eval := by apply Array.ext'; simp
    have e2 : (List.map a.eval cap.toList).toArray = cap.map a.eval := by apply Array.ext'; simp
    rw [e1, e2] at h1
    exact h1
  case makeSlice t l c =>
    obtain ⟨d, hd, ht⟩ := ht
    cases d <;> simp only [reduceCtorEq, Option.bind_eq_some_iff, Option.some.injEq] at ht
    rename_i e
    obtain ⟨s, hs, bt, hbt, z, hz, l', hl', c', hc', rfl⟩ := ht
    simp only [Env.op, Option.bind_eq_some_iff] at h
    obtain ⟨v, hv, u, hu, h⟩ := h
    exact Sim.act (sim_makeSlice hR hd hs hbt hz (opd_rel hR k hl' hv) (opd_rel hR k hc' hu) h)
  case slice t x lo hi mx =>
    obtain ⟨x', l, u, m, hx', hl, hu, hm, h2⟩ := trSlice_inv ht
    rcases h2 with ⟨hd, rfl, rfl⟩ | ⟨e, s, hd, hs, rfl⟩ | ⟨nn, e, s, hd, hs, rfl⟩
    · simp only [Env.op, Option.bind_eq_some_iff, Option.map_eq_some_iff] at h
      obtain ⟨v, hv, q1, hq1, q2, hq2, q, hq, rfl⟩ := h
      have hmx : mx = none := by
        cases mx with
        | none => rfl
        | some y => simp only [trOpdo, Option.map_eq_some_iff] at hm; obtain ⟨_, _, e⟩ := hm; cases e
      subst hmx
      exact Sim.act (sim_sliceStr hR hd (opd_rel hR k hx' hv) (opdo_rel hR k hl hq1) (opdo_rel hR k hu hq2) hq)
    · simp only [Env.op, Option.bind_eq_some_iff] at h
      obtain ⟨v, hv, q1, hq1, q2, hq2, q3, hq3, h⟩ := h
      split at h
      · rename_i q hq
        cases h
        exact Sim.act (sim_slice hR hd hs (opd_rel hR k hx' hv) (opdo_rel hR k hl hq1) (opdo_rel hR k hu hq2) (opdo_rel hR k hm hq3) hq)
      · exact Sim.act (sim_sliceH hR hd hs (opd_rel hR k hx' hv) (opdo_rel hR k hl hq1) (opdo_rel hR k hu hq2) (opdo_rel hR k hm hq3) h)
    · simp only [Env.op, Option.bind_eq_some_iff] at h
      obtain ⟨v, hv, q1, hq1, q2, hq2, q3, hq3, h⟩ := h
      obtain ⟨g1, g2⟩ := sim_sliceArr (P := P) hR hd hs (opd_rel hR k hx' hv) (opdo_rel hR k hl hq1) (opdo_rel hR k hu hq2) (opdo_rel hR k hm hq3) h
      rw [g2]
      exact Sim.act g1
  case fieldAddr t x i =>
    obtain ⟨f, hf, s, hs, ht⟩ := ht
    split at ht
    · cases ht
    rename_i h0
    simp only [Option.bind_eq_some_iff, Option.some.injEq] at ht
    obtain ⟨x', hx', rfl⟩ := ht
    simp only [Env.op, Option.bind_eq_some_iff] at h
    obtain ⟨v, hv, h⟩ := h
    obtain ⟨g1, g2⟩ := sim_fieldAddr (P := P) hR hf hs h0 (opd_rel hR k hx' hv)
    cases v <;> simp only [Option.some.injEq, reduceCtorEq] at h
    · subst h; exact Sim.act (g1 _ _ _ rfl)
    · subst h; exact Sim.act (g2 _ rfl)
  case field t x i =>
    obtain ⟨f, hf, ag, hag, s, hs, x', hx', rfl⟩ := ht
    simp only [Env.op, Option.bind_eq_some_iff] at h
    obtain ⟨v, hv, h⟩ := h
    have hr := opd_rel hR k hx' hv
    cases v <;> simp only [reduceCtorEq] at h
    split at h
    · rename_i hfit
      simp only [Option.map_eq_some_iff] at h
      obtain ⟨q, hq, rfl⟩ := h
      exact Sim.act (sim_field hR hf hag hs hr hfit hq)
    · cases h
  case indexAddr t x i =>
    obtain ⟨d, hd, ht⟩ := ht
    cases d <;> simp only [reduceCtorEq, Option.bind_eq_some_iff, Option.some.injEq] at ht
    case slice e =>
      obtain ⟨s, hs, x', hx', i', hi', rfl⟩ := ht
      simp only [Env.op, Option.bind_eq_some_iff, Option.map_eq_some_iff] at h
      obtain ⟨v, hv, u, hu, q, hq, rfl⟩ := h
      exact Sim.act (sim_idxAddr hR hd hs (opd_rel hR k hx' hv) (opd_rel hR k hi' hu) hq)
    case array nn e =>
      obtain ⟨s, hs, x', hx', i', hi', rfl⟩ := ht
      simp only [Env.op, Option.bind_eq_some_iff, Option.map_eq_some_iff] at h
      obtain ⟨v, hv, u, hu, q, hq, rfl⟩ := h
      exact Sim.act (sim_idxAddrArr hR hd hs (opd_rel hR k hx' hv) (opd_rel hR k hi' hu) hq)
  case index t x i =>
    obtain ⟨d, hd, ht⟩ := ht
    cases d <;> simp only [reduceCtorEq, Option.bind_eq_some_iff, Option.some.injEq] at ht
    case string =>
      obtain ⟨x', hx', i', hi', rfl⟩ := ht
      simp only [Env.op, Option.bind_eq_some_iff] at h
      obtain ⟨v, hv, h⟩ := h
      have hr := opd_rel hR k hx' hv
      cases v <;> simp only [reduceCtorEq, Option.bind_eq_some_iff, Option.map_eq_some_iff] at h
      obtain ⟨u, hu, j, hj, c, hc, rfl⟩ := h
      exact Sim.act (sim_idxStr hR hd hr (opd_rel hR k hi' hu) hj hc)
    case array nn e =>
      obtain ⟨ag, hag, s, hs, x', hx', i', hi', rfl⟩ := ht
      simp only [Env.op, Option.bind_eq_some_iff] at h
      obtain ⟨v, hv, h⟩ := h
      have hr := opd_rel hR k hx' hv
      cases v <;> simp only [reduceCtorEq, Option.bind_eq_some_iff] at h
      obtain ⟨u, hu, j, hj, h⟩ := h
      split at h
      · rename_i hfit
        simp only [Option.map_eq_some_iff] at h
        obtain ⟨q, hq, rfl⟩ := h
        exact Sim.act (sim_idxArr hR hd hag hs hr (opd_rel hR k hi' hu) hj hfit hq)
      · cases h
  case range t x =>
    obtain ⟨d, hd, ht⟩ := ht
    cases d <;> simp only [reduceCtorEq, Option.bind_eq_some_iff, Option.some.injEq] at ht
    obtain ⟨x', hx', rfl⟩ := ht
    simp only [Env.op, Option.bind_eq_some_iff] at h
    obtain ⟨v, hv, h⟩ := h
    have hr := opd_rel hR k hx' hv
    cases v <;> simp only [reduceCtorEq, Option.some.injEq] at h
    subst h
    exact Sim.act (sim_range hR hd hr)
  case next x isStr =>
    cases isStr <;> simp only [reduceCtorEq, Option.bind_eq_some_iff, Option.some.injEq] at ht
    obtain ⟨x', hx', rfl⟩ := ht
    simp only [Env.op, Option.bind_eq_some_iff] at h
    obtain ⟨v, hv, h⟩ := h
    have hr := opd_rel hR k hx' hv
    cases v <;> simp only [reduceCtorEq] at h
    exact Sim.act (sim_next hR hr h)
  case extract x i =>
    obtain ⟨x', hx', rfl⟩ := ht
    simp only [Env.op, Option.bind_eq_some_iff] at h
    obtain ⟨v, hv, h⟩ := h
    have hr := opd_rel hR k hx' hv
    cases v <;> simp only [reduceCtorEq, Option.map_eq_some_iff] at h
    obtain ⟨q, hq, rfl⟩ := h
    exact Sim.act (sim_extract hR hr hq)
  case call c =>
    obtain ⟨callee, args, types⟩ := c
    cases callee with
    | value f =>
      exfalso
      cases f <;> simp only [trCall, Option.bind_eq_bind, Option.bind_eq_some_iff, Option.pure_def, Option.some.injEq] at ht
      all_goals (first | (obtain ⟨_, _, _, _, rfl⟩ := ht; simp [Env.op] at h) | (obtain ⟨_, _, rfl⟩ := ht; simp [Env.op] at h))
    | invoke _ _ => simp [trCall] at ht
    | builtin b =>
      have ht' : trBuiltin P b types args = some ao := ht
      exact sim_builtin (ty := ty) hR k ht' h
  case panic x =>
    obtain ⟨_, _, rfl⟩ := ht
    simp [Env.op] at h
end
end Go.AM
