/-
  THE ABSTRACT MACHINE AND THE MODEL: every order of a region.
-/
import Derived.Test.YtaielgjmhbjfhaaGreatDoorAmDraw2
set_option linter.unusedSimpArgs false
set_option linter.unusedVariables false
namespace Go.AM
open Go.RowKit

/-! ### what the checks say -/
theorem staticFrom_spec {x : AOper} {i : Nat} : ∀ {ys : List AOper} {ms : List Nat}, staticFrom x i ys ms = true → ∀ (k : Nat) {y : AOper} {m : Nat}, ys[k]? = some y → ms[k]? = some m → x.clash y = true → Nat.testBit m i = true
  | [], _, _, k, y, m, hy, _, _ => by simp at hy
  | _ :: _, [], _, k, y, m, _, hm, _ => by simp at hm
  | y0 :: ys, m0 :: ms, h, k, y, m, hy, hm, hc => by
    simp only [staticFrom, Bool.and_eq_true, Bool.or_eq_true, Bool.not_eq_true'] at h
    cases k with
    | zero =>
      simp at hy hm; subst hy; subst hm
      rcases h.1 with h | h
      · rw [hc] at h; cases h
      · exact h
    | succ k => simp at hy hm; exact staticFrom_spec h.2 k hy hm hc

theorem staticAll_spec : ∀ {l : List AOper} {ms : List Nat} {b : Nat}, staticAll b l ms = true → ∀ (i j : Nat) {x y : AOper} {m : Nat}, i < j → l[i]? = some x → l[j]? = some y → ms[j]? = some m → x.clash y = true → Nat.testBit m (b + i) = true
  | [], _, _, _, i, j, x, y, m, _, hx, _, _, _ => by simp at hx
  | _ :: _, [], _, _, i, j, x, y, m, _, _, _, hm, _ => by simp at hm
  | x0 :: l, m0 :: ms, b, h, i, j, x, y, m, hij, hx, hy, hm, hc => by
    simp only [staticAll, Bool.and_eq_true] at h
    cases j with
    | zero => omega
    | succ j =>
      simp at hy hm
      cases i with
      | zero => simp at hx; subst hx; exact staticFrom_spec h.1 j hy hm hc
      | succ i =>
        simp at hx
        have := staticAll_spec h.2 i j (by omega) hx hy hm hc
        rw [show b + (i + 1) = b + 1 + i by omega]; exact this

theorem apartAll_spec {E : Env} {hs : List Heap} {x : AOper × St × Cls} {i : Nat} : ∀ {ys : List (AOper × St × Cls)} {ms : List Nat}, E.apartAll hs x i ys ms = true → ∀ (k : Nat) {y : AOper × St × Cls} {m : Nat}, ys[k]? = some y → ms[k]? = some m →
    E.apart (Nat.testBit m i) hs x y = true
  | [], _, _, k, y, m, hy, _ => by simp at hy
  | _ :: _, [], _, k, y, m, _, hm => by simp at hm
  | y0 :: ys, m0 :: ms, h, k, y, m, hy, hm => by
    simp only [Env.apartAll, Bool.and_eq_true] at h
    cases k with
    | zero => simp at hy hm; subst hy; subst hm; exact h.1
    | succ k => simp at hy hm; exact apartAll_spec h.2 k hy hm

theorem drawOk_spec {E : Env} {hs : List Heap} : ∀ {l : List (AOper × St × Cls)} {ms : List Nat} {b : Nat}, E.drawOk hs b l ms = true → ∀ (i j : Nat) {x y : AOper × St × Cls} {m : Nat}, i < j → l[i]? = some x → l[j]? = some y → ms[j]? = some m →
    E.apart (Nat.testBit m (b + i)) hs x y = true
  | [], _, _, _, i, j, x, y, m, _, hx, _, _ => by simp at hx
  | _ :: _, [], _, _, i, j, x, y, m, _, _, _, hm => by simp at hm
  | x0 :: l, m0 :: ms, b, h, i, j, x, y, m, hij, hx, hy, hm => by
    simp only [Env.drawOk, Bool.and_eq_true] at h
    cases j with
    | zero => omega
    | succ j =>
      simp at hy hm
      cases i with
      | zero => simp at hx; subst hx; exact apartAll_spec h.1 j hy hm
      | succ i =>
        simp at hx
        have := drawOk_spec h.2 i j (by omega) hx hy hm
        rw [show b + (i + 1) = b + 1 + i by omega]; exact this

theorem steady_spec {E : Env} {o : AOper} {s : St} : ∀ {hs : List Heap}, E.steady o s hs = true → ∀ h ∈ hs, ∃ r r', E.op s.σ s.h o.op = some r ∧ E.op s.σ h o.op = some r' ∧ r.v = r'.v ∧ r'.c ≠ .write
  | [], _, h, hm => by cases hm
  | h0 :: hs, hst, h, hm => by
    simp only [Env.steady, Bool.and_eq_true] at hst
    cases hm with
    | tail _ hm => exact steady_spec hst.2 h hm
    | head =>
      have h1 := hst.1
      cases e1 : E.op s.σ s.h o.op with
      | none => rw [e1] at h1; simp at h1
      | some r =>
        cases e2 : E.op s.σ h0 o.op with
        | none => rw [e1, e2] at h1; simp at h1
        | some r' =>
          rw [e1, e2] at h1
          simp only [Bool.and_eq_true] at h1
          refine ⟨r, r', rfl, rfl, AV.same_eq h1.1, fun hc => ?_⟩
          rw [hc] at h1
          simp at h1

section
variable {B : Nat} {w0 : World} {E : Env} {P : Program}

/-- what a call answers that does not look at the heap -/
def Quiet (C : CallF) : Prop := (∀ f args h v h1, C f args h = some (.ret ⟨v, h1, .none⟩) → h1 = h ∧ ∀ h2, C f args h2 = some (.ret ⟨v, h2, .none⟩)) ∧ ∀ f args h v h1, C f args h ≠ some (.ret ⟨v, h1, .read⟩)

theorem act_class {C : CallF} (hq : Quiet C) {σ : Slots} {h : Heap} {op : AOp} {r : OpRes} (e : E.act C σ h op = some (.ret r)) :
    (r.c ≠ .write → r.h = h) ∧ (r.c = .none → ∀ h2, E.act C σ h2 op = some (.ret ⟨r.v, h2, .none⟩)) ∧ (r.c = .read → E.op σ h op = some r ∧ op.plain = true) := by
  by_cases hp : op.plain = true
  · rw [E_act_plain hp] at e
    simp only [Option.map_eq_some_iff, COut.ret.injEq] at e
    obtain ⟨r', hr, rfl⟩ := e
    obtain ⟨g1, g2⟩ := op_class hr
    exact ⟨g1, fun hc h2 => by rw [E_act_plain hp, g2 hc h2]; rfl, fun _ => ⟨hr, hp⟩⟩
  · have key : ∀ f l, (∀ h2, E.act C σ h2 op = C f l h2) → (r.c ≠ .write → r.h = h) ∧ (r.c = .none → ∀ h2, E.act C σ h2 op = some (.ret ⟨r.v, h2, .none⟩)) ∧ (r.c = .read → E.op σ h op = some r ∧ op.plain = true) := by
      intro f l hall
      rw [hall] at e
      obtain ⟨rv, rh, rc⟩ := r
      cases rc with
      | none =>
        obtain ⟨g1, g2⟩ := hq.1 _ _ _ _ _ e
        exact ⟨fun _ => g1, fun _ h2 => by rw [hall]; exact g2 h2, fun hc => by cases hc⟩
      | read => exact absurd e (hq.2 _ _ _ _ _)
      | write => exact ⟨(fun hc => absurd rfl hc), (fun hc => by cases hc), (fun hc => by cases hc)⟩
    cases op <;> simp only [AOp.plain, not_true_eq_false] at hp
    case call f args =>
      have e' := e
      simp only [Env.act, Option.bind_eq_some_iff] at e'
      obtain ⟨l, hl, _⟩ := e'
      exact key f l fun h2 => by simp only [Env.act, hl, Option.bind_some]
    case callv f args =>
      have e' := e
      simp only [Env.act, Option.bind_eq_some_iff] at e'
      obtain ⟨fv, hfv, e'⟩ := e'
      cases fv with
      | fn g a b =>
        cases g with
        | func g =>
          simp only [Option.bind_eq_some_iff] at e'
          obtain ⟨l, hl, _⟩ := e'
          exact key g (a ++ l ++ b) fun h2 => by simp only [Env.act, hfv, Option.bind_some, hl]
        | _ => cases e'
      | _ => cases e'
    case panic x =>
      simp only [Env.act, Option.bind_eq_some_iff] at e
      obtain ⟨v, _, e⟩ := e
      cases v <;> simp only [Option.some.injEq, reduceCtorEq] at e

/-- All that the text's run tells of a region. -/
structure Text (P : Program) (E : Env) (C : CallF) (n : Nat) (fz : TypeId → Bool) (thaw : Nat → Bool) (ops : Array Oper) (s s' : St) (S : Nat → St) (c : Nat → Cls) (v : Nat → AV) : Prop where
  first : S 0 = s
  last : S ops.size = s'
  did : ∀ k o, ops[k]? = some o → Did E C (trOper P n fz thaw ops o) (S k) (S (k + 1)) (c k) (v k)
  apart : ∀ i j oi oj, i < j → ops[i]? = some oi → ops[j]? = some oj → ¬ Ord ops i j →
    (c i = .none ∨ c j = .none ∨ (c i = .read ∧ c j = .read) ∨
      (c i = .read ∧ c j = .write ∧ ∀ k ≤ ops.size, ∃ r r', E.op (S i).σ (S i).h (trOper P n fz thaw ops oi).op = some r ∧ E.op (S i).σ (S k).h (trOper P n fz thaw ops oi).op = some r' ∧ r.v = r'.v ∧ r'.c ≠ .write) ∨
      (c i = .write ∧ c j = .read ∧ ∀ k ≤ ops.size, ∃ r r', E.op (S j).σ (S j).h (trOper P n fz thaw ops oj).op = some r ∧ E.op (S j).σ (S k).h (trOper P n fz thaw ops oj).op = some r' ∧ r.v = r'.v ∧ r'.c ≠ .write))
  clash : ∀ i j oi oj, i < j → ops[i]? = some oi → ops[j]? = some oj → (trOper P n fz thaw ops oi).clash (trOper P n fz thaw ops oj) = true → Ord ops i j
  back : ∀ i o, ops[i]? = some o → ∀ e ∈ o.after.toList, Region.binds .any e = true → e.on < i

theorem text_of {C : CallF} {n : Nat} {fz : TypeId → Bool} {thaw : Nat → Bool} {ops : Array Oper} {s s' : St} {e : AExit}
    (hst : drawStatic ops (ops.toList.map (trOper P n fz thaw ops)) (Region.before ops).toList = true)
    (h : E.draws C (ops.toList.map (trOper P n fz thaw ops)) (Region.before ops).toList s = some (e, s')) : e = .norm ∧ ∃ S c v, Text P E C n fz thaw ops s s' S c v := by
  simp only [Env.draws, Option.bind_eq_some_iff] at h
  obtain ⟨⟨s1, log⟩, hlog, h⟩ := h
  dsimp only at h
  split at h
  case isFalse => cases h
  rename_i hok
  simp only [Option.some.injEq, Prod.mk.injEq] at h
  obtain ⟨rfl, rfl⟩ := h
  refine ⟨rfl, ?_⟩
  obtain ⟨S, g0, g1, g2, g3⟩ := log_states _ _ _ _ hlog
  simp only [List.length_map, Array.length_toList] at g1 g2
  have hl : ∀ (k : Nat) (o : Oper), ops[k]? = some o → (ops.toList.map (trOper P n fz thaw ops))[k]? = some (trOper P n fz thaw ops o) := by
    intro k o ho; simp [ho]
  have hstep : ∀ (k : Nat), ∃ (c : Cls) (v : AV), ∀ (o : Oper), ops[k]? = some o → log[k]? = some (trOper P n fz thaw ops o, S k, c) ∧ Did E C (trOper P n fz thaw ops o) (S k) (S (k + 1)) c v := by
    intro k
    cases ho : ops[k]? with
    | none => exact ⟨.none, .undef, fun o h => by cases h⟩
    | some o =>
      obtain ⟨c, q1, q2⟩ := g3 k _ (hl k o ho)
      obtain ⟨v, hv⟩ := one_did q2
      exact ⟨c, v, fun o' h => by cases h; exact ⟨q1, hv⟩⟩
  obtain ⟨c, hc⟩ := Classical.skolem.1 hstep
  obtain ⟨v, hv⟩ := Classical.skolem.1 hc
  have hB : ∀ (j : Nat) (o : Oper), ops[j]? = some o → (Region.before ops).toList[j]? = some ((Region.before ops).getD j 0) := by
    intro j o ho
    obtain ⟨hj, _⟩ := Array.getElem?_eq_some_iff.1 ho
    have hsz := (before_chained ops).2
    have hj' : j < (Region.before ops).size := by omega
    simp [Array.getD_eq_getD_getElem?, hj']
  have hheap : ∀ k ≤ ops.size, (S k).h ∈ (s1.h :: log.map fun x => x.2.1.h) := by
    intro k hk
    by_cases he : k = ops.size
    · subst he; rw [g1]; simp
    · have hlt : k < ops.size := by omega
      have ho := Array.getElem?_eq_getElem hlt
      have := (hv k _ ho).1
      refine List.mem_cons_of_mem _ (List.mem_map.2 ⟨_, List.mem_of_getElem? this, rfl⟩)
  simp only [drawStatic, Bool.and_eq_true] at hst
  refine ⟨S, c, v, g0, g1, fun k o ho => (hv k o ho).2, ?_, ?_, ?_⟩
  · intro i j oi oj hij hi hj hno
    have ha := drawOk_spec hok i j hij (hv i oi hi).1 (hv j oj hj).1 (hB j oj hj)
    simp only [Nat.zero_add, Env.apart, Bool.or_eq_true] at ha
    rcases ha with ha | ha
    · exact absurd ha hno
    · cases hci : c i <;> rw [hci] at ha <;> cases hcj : c j <;> rw [hcj] at ha <;> simp only [reduceCtorEq] at ha
      · exact .inl rfl
      · exact .inl rfl
      · exact .inl rfl
      · exact .inr (.inl rfl)
      · exact .inr (.inr (.inl ⟨rfl, rfl⟩))
      · exact .inr (.inr (.inr (.inl ⟨rfl, rfl, fun k hk => steady_spec ha _ (hheap k hk)⟩)))
      · exact .inr (.inl rfl)
      · exact .inr (.inr (.inr (.inr ⟨rfl, rfl, fun k hk => steady_spec ha _ (hheap k hk)⟩)))
  · intro i j oi oj hij hi hj hcl
    have := staticAll_spec hst.1 i j hij (hl i oi hi) (hl j oj hj) (hB j oj hj) hcl
    simpa [Ord] using this
  · intro i o ho e he hb
    have := List.all_eq_true.1 hst.2 (o, i) (by
      rw [List.mem_iff_getElem?]
      exact ⟨i, by simp [ho]⟩)
    have := List.all_eq_true.1 this e he
    simp only [hb, Bool.not_true, Bool.false_or] at this
    simpa [Nat.blt_eq] using this

/-! ### the invariant -/
theorem heap_same {C : CallF} (hq : Quiet C) {n : Nat} {fz : TypeId → Bool} {thaw : Nat → Bool} {ops : Array Oper} {s s' : St} {S : Nat → St} {c : Nat → Cls} {v : Nat → AV}
    (hT : Text P E C n fz thaw ops s s' S c v) {a : Nat} : ∀ (b : Nat), a ≤ b → b ≤ ops.size → (∀ k, a ≤ k → k < b → c k ≠ .write) → (S b).h = (S a).h := by
  intro b
  induction b with
  | zero => intro h _ _; have : a = 0 := by omega
            subst this; rfl
  | succ b ih =>
    intro hab hb hw
    by_cases he : a = b + 1
    · subst he; rfl
    · rw [← ih (by omega) (by omega) fun k h1 h2 => hw k h1 (by omega)]
      have ho := Array.getElem?_eq_getElem (show b < ops.size by omega)
      rcases (hT.did b _ ho).how with ⟨_, h⟩ | ⟨_, _, _, h⟩
      · exact (act_class hq h).1 (hw b (by omega) (by omega))
      · exact h

theorem first_write (c : Nat → Cls) (N : Nat) : ∀ (d a : Nat), a + d = N → ∃ q, a ≤ q ∧ q ≤ N ∧ (q = N ∨ c q = .write) ∧ ∀ k, a ≤ k → k < q → c k ≠ .write
  | 0, a, h => ⟨a, Nat.le_refl _, by omega, .inl (by omega), fun k h1 h2 => by omega⟩
  | d + 1, a, h => by
    by_cases hw : c a = .write
    · exact ⟨a, Nat.le_refl _, by omega, .inr hw, fun k h1 h2 => by omega⟩
    · obtain ⟨q, q1, q2, q3, q4⟩ := first_write c N d (a + 1) (by omega)
      exact ⟨q, by omega, q2, q3, fun k h1 h2 => by
        by_cases he : k = a
        · subst he; exact hw
        · exact q4 k (by omega) h2⟩

theorem mem_looks_clash {x y : AOper} {d : Nat} (h : x.dst = some d) (hm : d ∈ y.looks) : x.clash y = true := by
  simp [AOper.clash, h, hm]
theorem mem_looks_clash' {x y : AOper} {d : Nat} (h : y.dst = some d) (hm : d ∈ x.looks) : x.clash y = true := by
  simp [AOper.clash, h, hm]
theorem dst_clash {x y : AOper} {d : Nat} (h : x.dst = some d) (h' : y.dst = some d) : x.clash y = true := by
  simp [AOper.clash, h, h']
end
end Go.AM
