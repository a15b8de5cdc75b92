/-
  THE ABSTRACT MACHINE AND THE MODEL: every order of a region.
-/
import Derived.Test.YtaielgjmhbjfhaaGreatDoorAmDraw
set_option linter.unusedSimpArgs false
set_option linter.unusedVariables false
namespace Go.AM
open Go.RowKit

/-! ### what the checks say -/
theorem staticFrom_spec {x : AOper} {i : Nat} : ∀ {ys : List AOper} {ms : List Nat}, staticFrom x i ys ms = true → ∀ (k : Nat) {y : AOper} {m : Nat}, ys[k]? = some y → ms[k]? = some m → x.clash y = true → Nat.testBit m i = true
  | [], _, _, k, y, m, hy, _, _ => by simp at hy
  | _ :: _, [], _, k, y, m, _, hm, _ => by simp at hm
  | y0 :: ys, m0 :: ms, h, k, y, m, hy, hm, hc => by
    simp only [staticFrom, Bool.and_eq_true, Bool.or_eq_true, Bool.not_eq_true'] at h
    cases k with
    | zero =>
      simp at hy hm; subst hy; subst hm
      rcases h.1 with h | h
      · rw [hc] at h; cases h
      · exact h
    | succ k => simp at hy hm; exact staticFrom_spec h.2 k hy hm hc

theorem staticAll_spec : ∀ {l : List AOper} {ms : List Nat} {b : Nat}, staticAll b l ms = true → ∀ (i j : Nat) {x y : AOper} {m : Nat}, i < j → l[i]? = some x → l[j]? = some y → ms[j]? = some m → x.clash y = true → Nat.testBit m (b + i) = true
  | [], _, _, _, i, j, x, y, m, _, hx, _, _, _ => by simp at hx
  | _ :: _, [], _, _, i, j, x, y, m, _, _, _, hm, _ => by simp at hm
  | x0 :: l, m0 :: ms, b, h, i, j, x, y, m, hij, hx, hy, hm, hc => by
    simp only [staticAll, Bool.and_eq_true] at h
    cases j with
    | zero => omega
    | succ j =>
      simp at hy hm
      cases i with
      | zero => simp at hx; subst hx; exact staticFrom_spec h.1 j hy hm hc
      | succ i =>
        simp at hx
        have := staticAll_spec h.2 i j (by omega) hx hy hm hc
        rw [show b + (i + 1) = b + 1 + i by omega]; exact this

theorem apartAll_spec {E : Env} {hs : List Heap} {x : AOper × St × Cls} {i : Nat} : ∀ {ys : List (AOper × St × Cls)} {ms : List Nat}, E.apartAll hs x i ys ms = true → ∀ (k : Nat) {y : AOper × St × Cls} {m : Nat}, ys[k]? = some y → ms[k]? = some m →
    E.apart (Nat.testBit m i) hs x y = true
  | [], _, _, k, y, m, hy, _ => by simp at hy
  | _ :: _, [], _, k, y, m, _, hm => by simp at hm
  | y0 :: ys, m0 :: ms, h, k, y, m, hy, hm => by
    simp only [Env.apartAll, Bool.and_eq_true] at h
    cases k with
    | zero => simp at hy hm; subst hy; subst hm; exact h.1
    | succ k => simp at hy hm; exact apartAll_spec h.2 k hy hm

theorem drawOk_spec {E : Env} {hs : List Heap} : ∀ {l : List (AOper × St × Cls)} {ms : List Nat} {b : Nat}, E.drawOk hs b l ms = true → ∀ (i j : Nat) {x y : AOper × St × Cls} {m : Nat}, i < j → l[i]? = some x → l[j]? = some y → ms[j]? = some m →
    E.apart (Nat.testBit m (b + i)) hs x y = true
  | [], _, _, _, i, j, x, y, m, _, hx, _, _ => by simp at hx
  | _ :: _, [], _, _, i, j, x, y, m, _, _, _, hm => by simp at hm
  | x0 :: l, m0 :: ms, b, h, i, j, x, y, m, hij, hx, hy, hm => by
    simp only [Env.drawOk, Bool.and_eq_true] at h
    cases j with
    | zero => omega
    | succ j =>
      simp at hy hm
      cases i with
      | zero => simp at hx; subst hx; exact apartAll_spec h.1 j hy hm
      | succ i =>
        simp at hx
        have := drawOk_spec h.2 i j (by omega) hx hy hm
        rw [show b + (i + 1) = b + 1 + i by omega]; exact this

theorem steady_spec {E : Env} {o : AOper} {s : St} : ∀ {hs : List Heap}, E.steady o s hs = true → ∀ h ∈ hs, ∃ r r', E.op s.σ s.h o.op = some r ∧ E.op s.σ h o.op = some r' ∧ r.v = r'.v ∧ r'.c ≠ .write
  | [], _, h, hm => by cases hm
  | h0 :: hs, hst, h, hm => by
    simp only [Env.steady, Bool.and_eq_true] at hst
    cases hm with
    | tail _ hm => exact steady_spec hst.2 h hm
    | head =>
      have h1 := hst.1
      cases e1 : E.op s.σ s.h o.op with
      | none => rw [e1] at h1; simp at h1
      | some r =>
        cases e2 : E.op s.σ h0 o.op with
        | none => rw [e1, e2] at h1; simp at h1
        | some r' =>
          rw [e1, e2] at h1
          simp only [Bool.and_eq_true] at h1
          refine ⟨r, r', rfl, rfl, AV.same_eq h1.1, fun hc => ?_⟩
          rw [hc] at h1
          simp at h1

section
variable {B : Nat} {w0 : World} {E : Env} {P : Program}

/-- what a call answers that does not look at the heap -/
def Quiet (C : CallF) : Prop := (∀ f args h v h1, C f args h = some (.ret ⟨v, h1, .none⟩) → h1 = h ∧ ∀ h2, C f args h2 = some (.ret ⟨v, h2, .none⟩)) ∧ ∀ f args h v h1, C f args h ≠ some (.ret ⟨v, h1, .read⟩)

theorem act_class {C : CallF} (hq : Quiet C) {σ : Slots} {h : Heap} {op : AOp} {r : OpRes} (e : E.act C σ h op = some (.ret r)) :
    (r.c ≠ .write → r.h = h) ∧ (r.c = .none → ∀ h2, E.act C σ h2 op = some (.ret ⟨r.v, h2, .none⟩)) ∧ (r.c = .read → E.op σ h op = some r ∧ op.plain = true) := by
  by_cases hp : op.plain = true
  · rw [E_act_plain hp] at e
    simp only [Option.map_eq_some_iff, COut.ret.injEq] at e
    obtain ⟨r', hr, rfl⟩ := e
    obtain ⟨g1, g2⟩ := op_class hr
    exact ⟨g1, fun hc h2 => by rw [E_act_plain hp, g2 hc h2]; rfl, fun _ => ⟨hr, hp⟩⟩
  · have key : ∀ f l, (∀ h2, E.act C σ h2 op = C f l h2) → (r.c ≠ .write → r.h = h) ∧ (r.c = .none → ∀ h2, E.act C σ h2 op = some (.ret ⟨r.v, h2, .none⟩)) ∧ (r.c = .read → E.op σ h op = some r ∧ op.plain = true) := by
      intro f l hall
      rw [hall] at e
      obtain ⟨rv, rh, rc⟩ := r
      cases rc with
      | none =>
        obtain ⟨g1, g2⟩ := hq.1 _ _ _ _ _ e
        exact ⟨fun _ => g1, fun _ h2 => by rw [hall]; exact g2 h2, fun hc => by cases hc⟩
      | read => exact absurd e (hq.2 _ _ _ _ _)
      | write => exact ⟨(fun hc => absurd rfl hc), (fun hc => by cases hc), (fun hc => by cases hc)⟩
    cases op <;> simp only [AOp.plain, not_true_eq_false] at hp
    case call f args =>
      have e' := e
      simp only [Env.act, Option.bind_eq_some_iff] at e'
      obtain ⟨l, hl, _⟩ := e'
      exact key f l fun h2 => by simp only [Env.act, hl, Option.bind_some]
    case callv f args =>
      have e' := e
      simp only [Env.act, Option.bind_eq_some_iff] at e'
      obtain ⟨fv, hfv, e'⟩ := e'
      cases fv with
      | fn g a b =>
        cases g with
        | func g =>
          simp only [Option.bind_eq_some_iff] at e'
          obtain ⟨l, hl, _⟩ := e'
          exact key g (a ++ l ++ b) fun h2 => by simp only [Env.act, hfv, Option.bind_some, hl]
        | _ => cases e'
      | _ => cases e'
    case panic x =>
      simp only [Env.act, Option.bind_eq_some_iff] at e
      obtain ⟨v, _, e⟩ := e
      cases v <;> simp only [Option.some.injEq, reduceCtorEq] at e

/-- All that the text's run tells of a region. -/
structure Text (P : Program) (E : Env) (C : CallF) (n : Nat) (fz : TypeId → Bool) (thaw : Nat → Bool) (ops : Array Oper) (s s' : St) (S : Nat → St) (c : Nat → Cls) (v : Nat → AV) : Prop where
  first : S 0 = s
  last : S ops.size = s'
  did : ∀ k o, ops[k]? = some o → Did E C (trOper P n fz thaw ops o) (S k) (S (k + 1)) (c k) (v k)
  apart : ∀ i j oi oj, i < j → ops[i]? = some oi → ops[j]? = some oj → ¬ Ord ops i j →
    (c i = .none ∨ c j = .none ∨ (c i = .read ∧ c j = .read) ∨
      (c i = .read ∧ c j = .write ∧ ∀ k ≤ ops.size, ∃ r r', E.op (S i).σ (S i).h (trOper P n fz thaw ops oi).op = some r ∧ E.op (S i).σ (S k).h (trOper P n fz thaw ops oi).op = some r' ∧ r.v = r'.v ∧ r'.c ≠ .write) ∨
      (c i = .write ∧ c j = .read ∧ ∀ k ≤ ops.size, ∃ r r', E.op (S j).σ (S j).h (trOper P n fz thaw ops oj).op = some r ∧ E.op (S j).σ (S k).h (trOper P n fz thaw ops oj).op = some r' ∧ r.v = r'.v ∧ r'.c ≠ .write))
  clash : ∀ i j oi oj, i < j → ops[i]? = some oi → ops[j]? = some oj → (trOper P n fz thaw ops oi).clash (trOper P n fz thaw ops oj) = true → Ord ops i j
  back : ∀ i o, ops[i]? = some o → ∀ e ∈ o.after.toList, Region.binds .any e = true → e.on < i

theorem text_of {C : CallF} {n : Nat} {fz : TypeId → Bool} {thaw : Nat → Bool} {ops : Array Oper} {s s' : St} {e : AExit}
    (hst : drawStatic ops (ops.toList.map (trOper P n fz thaw ops)) (Region.before ops).toList = true)
    (h : E.draws C (ops.toList.map (trOper P n fz thaw ops)) (Region.before ops).toList s = some (e, s')) : e = .norm ∧ ∃ S c v, Text P E C n fz thaw ops s s' S c v := by
  simp only [Env.draws, Option.bind_eq_some_iff] at h
  obtain ⟨⟨s1, log⟩, hlog, h⟩ := h
  dsimp only at h
  split at h
  case isFalse => cases h
  rename_i hok
  simp only [Option.some.injEq, Prod.mk.injEq] at h
  obtain ⟨rfl, rfl⟩ := h
  refine ⟨rfl, ?_⟩
  obtain ⟨S, g0, g1, g2, g3⟩ := log_states _ _ _ _ hlog
  simp only [List.length_map, Array.length_toList] at g1 g2
  have hl : ∀ (k : Nat) (o : Oper), ops[k]? = some o → (ops.toList.map (trOper P n fz thaw ops))[k]? = some (trOper P n fz thaw ops o) := by
    intro k o ho; simp [ho]
  have hstep : ∀ (k : Nat), ∃ (c : Cls) (v : AV), ∀ (o : Oper), ops[k]? = some o → log[k]? = some (trOper P n fz thaw ops o, S k, c) ∧ Did E C (trOper P n fz thaw ops o) (S k) (S (k + 1)) c v := by
    intro k
    cases ho : ops[k]? with
    | none => exact ⟨.none, .undef, fun o h => by cases h⟩
    | some o =>
      obtain ⟨c, q1, q2⟩ := g3 k _ (hl k o ho)
      obtain ⟨v, hv⟩ := one_did q2
      exact ⟨c, v, fun o' h => by cases h; exact ⟨q1, hv⟩⟩
  obtain ⟨c, hc⟩ := Classical.skolem.1 hstep
  obtain ⟨v, hv⟩ := Classical.skolem.1 hc
  have hB : ∀ (j : Nat) (o : Oper), ops[j]? = some o → (Region.before ops).toList[j]? = some ((Region.before ops).getD j 0) := by
    intro j o ho
    obtain ⟨hj, _⟩ := Array.getElem?_eq_some_iff.1 ho
    have hsz := (before_chained ops).2
    have hj' : j < (Region.before ops).size := by omega
    simp [Array.getD_eq_getD_getElem?, hj']
  have hheap : ∀ k ≤ ops.size, (S k).h ∈ (s1.h :: log.map fun x => x.2.1.h) := by
    intro k hk
    by_cases he : k = ops.size
    · subst he; rw [g1]; simp
    · have hlt : k < ops.size := by omega
      have ho := Array.getElem?_eq_getElem hlt
      have := (hv k _ ho).1
      refine List.mem_cons_of_mem _ (List.mem_map.2 ⟨_, List.mem_of_getElem? this, rfl⟩)
  simp only [drawStatic, Bool.and_eq_true] at hst
  refine ⟨S, c, v, g0, g1, fun k o ho => (hv k o ho).2, ?_, ?_, ?_⟩
  · intro i j oi oj hij hi hj hno
    have ha := drawOk_spec hok i j hij (hv i oi hi).1 (hv j oj hj).1 (hB j oj hj)
    simp only [Nat.zero_add, Env.apart, Bool.or_eq_true] at ha
    rcases ha with ha | ha
    · exact absurd ha hno
    · cases hci : c i <;> rw [hci] at ha <;> cases hcj : c j <;> rw [hcj] at ha <;> simp only [reduceCtorEq] at ha
      · exact .inl rfl
      · exact .inl rfl
      · exact .inl rfl
      · exact .inr (.inl rfl)
      · exact .inr (.inr (.inl ⟨rfl, rfl⟩))
      · exact .inr (.inr (.inr (.inl ⟨rfl, rfl, fun k hk => steady_spec ha _ (hheap k hk)⟩)))
      · exact .inr (.inl rfl)
      · exact .inr (.inr (.inr (.inr ⟨rfl, rfl, fun k hk => steady_spec ha _ (hheap k hk)⟩)))
  · intro i j oi oj hij hi hj hcl
    have := staticAll_spec hst.1 i j hij (hl i oi hi) (hl j oj hj) (hB j oj hj) hcl
    simpa [Ord] using this
  · intro i o ho e he hb
    have := List.all_eq_true.1 hst.2 (o, i) (by
      rw [List.mem_iff_getElem?]
      exact ⟨i, by simp [ho]⟩)
    have := List.all_eq_true.1 this e he
    simp only [hb, Bool.not_true, Bool.false_or] at this
    simpa [Nat.blt_eq] using this

/-! ### the invariant -/
theorem heap_same {C : CallF} (hq : Quiet C) {n : Nat} {fz : TypeId → Bool} {thaw : Nat → Bool} {ops : Array Oper} {s s' : St} {S : Nat → St} {c : Nat → Cls} {v : Nat → AV}
    (hT : Text P E C n fz thaw ops s s' S c v) {a : Nat} : ∀ (b : Nat), a ≤ b → b ≤ ops.size → (∀ k, a ≤ k → k < b → c k ≠ .write) → (S b).h = (S a).h := by
  intro b
  induction b with
  | zero => intro h _ _; have : a = 0 := by omega
            subst this; rfl
  | succ b ih =>
    intro hab hb hw
    by_cases he : a = b + 1
    · subst he; rfl
    · rw [← ih (by omega) (by omega) fun k h1 h2 => hw k h1 (by omega)]
      have ho := Array.getElem?_eq_getElem (show b < ops.size by omega)
      rcases (hT.did b _ ho).how with ⟨_, h⟩ | ⟨_, _, _, h⟩
      · exact (act_class hq h).1 (hw b (by omega) (by omega))
      · exact h

theorem first_write (c : Nat → Cls) (N : Nat) : ∀ (d a : Nat), a + d = N → ∃ q, a ≤ q ∧ q ≤ N ∧ (q = N ∨ c q = .write) ∧ ∀ k, a ≤ k → k < q → c k ≠ .write
  | 0, a, h => ⟨a, Nat.le_refl _, by omega, .inl (by omega), fun k h1 h2 => by omega⟩
  | d + 1, a, h => by
    by_cases hw : c a = .write
    · exact ⟨a, Nat.le_refl _, by omega, .inr hw, fun k h1 h2 => by omega⟩
    · obtain ⟨q, q1, q2, q3, q4⟩ := first_write c N d (a + 1) (by omega)
      exact ⟨q, by omega, q2, q3, fun k h1 h2 => by
        by_cases he : k = a
        · subst he; exact hw
        · exact q4 k (by omega) h2⟩

theorem mem_looks_clash {x y : AOper} {d : Nat} (h : x.dst = some d) (hm : d ∈ y.looks) : x.clash y = true := by
  simp [AOper.clash, h, hm]
theorem mem_looks_clash' {x y : AOper} {d : Nat} (h : y.dst = some d) (hm : d ∈ x.looks) : x.clash y = true := by
  simp [AOper.clash, h, hm]
theorem dst_clash {x y : AOper} {d : Nat} (h : x.dst = some d) (h' : y.dst = some d) : x.clash y = true := by
  simp [AOper.clash, h, h']
end
end Go.AM
/-
  THE ABSTRACT MACHINE AND THE MODEL: every order of a region, the theorem.
-/
set_option linter.unusedSimpArgs false
set_option linter.unusedVariables false
namespace Go.AM
open Go.RowKit

section
variable {B : Nat} {w0 : World} {E : Env} {P : Program}

theorem SRel.congr {X : RX} {n : Nat} {σ σ' : Slots} {tmps : Array Value} (k : SRel X n σ tmps) (h : ∀ t, σ.get t = σ'.get t) : SRel X n σ' tmps :=
  ⟨k.size, fun t => by rw [← h t]; exact k.get t⟩

theorem did_inv {C : CallF} {n : Nat} {fz : TypeId → Bool} {thaw : Nat → Bool} {ops : Array Oper} {o : Oper} {s s' : St} {c : Cls} {v : AV} (h : Did E C (trOper P n fz thaw ops o) s s' c v) :
    (trOper P n fz thaw ops o).dst = o.dst ∧ trGuard ops o.guard = some (trOper P n fz thaw ops o).guard ∧ (∀ d, o.dst = some d → d < n) ∧ ((trOper P n fz thaw ops o).wanted s.σ = true → ∃ fr, trOp P fr o.op = some (trOper P n fz thaw ops o).op) := by
  have hbad : (trOper P n fz thaw ops o).op ≠ .bad ∨ (trOper P n fz thaw ops o) = { dst := none, op := .bad, guard := none } ∨ (∃ g, (trOper P n fz thaw ops o) = { dst := o.dst, op := .bad, guard := g } ∧ trGuard ops o.guard = some g ∧ ∀ d, o.dst = some d → d < n) := by
    unfold trOper
    split
    · rename_i g hg hd
      cases ht : trOp P (still fz thaw ops o) o.op with
      | none => exact .inr (.inr ⟨g, by simp, hg, fun d e => by rw [e] at hd; simpa [Nat.blt_eq] using hd⟩)
      | some ao =>
        by_cases he : ao = .bad
        · exact .inr (.inr ⟨g, by simp [he], hg, fun d e => by rw [e] at hd; simpa [Nat.blt_eq] using hd⟩)
        · exact .inl (by simpa using he)
    · exact .inr (.inl rfl)
  rcases hbad with hbad | hbad | ⟨g, hbad, hgo, hdn⟩
  · obtain ⟨ht, hd, hg, hdn⟩ := trOper_inv hbad
    exact ⟨hd, hg, hdn, fun _ => ht⟩
  · exfalso
    rcases h.how with ⟨_, h⟩ | ⟨h, _⟩
    · rw [hbad] at h; simp [Env.act, Env.op] at h
    · rw [hbad] at h; simp [AOper.wanted] at h
  · refine ⟨by rw [hbad], by rw [hbad]; exact hgo, hdn, fun hw => ?_⟩
    exfalso
    rcases h.how with ⟨_, h⟩ | ⟨h, _⟩
    · rw [hbad] at h; simp [Env.act, Env.op] at h
    · rw [hw] at h; cases h

/-- where the operation's answer goes -/
def dstOf (P : Program) (n : Nat) (fz : TypeId → Bool) (thaw : Nat → Bool) (ops : Array Oper) (k : Nat) : Option Nat := (ops[k]?).bind fun o => (trOper P n fz thaw ops o).dst

variable {C : CallF} {n : Nat} {fz : TypeId → Bool} {thaw : Nat → Bool} {ops : Array Oper} {s s' : St} {S : Nat → St} {c : Nat → Cls} {v : Nat → AV}

theorem text_slots (hT : Text P E C n fz thaw ops s s' S c v) : ∀ k, k ≤ ops.size → ∀ t, (S k).σ.get t = (slotsAt s.σ (dstOf P n fz thaw ops) v (fun _ => true) k).get t
  | 0, _, t => by rw [hT.first]; rfl
  | k + 1, hk, t => by
    have ho := Array.getElem?_eq_getElem (show k < ops.size by omega)
    have hd := hT.did k _ ho
    have ih := text_slots hT k (by omega) t
    rw [slotsAt_get, ← ih, hd.put]
    have hdo : dstOf P n fz thaw ops k = (trOper P n fz thaw ops ops[k]).dst := by simp [dstOf, ho]
    rw [hdo]
    cases hds : (trOper P n fz thaw ops ops[k]).dst with
    | none => simp [St.put]
    | some d =>
      simp only [St.put, Slots.get_put, true_and, Option.some.injEq]
      by_cases h : t = d
      · subst h; simp
      · rw [if_neg h, if_neg (fun e => h e.symm)]

structure Inv (P : Program) (n : Nat) (fz : TypeId → Bool) (thaw : Nat → Bool) (ops : Array Oper) (s : St) (S : Nat → St) (c : Nat → Cls) (v : Nat → AV) (X : RX) (tmps : Array Value) (L : Nat → Bool) : Prop where
  slots : SRel X n (slotsAt s.σ (dstOf P n fz thaw ops) v L ops.size) tmps
  closed : Closed ops L
  heap : ∃ q, q ≤ ops.size ∧ X.h = (S q).h ∧ (q = ops.size ∨ (c q = .write ∧ L q = false)) ∧ ∀ k, k < q → c k = .write → L k = true

/-- What is ready. -/
structure Ready (ops : Array Oper) (L : Nat → Bool) (i : Nat) (o : Oper) : Prop where
  get : ops[i]? = some o
  off : L i = false
  edges : ∀ e ∈ o.after.toList, Region.binds .any e = true → L e.on = true

theorem ready_lt {L : Nat → Bool} {i : Nat} {o : Oper} (hr : Ready ops L i o) : i < ops.size := (Array.getElem?_eq_some_iff.1 hr.get).1

/-- who is ahead of a ready one is listed -/
theorem ready_before {L : Nat → Bool} {i : Nat} {o : Oper} (hL : Closed ops L) (hr : Ready ops L i o) {k : Nat} (hk : Ord ops k i) : L k = true :=
  closed_ord hL i (ready_lt hr) k hk fun o' ho' e he hb => by
    have := hr.get; rw [ho'] at this; cases this
    exact hr.edges e he hb

/-- who is behind one that is not listed is not listed -/
theorem unlisted_after {L : Nat → Bool} {i : Nat} (hL : Closed ops L) (hi : L i = false) {k : Nat} (hk : k < ops.size) (ho : Ord ops i k) : L k = false := by
  cases h : L k with
  | false => rfl
  | true =>
    have := closed_ord hL k hk i ho fun o' ho' e he hb => hL k o' ho' h e he hb
    rw [hi] at this; cases this

theorem ready_slots (hT : Text P E C n fz thaw ops s s' S c v) {L : Nat → Bool} (hL : Closed ops L) {i : Nat} {o : Oper} (hr : Ready ops L i o) {t : Nat}
    (ht : t ∈ (trOper P n fz thaw ops o).looks) : (slotsAt s.σ (dstOf P n fz thaw ops) v L ops.size).get t = (S i).σ.get t := by
  have hlt := ready_lt hr
  rw [text_slots hT i (by omega) t]
  have h1 : (slotsAt s.σ (dstOf P n fz thaw ops) v L ops.size).get t = (slotsAt s.σ (dstOf P n fz thaw ops) v L i).get t := by
    refine slotsAt_stop ops.size (by omega) fun k h1 h2 hd => ?_
    by_cases he : k = i
    · subst he; exact hr.off
    · have hk := Array.getElem?_eq_getElem h2
      simp only [dstOf, hk, Option.bind_some] at hd
      exact unlisted_after hL hr.off h2 (hT.clash i k _ _ (by omega) hr.get hk (mem_looks_clash' hd ht))
  rw [h1]
  refine slotsAt_agree i fun k hk hd => ?_
  have hko := Array.getElem?_eq_getElem (show k < ops.size by omega)
  simp only [dstOf, hko, Option.bind_some] at hd
  exact ready_before hL hr (hT.clash k i _ _ hk hko hr.get (mem_looks_clash hd ht))

theorem looks_reads {x : AOper} {t : Nat} (h : t ∈ x.op.reads) : t ∈ x.looks := by
  simp only [AOper.looks, List.mem_append]; exact .inr h

theorem wanted_congr {x : AOper} {σ σ' : Slots} (h : ∀ t ∈ x.looks, σ.get t = σ'.get t) : x.wanted σ = x.wanted σ' := by
  unfold AOper.wanted
  cases hg : x.guard with
  | none => rfl
  | some g =>
    obtain ⟨t, want⟩ := g
    dsimp only
    rw [h t (by simp [AOper.looks, hg])]

/-- What a ready one does, wherever it stands: as in the order of the text. -/
theorem ready_act (hq : Quiet C) (hT : Text P E C n fz thaw ops s s' S c v) {L : Nat → Bool} (hL : Closed ops L) {i : Nat} {o : Oper} (hr : Ready ops L i o) {h : Heap}
    (hh : ∃ q, q ≤ ops.size ∧ h = (S q).h ∧ (q = ops.size ∨ (c q = .write ∧ L q = false)) ∧ ∀ k, k < q → c k = .write → L k = true)
    (ha : E.act C (S i).σ (S i).h (trOper P n fz thaw ops o).op = some (.ret ⟨v i, (S (i + 1)).h, c i⟩)) :
    ∃ h' k', E.act C (S i).σ h (trOper P n fz thaw ops o).op = some (.ret ⟨v i, h', k'⟩) ∧
      ∃ q, q ≤ ops.size ∧ h' = (S q).h ∧ (q = ops.size ∨ (c q = .write ∧ (q ≠ i ∧ L q = false))) ∧ ∀ k, k < q → c k = .write → (k = i ∨ L k = true) := by
  have hlt := ready_lt hr
  obtain ⟨q, hq1, rfl, hq2, hq3⟩ := hh
  obtain ⟨a1, a2, a3⟩ := act_class hq ha
  cases hc : c i with
  | none =>
    rw [hc] at a1 a2 a3
    refine ⟨(S q).h, .none, a2 rfl _, q, hq1, rfl, ?_, fun k hk hw => .inr (hq3 k hk hw)⟩
    rcases hq2 with h | ⟨h1, h2⟩
    · exact .inl h
    · exact .inr ⟨h1, (fun e => by rw [e, hc] at h1; cases h1), h2⟩
  | write =>
    -- it is the first of those that write and are not listed
    have hqi : q = i := by
      apply Nat.le_antisymm
      · apply Nat.le_of_not_lt
        intro hiq
        have := hq3 i hiq hc
        rw [hr.off] at this; cases this
      · apply Nat.le_of_not_lt
        intro hqi
        rcases hq2 with h | ⟨h1, h2⟩
        · omega
        · have hqo := Array.getElem?_eq_getElem (show q < ops.size by omega)
          by_cases ho : Ord ops q i
          · have := ready_before hL hr ho
            rw [h2] at this; cases this
          · have := hT.apart q i _ _ hqi hqo hr.get ho
            rw [hc, h1] at this
            simp at this
    subst hqi
    rw [hc] at ha
    obtain ⟨q', g1, g2, g3, g4⟩ := first_write (fun k => if L k = true then .none else c k) ops.size (ops.size - (q + 1)) (q + 1) (by omega)
    have hheap : (S q').h = (S (q + 1)).h := by
      -- those between that write and are listed: there is none
      refine heap_same hq hT q' g1 g2 fun k h1 h2 hw => ?_
      have hko := Array.getElem?_eq_getElem (show k < ops.size by omega)
      have hno := g4 k h1 h2
      have hLk : L k = true := by
        cases hLk : L k with
        | true => rfl
        | false => rw [hLk] at hno; simp at hno; exact absurd hw hno
      by_cases ho : Ord ops q k
      · have := unlisted_after hL hr.off (by omega) ho
        rw [hLk] at this; cases this
      · have := hT.apart q k _ _ (by omega) hr.get hko ho
        rw [hc, hw] at this
        simp at this
    refine ⟨(S (q + 1)).h, .write, ha, q', g2, hheap.symm, ?_, ?_⟩
    · rcases g3 with h | h
      · exact .inl h
      · right
        cases hL' : L q' with
        | true => rw [hL'] at h; simp at h
        | false => rw [hL'] at h; simp at h; exact ⟨h, by omega, rfl⟩
    · intro k hk hw
      by_cases hkq : k < q
      · exact .inr (hq3 k hkq hw)
      · by_cases he : k = q
        · exact .inl he
        · right
          have hno := g4 k (by omega) hk
          cases hLk : L k with
          | true => rfl
          | false => rw [hLk] at hno; simp at hno; exact absurd hw hno
  | read =>
    rw [hc] at ha a1 a2 a3
    obtain ⟨e1, e2⟩ := a3 rfl
    have done : ∀ r', E.op (S i).σ (S q).h (trOper P n fz thaw ops o).op = some r' → r'.v = v i → r'.c ≠ .write →
        ∃ h' k', E.act C (S i).σ (S q).h (trOper P n fz thaw ops o).op = some (.ret ⟨v i, h', k'⟩) ∧
          ∃ q, q ≤ ops.size ∧ h' = (S q).h ∧ (q = ops.size ∨ (c q = .write ∧ (q ≠ i ∧ L q = false))) ∧ ∀ k, k < q → c k = .write → (k = i ∨ L k = true) := by
      intro r' h1 h2 h3
      obtain ⟨rv, rh, rc⟩ := r'
      dsimp only at h2 h3
      subst h2
      have hhh := (op_class h1).1 h3
      dsimp only at hhh
      subst hhh
      refine ⟨(S q).h, rc, by rw [E_act_plain e2, h1]; rfl, q, hq1, rfl, ?_, fun k hk hw => .inr (hq3 k hk hw)⟩
      rcases hq2 with h | ⟨h1, h2⟩
      · exact .inl h
      · exact .inr ⟨h1, (fun e => by rw [e, hc] at h1; cases h1), h2⟩
    have same : (S q).h = (S i).h → ∃ r', E.op (S i).σ (S q).h (trOper P n fz thaw ops o).op = some r' ∧ r'.v = v i ∧ r'.c ≠ .write := by
      intro hs
      exact ⟨_, by rw [hs]; exact e1, rfl, by simp⟩
    have steady : (∀ k ≤ ops.size, ∃ r r', E.op (S i).σ (S i).h (trOper P n fz thaw ops o).op = some r ∧ E.op (S i).σ (S k).h (trOper P n fz thaw ops o).op = some r' ∧ r.v = r'.v ∧ r'.c ≠ .write) →
        ∃ r', E.op (S i).σ (S q).h (trOper P n fz thaw ops o).op = some r' ∧ r'.v = v i ∧ r'.c ≠ .write := by
      intro hs
      obtain ⟨r, r', h1, h2, h3, h4⟩ := hs q hq1
      rw [e1] at h1
      cases h1
      exact ⟨r', h2, h3.symm, h4⟩
    suffices h : ∃ r', E.op (S i).σ (S q).h (trOper P n fz thaw ops o).op = some r' ∧ r'.v = v i ∧ r'.c ≠ .write by
      obtain ⟨r', h1, h2, h3⟩ := h
      exact done r' h1 h2 h3
    by_cases hiq : i ≤ q
    · by_cases hw : ∃ k, i ≤ k ∧ k < q ∧ c k = .write
      · obtain ⟨k, k1, k2, k3⟩ := hw
        have hki : i ≠ k := fun e => by rw [← e, hc] at k3; cases k3
        have hko := Array.getElem?_eq_getElem (show k < ops.size by omega)
        have hLk := hq3 k k2 k3
        by_cases ho : Ord ops i k
        · have := unlisted_after hL hr.off (by omega) ho
          rw [hLk] at this; cases this
        · have := hT.apart i k _ _ (by omega) hr.get hko ho
          rw [hc, k3] at this
          simp only [reduceCtorEq, false_and, and_false, false_or, true_and, or_false, and_self] at this
          exact steady this
      · exact same (heap_same hq hT q hiq hq1 fun k h1 h2 hw' => hw ⟨k, h1, h2, hw'⟩)
    · rcases hq2 with h | ⟨h1, h2⟩
      · omega
      · have hqo := Array.getElem?_eq_getElem (show q < ops.size by omega)
        by_cases ho : Ord ops q i
        · have := ready_before hL hr ho
          rw [h2] at this; cases this
        · have := hT.apart q i _ _ (by omega) hqo hr.get ho
          rw [hc, h1] at this
          simp only [reduceCtorEq, false_and, and_false, false_or, true_and, or_false, and_self] at this
          exact steady this

/-- the slots behind a ready one -/
theorem ready_put (hT : Text P E C n fz thaw ops s s' S c v) {L L' : Nat → Bool} (hL : Closed ops L) {i : Nat} {o : Oper} (hr : Ready ops L i o) (hi' : L' i = true) (ho : ∀ k, k ≠ i → L' k = L k) {d : Nat}
    (hd : (trOper P n fz thaw ops o).dst = some d) (t : Nat) :
    ((slotsAt s.σ (dstOf P n fz thaw ops) v L ops.size).put d (v i)).get t = (slotsAt s.σ (dstOf P n fz thaw ops) v L' ops.size).get t := by
  have hlt := ready_lt hr
  have hdi : dstOf P n fz thaw ops i = some d := by simp [dstOf, hr.get, hd]
  rw [Slots.get_put]
  by_cases h : t = d
  · subst h
    rw [if_pos rfl]
    rw [slotsAt_stop (i := i + 1) ops.size (by omega) fun k h1 h2 hk => ?_, slotsAt_get, if_pos ⟨hi', hdi⟩]
    have hko := Array.getElem?_eq_getElem h2
    simp only [dstOf, hko, Option.bind_some] at hk
    rw [ho k (by omega)]
    exact unlisted_after hL hr.off h2 (hT.clash i k _ _ (by omega) hr.get hko (dst_clash hd hk))
  · rw [if_neg h]
    refine slotsAt_agree ops.size fun k hk hdk => ?_
    have : k ≠ i := by
      rintro rfl
      rw [hdi] at hdk
      exact h (Option.some.inj hdk).symm
    exact (ho k this).symm

theorem ready_skip {L L' : Nat → Bool} {i : Nat} (ho : ∀ k, k ≠ i → L' k = L k) (hd : dstOf P n fz thaw ops i = none) (t : Nat) :
    (slotsAt s.σ (dstOf P n fz thaw ops) v L ops.size).get t = (slotsAt s.σ (dstOf P n fz thaw ops) v L' ops.size).get t := by
  refine slotsAt_agree ops.size fun k hk hdk => ?_
  have : k ≠ i := by
    rintro rfl
    rw [hd] at hdk; cases hdk
  exact (ho k this).symm

theorem ready_next (hT : Text P E C n fz thaw ops s s' S c v) {L L' : Nat → Bool} (hL : Closed ops L) {i : Nat} {o : Oper} (hr : Ready ops L i o) (hi' : L' i = true) (ho : ∀ k, k ≠ i → L' k = L k)
    {X X' : RX} (hE : Ext X X') {tmps : Array Value} (k : SRel X n (slotsAt s.σ (dstOf P n fz thaw ops) v L ops.size) tmps) (hdo : (trOper P n fz thaw ops o).dst = o.dst) (hdn : ∀ d, o.dst = some d → d < n)
    {v' : Value} (hv : VRel X' (v i) v') : SRel X' n (slotsAt s.σ (dstOf P n fz thaw ops) v L' ops.size) (match o.dst with | some d => tmps.setIfInBounds d v' | none => tmps) := by
  cases hd : o.dst with
  | none =>
    refine (k.ext hE).congr (ready_skip ho ?_)
    simp [dstOf, hr.get, hdo, hd]
  | some d =>
    refine ((k.ext hE).put (hdn d hd) hv).congr (ready_put hT hL hr hi' ho ?_)
    rw [hdo, hd]

theorem closed_next {L L' : Nat → Bool} (hL : Closed ops L) {i : Nat} {o : Oper} (hr : Ready ops L i o) (hi' : L' i = true) (ho : ∀ k, k ≠ i → L' k = L k) : Closed ops L' := by
  have hup : ∀ k, L k = true → L' k = true := fun k h => by
    by_cases he : k = i
    · subst he; exact hi'
    · rw [ho k he]; exact h
  intro j oj hj hLj e he hb
  by_cases hji : j = i
  · subst hji
    have := hr.get; rw [hj] at this; cases this
    exact hup _ (hr.edges e he hb)
  · rw [ho j hji] at hLj
    exact hup _ (hL j oj hj hLj e he hb)

theorem act_put_tmps (a : Act) (d : Option Nat) (v : Value) : (a.put d v).tmps = (match d with | some d => a.tmps.setIfInBounds d v | none => a.tmps) := by
  cases d <;> rfl
theorem act_put_defers (a : Act) (d : Option Nat) (v : Value) : (a.put d v).defers = a.defers := by
  cases d <;> rfl

theorem ready_step (hC : CallOk P E C) (hq : Quiet C) (hT : Text P E C n fz thaw ops s s' S c v) {L L' : Nat → Bool} {X : RX} (hR : Rel B w0 E X) {a : Act} (hI : Inv P n fz thaw ops s S c v X a.tmps L) {i : Nat} {o : Oper}
    (hr : Ready ops L i o) (hi' : L' i = true) (ho : ∀ k, k ≠ i → L' k = L k) {K : Act → World → Prop} {Q : Exit → Act → World → Prop}
    (hK : ∀ X' a', Rel B w0 E X' → Ext X X' → Inv P n fz thaw ops s S c v X' a'.tmps L' → a'.defers = a.defers → K a' X'.w) : wpOp P ops Q i K a X.w := by
  unfold wpOp
  simp only [hr.get]
  obtain ⟨hdo, hg, hdn, htr⟩ := did_inv (hT.did i o hr.get)
  have hwr := wanted_rel hI.slots hg (trOper P n fz thaw ops o) rfl
  have hwc : (trOper P n fz thaw ops o).wanted (slotsAt s.σ (dstOf P n fz thaw ops) v L ops.size) = (trOper P n fz thaw ops o).wanted (S i).σ := wanted_congr fun t ht => ready_slots hT hI.closed hr ht
  rw [hwc] at hwr
  rcases (hT.did i o hr.get).how with ⟨hw, hact⟩ | ⟨hw, hv, hcn, hh⟩
  · rw [hw] at hwr
    rw [if_pos hwr]
    left
    obtain ⟨fr, ht⟩ := htr hw
    obtain ⟨h', k', hact', hheap⟩ := ready_act hq hT hI.closed hr hI.heap hact
    have hact2 : E.act C (slotsAt s.σ (dstOf P n fz thaw ops) v L ops.size) X.h (trOper P n fz thaw ops o).op = some (.ret ⟨v i, h', k'⟩) := by
      rw [← hact']
      exact act_congr (fun t ht => ready_slots hT hI.closed hr (looks_reads ht)) C X.h
    refine act_wp (act_sim hC hR hI.slots ht hact2) hR ?_ ?_
    · rintro r hre X' v' g1 g2 g3 g4
      cases hre
      refine hK X' _ g1 g2 ⟨?_, closed_next hI.closed hr hi' ho, ?_⟩ (act_put_defers _ _ _)
      · rw [act_put_tmps]
        exact ready_next hT hI.closed hr hi' ho g2 hI.slots hdo hdn g4
      · obtain ⟨q, q1, q2, q3, q4⟩ := hheap
        refine ⟨q, q1, g3.trans q2, ?_, fun k hk hw => ?_⟩
        · rcases q3 with h | ⟨h1, h2, h3⟩
          · exact .inl h
          · exact .inr ⟨h1, by rw [ho q h2]; exact h3⟩
        · rcases q4 k hk hw with rfl | h
          · exact hi'
          · by_cases he : k = i
            · subst he; exact hi'
            · rw [ho k he]; exact h
    · rintro v h hre; cases hre
  · rw [hw] at hwr
    rw [if_neg (by simp [hwr])]
    refine hK X _ hR (Ext.refl X) ⟨?_, closed_next hI.closed hr hi' ho, ?_⟩ (act_put_defers _ _ _)
    · rw [act_put_tmps]
      refine ready_next hT hI.closed hr hi' ho (Ext.refl X) hI.slots hdo hdn ?_
      rw [hv]; exact VRel.undef
    · obtain ⟨q, q1, q2, q3, q4⟩ := hI.heap
      refine ⟨q, q1, q2, ?_, fun k hk hw => ?_⟩
      · rcases q3 with h | ⟨h1, h2⟩
        · exact .inl h
        · by_cases he : q = i
          · rw [he, hcn] at h1; cases h1
          · exact .inr ⟨h1, by rw [ho q he]; exact h2⟩
      · by_cases he : k = i
        · subst he; exact hi'
        · rw [ho k he]; exact q4 k hk hw

theorem mem_ready {listed : Array Bool} {i : Nat} (hsz : listed.size = ops.size) : i ∈ Region.ready .any ops listed ↔ ∃ o, Ready ops (fun k => listed.getD k false) i o := by
  simp only [Region.ready, List.mem_filter, List.mem_range, Bool.and_eq_true, Bool.not_eq_true']
  constructor
  · rintro ⟨hlt, h1, h2⟩
    have ho := Array.getElem?_eq_getElem hlt
    rw [ho] at h2
    simp only [Option.map_some, Option.getD_some] at h2
    refine ⟨_, ho, ?_, fun e he hb => ?_⟩
    · have hl : i < listed.size := by omega
      simp only [Array.getD_eq_getD_getElem?, Array.getElem?_eq_getElem hl, Option.getD_some] at h1 ⊢
      exact h1
    · rw [← Array.all_toList] at h2
      have := List.all_eq_true.1 h2 e he
      simpa [hb] using this
  · rintro ⟨o, ho, h1, h2⟩
    have hlt := (Array.getElem?_eq_some_iff.1 ho).1
    have hl : i < listed.size := by omega
    refine ⟨hlt, ?_, ?_⟩
    · simp only [Array.getD_eq_getD_getElem?, Array.getElem?_eq_getElem hl, Option.getD_some] at h1 ⊢
      exact h1
    · rw [ho]
      simp only [Option.map_some, Option.getD_some]
      rw [← Array.all_toList]
      refine List.all_eq_true.2 fun e he => ?_
      cases hb : Region.binds .any e with
      | false => simp
      | true => simp [h2 e he hb]

/-- while one is left, one is ready -/
theorem ready_exists (hT : Text P E C n fz thaw ops s s' S c v) {L : Nat → Bool} : ∀ (i : Nat), i < ops.size → L i = false → ∃ j o, Ready ops L j o := by
  intro i
  induction i using Nat.strongRecOn with
  | _ i ih =>
    intro hi hL
    have ho := Array.getElem?_eq_getElem hi
    by_cases h : ∃ e ∈ ops[i].after.toList, Region.binds .any e = true ∧ L e.on = false
    · obtain ⟨e, he, hb, hLe⟩ := h
      have hlt := hT.back i _ ho e he hb
      exact ih e.on hlt (by omega) hLe
    · exact ⟨i, _, ho, hL, fun e he hb => by
        cases hLe : L e.on with
        | true => rfl
        | false => exact absurd ⟨e, he, hb, hLe⟩ h⟩

theorem left_pos {L : Nat → Bool} : ∀ {N : Nat}, left L N ≠ 0 → ∃ i, i < N ∧ L i = false
  | 0, h => absurd rfl h
  | N + 1, h => by
    cases hL : L N with
    | false => exact ⟨N, by omega, hL⟩
    | true =>
      simp only [left, hL, Nat.add_zero] at h
      obtain ⟨i, h1, h2⟩ := left_pos h
      exact ⟨i, by omega, h2⟩

theorem any_sim (hC : CallOk P E C) (hq : Quiet C) (hT : Text P E C n fz thaw ops s s' S c v) {Q : Exit → Act → World → Prop} : ∀ (fuel : Nat) (listed : Array Bool), listed.size = ops.size → left (fun k => listed.getD k false) ops.size = fuel →
    ∀ {X : RX}, Rel B w0 E X → ∀ {a : Act}, Inv P n fz thaw ops s S c v X a.tmps (fun k => listed.getD k false) → a.defers = [] → (∀ e' a' w', CPost B w0 E X n .norm s' e' a' w' → Q e' a' w') → wpAny P .any ops Q fuel listed a X.w
  | 0, listed, hsz, hf, X, hR, a, hI, hde, hQ => by
    have hall := left_zero _ hf
    refine ⟨?_, ?_⟩
    · apply List.eq_nil_iff_forall_not_mem.2
      intro i hi
      obtain ⟨o, hr⟩ := (mem_ready hsz).1 hi
      have := hall i (ready_lt hr)
      rw [hr.off] at this; cases this
    · refine hQ _ _ _ ⟨X, rfl, hR, Ext.refl X, ⟨?_, ?_, hde⟩, .norm⟩
      · obtain ⟨q, q1, q2, q3, q4⟩ := hI.heap
        rcases q3 with rfl | ⟨h1, h2⟩
        · rw [q2, hT.last]
        · by_cases he : q = ops.size
          · rw [q2, he, hT.last]
          · have := hall q (by omega)
            rw [h2] at this; cases this
      · refine hI.slots.congr fun t => ?_
        rw [← hT.last, text_slots hT ops.size (Nat.le_refl _) t]
        exact slotsAt_agree ops.size fun k hk _ => hall k hk
  | fuel + 1, listed, hsz, hf, X, hR, a, hI, hde, hQ => by
    obtain ⟨i0, hi0, hL0⟩ := left_pos (L := fun k => listed.getD k false) (N := ops.size) (by omega)
    obtain ⟨j, oj, hj⟩ := ready_exists hT (L := fun k => listed.getD k false) i0 hi0 hL0
    refine ⟨fun h => ?_, fun i hi => ?_⟩
    · have := (mem_ready hsz).2 ⟨oj, hj⟩
      rw [h] at this; cases this
    · obtain ⟨o, hr⟩ := (mem_ready hsz).1 hi
      have hlt := ready_lt hr
      have hset : (fun k => (listed.setIfInBounds i true).getD k false) i = true := by
        simp [Array.getD_eq_getD_getElem?, Array.getElem?_setIfInBounds, hsz, hlt]
      have hoth : ∀ k, k ≠ i → (fun k => (listed.setIfInBounds i true).getD k false) k = (fun k => listed.getD k false) k := by
        intro k hk
        simp only [Array.getD_eq_getD_getElem?, Array.getElem?_setIfInBounds]
        rw [if_neg (fun e => hk e.symm)]
      refine ready_step hC hq hT hR hI hr hset hoth fun X' a' g1 g2 g3 g4 => ?_
      refine any_sim hC hq hT fuel _ (by simpa using hsz) ?_ g1 g3 (g4.trans hde) fun e' a' w' hp => hQ _ _ _ (CPost.trans g2 hp)
      have := (left_set hr.off hset hoth ops.size).1 hlt
      omega

theorem draw_sim (hC : CallOk P E C) (hq : Quiet C) (hm : P.follows .mixedOrders = true) : DrawOk P E C := by
  intro B w0 n fz thaw ops id X s a e s' hR k hst h
  obtain ⟨rfl, S, c, v, hT⟩ := text_of hst h
  refine wp_region_any hm ?_
  have hb : Below X.w.heap.size X.w { X.w with drawn := X.w.drawn + 1 } := Below.drew (Below.refl _ X.w)
  have hR' := hR.grow hb
  have hE := Ext.grow X hb
  have hfalse : (fun k => (Array.replicate ops.size false).getD k false) = fun _ => false := by
    funext k
    simp only [Array.getD_eq_getD_getElem?, Array.getElem?_replicate]
    split <;> rfl
  refine any_sim hC hq hT ops.size (Array.replicate ops.size false) (by simp) ?_ hR' (X := { X with w := { X.w with drawn := X.w.drawn + 1 } }) ?_ k.defers fun e' a' w' hp => CPost.trans hE hp
  · rw [hfalse]; exact left_none _
  · rw [hfalse]
    refine ⟨?_, ?_, ?_⟩
    · refine (k.slots.ext hE).congr fun t => ?_
      rw [slotsAt_stop (i := 0) ops.size (by omega) fun _ _ _ _ => rfl]
      rfl
    · intro j o hj hL; cases hL
    · obtain ⟨q, q1, q2, q3, q4⟩ := first_write c ops.size ops.size 0 (by omega)
      refine ⟨q, q2, ?_, ?_, fun k hk hw => absurd hw (q4 k (by omega) hk)⟩
      · rw [heap_same hq hT q (by omega) q2 q4, hT.first]
        exact k.heap
      · rcases q3 with h | h
        · exact .inl h
        · exact .inr ⟨h, rfl⟩
end
end Go.AM
