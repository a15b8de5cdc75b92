/-
  THE ABSTRACT MACHINE AND THE MODEL: a region whose order is open, the theorem.
-/
import Derived.Test.YtaielgjmhbjfhaaGreatDoorAmDraw
set_option linter.unusedSimpArgs false
set_option linter.unusedVariables false
namespace Go.AM
open Go.RowKit

/-! ### the order that the edges make -/
theorem fold_bits (A : Array Nat) (es : List Edge) : ∀ (s i : Nat), Nat.testBit (es.foldl (fun s e => if Region.binds .any e then s ||| 2 ^ e.on ||| A.getD e.on 0 else s) s) i = true →
    Nat.testBit s i = true ∨ ∃ e ∈ es, Region.binds .any e = true ∧ (e.on = i ∨ Nat.testBit (A.getD e.on 0) i = true) := by
  induction es with
  | nil => intro s i h; exact .inl h
  | cons e es ih =>
    intro s i h
    simp only [List.foldl_cons] at h
    rcases ih _ i h with h | ⟨e', he', hb, h⟩
    · by_cases hb : Region.binds .any e = true
      · rw [if_pos hb] at h
        simp only [Nat.testBit_or, Bool.or_eq_true] at h
        rcases h with (h | h) | h
        · exact .inl h
        · refine .inr ⟨e, by simp, hb, .inl ?_⟩
          rw [Nat.testBit_two_pow] at h
          simpa using h
        · exact .inr ⟨e, by simp, hb, .inr h⟩
      · rw [if_neg hb] at h; exact .inl h
    · exact .inr ⟨e', by simp [he'], hb, h⟩

/-- Each that is ahead is ahead by an edge, or ahead of one that is. -/
def Chained (ops : List Oper) (A : Array Nat) : Prop :=
  ∀ j, j < A.size → ∀ i, Nat.testBit (A.getD j 0) i = true → ∃ o, ops[j]? = some o ∧ ∃ e ∈ o.after.toList, Region.binds .any e = true ∧ (e.on = i ∨ (e.on < j ∧ Nat.testBit (A.getD e.on 0) i = true))

theorem chained_fold : ∀ (l done : List Oper) (A : Array Nat), A.size = done.length → Chained (done ++ l) A →
    Chained (done ++ l) (l.foldl (fun acc o => acc.push (o.after.foldl (fun s e => if Region.binds .any e then s ||| 2 ^ e.on ||| acc.getD e.on 0 else s) 0)) A) ∧
    (l.foldl (fun acc o => acc.push (o.after.foldl (fun s e => if Region.binds .any e then s ||| 2 ^ e.on ||| acc.getD e.on 0 else s) 0)) A).size = done.length + l.length
  | [], done, A, hs, h => ⟨by simpa using h, by simpa using hs⟩
  | o :: l, done, A, hs, h => by
    simp only [List.foldl_cons]
    have h2 : Chained ((done ++ [o]) ++ l) (A.push (o.after.foldl (fun s e => if Region.binds .any e then s ||| 2 ^ e.on ||| A.getD e.on 0 else s) 0)) := by
      rw [List.append_assoc]
      intro j hj i hb
      simp only [Array.size_push] at hj
      have hlow : ∀ k, k < A.size → (A.push (o.after.foldl (fun s e => if Region.binds .any e then s ||| 2 ^ e.on ||| A.getD e.on 0 else s) 0)).getD k 0 = A.getD k 0 := by
        intro k hk
        simp only [Array.getD_eq_getD_getElem?, Array.getElem?_push]
        rw [if_neg (by omega)]
      have hz : ∀ k, Nat.testBit (A.getD k 0) i = true → k < A.size := by
        intro k hk
        apply Nat.lt_of_not_le
        intro hle
        simp only [Array.getD_eq_getD_getElem?, Array.getElem?_eq_none hle, Option.getD_none, Nat.zero_testBit, reduceCtorEq] at hk
      by_cases hjk : j < A.size
      · rw [hlow j hjk] at hb
        obtain ⟨o', ho', e, he, hbi, hor⟩ := h j hjk i hb
        refine ⟨o', ho', e, he, hbi, hor.imp id fun ⟨q1, q2⟩ => ⟨q1, ?_⟩⟩
        rw [hlow e.on (by omega)]; exact q2
      · have hjeq : j = A.size := by omega
        subst hjeq
        have hv : (A.push (o.after.foldl (fun s e => if Region.binds .any e then s ||| 2 ^ e.on ||| A.getD e.on 0 else s) 0)).getD A.size 0 = o.after.foldl (fun s e => if Region.binds .any e then s ||| 2 ^ e.on ||| A.getD e.on 0 else s) 0 := by
          simp [Array.getD_eq_getD_getElem?]
        rw [hv, ← Array.foldl_toList] at hb
        rcases fold_bits A o.after.toList 0 i hb with hb | ⟨e, he, hbi, hor⟩
        · simp at hb
        · refine ⟨o, by simp [hs], e, he, hbi, hor.imp id fun q => ⟨hz _ q, ?_⟩⟩
          rw [hlow e.on (hz _ q)]; exact q
    obtain ⟨g1, g2⟩ := chained_fold l (done ++ [o]) _ (by simp [hs]) h2
    refine ⟨by simpa using g1, ?_⟩
    rw [g2]
    simp only [List.length_append, List.length_cons, List.length_nil]; omega

theorem before_chained (ops : Array Oper) : Chained ops.toList (Region.before ops) ∧ (Region.before ops).size = ops.size := by
  have := chained_fold ops.toList [] #[] rfl (fun j hj => by simp at hj)
  simp only [List.nil_append, List.length_nil, Nat.zero_add, Array.length_toList] at this
  have e : Region.before ops = ops.toList.foldl (fun acc o => acc.push (o.after.foldl (fun s e => if Region.binds .any e then s ||| 2 ^ e.on ||| acc.getD e.on 0 else s) 0)) #[] := by
    simp only [Region.before, ← Array.foldl_toList]
  rw [e]
  exact this

/-- Is the one ahead of the other? -/
def Ord (ops : Array Oper) (i j : Nat) : Prop := Nat.testBit ((Region.before ops).getD j 0) i = true

/-- What is listed is closed under the edges. -/
def Closed (ops : Array Oper) (L : Nat → Bool) : Prop := ∀ j o, ops[j]? = some o → L j = true → ∀ e ∈ o.after.toList, Region.binds .any e = true → L e.on = true

theorem closed_ord {ops : Array Oper} {L : Nat → Bool} (hL : Closed ops L) : ∀ (j : Nat), j < ops.size → ∀ i, Ord ops i j → (∀ o, ops[j]? = some o → ∀ e ∈ o.after.toList, Region.binds .any e = true → L e.on = true) → L i = true := by
  intro j
  induction j using Nat.strongRecOn with
  | _ j ih =>
    intro hj i hb hE
    obtain ⟨g1, g2⟩ := before_chained ops
    obtain ⟨o, ho, e, he, hbi, hor⟩ := g1 j (by rw [g2]; exact hj) i hb
    have ho' : ops[j]? = some o := by simpa using ho
    have hle := hE o ho' e he hbi
    rcases hor with rfl | ⟨hlt, hb'⟩
    · exact hle
    · exact ih e.on hlt (by omega) i hb' fun o' ho2 e' he' hbi' => hL e.on o' ho2 hle e' he' hbi'

/-! ### the run in the order of the text -/
theorem log_states {E : Env} {C : CallF} : ∀ (l : List AOper) (s s' : St) (log : List (AOper × St × Cls)), E.opsLog C l s = some (s', log) →
    ∃ S : Nat → St, S 0 = s ∧ S l.length = s' ∧ log.length = l.length ∧ ∀ k ao, l[k]? = some ao → ∃ c, log[k]? = some (ao, S k, c) ∧ E.one C ao (S k) = some (S (k + 1), c, none)
  | [], s, s', log, h => by
    simp only [Env.opsLog, Option.some.injEq, Prod.mk.injEq] at h
    obtain ⟨rfl, rfl⟩ := h
    exact ⟨fun _ => s, rfl, rfl, rfl, fun k ao h => by simp at h⟩
  | o :: l, s, s', log, h => by
    simp only [Env.opsLog, Option.bind_eq_some_iff] at h
    obtain ⟨⟨s1, c, p⟩, h1, h2⟩ := h
    cases p with
    | some v => cases h2
    | none =>
      simp only [Option.map_eq_some_iff] at h2
      obtain ⟨⟨r, lg⟩, h3, h4⟩ := h2
      simp only [Prod.mk.injEq] at h4
      obtain ⟨rfl, rfl⟩ := h4
      obtain ⟨S, g0, g1, g2, g3⟩ := log_states l s1 _ _ h3
      refine ⟨fun k => match k with | 0 => s | k + 1 => S k, rfl, g1, by simp [g2], fun k ao hk => ?_⟩
      cases k with
      | zero => simp at hk; subst hk; exact ⟨c, rfl, h1.trans (by show some (s1, c, none) = some (S 0, c, none); rw [g0])⟩
      | succ k => simp at hk; exact g3 k ao hk

/-- What a step of the text's run did. -/
structure Did (E : Env) (C : CallF) (ao : AOper) (s s' : St) (c : Cls) (v : AV) : Prop where
  put : s' = s.put ao.dst v s'.h
  how : (ao.wanted s.σ = true ∧ E.act C s.σ s.h ao.op = some (.ret ⟨v, s'.h, c⟩)) ∨ (ao.wanted s.σ = false ∧ v = .undef ∧ c = .none ∧ s'.h = s.h)

theorem one_did {E : Env} {C : CallF} {ao : AOper} {s s' : St} {c : Cls} (h : E.one C ao s = some (s', c, none)) : ∃ v, Did E C ao s s' c v := by
  unfold Env.one at h
  cases hw : ao.wanted s.σ with
  | true =>
    rw [hw] at h
    simp only [Option.map_eq_some_iff] at h
    obtain ⟨out, ho, h⟩ := h
    cases out with
    | panic v h' => simp only [Prod.mk.injEq, reduceCtorEq, and_false] at h
    | ret r =>
      simp only [Prod.mk.injEq, and_true] at h
      obtain ⟨rfl, rfl⟩ := h
      have hh : (s.put ao.dst r.v r.h).h = r.h := by cases hd : ao.dst <;> rfl
      exact ⟨r.v, by rw [hh], .inl ⟨hw, by rw [hh]; exact ho⟩⟩
  | false =>
    rw [hw] at h
    simp only [Option.some.injEq, Prod.mk.injEq, and_true] at h
    obtain ⟨rfl, rfl⟩ := h
    have hh : (s.put ao.dst .undef s.h).h = s.h := by cases hd : ao.dst <;> rfl
    exact ⟨.undef, by rw [hh], .inr ⟨hw, rfl, rfl, hh⟩⟩

/-! ### the slots, where so much has run -/
section
variable (σ0 : Slots) (dst : Nat → Option Nat) (v : Nat → AV)
def slotsAt (L : Nat → Bool) : Nat → Slots
  | 0 => σ0
  | k + 1 => match L k, dst k with
    | true, some d => (slotsAt L k).put d (v k)
    | _, _ => slotsAt L k

variable {σ0 dst v}
theorem slotsAt_get (L : Nat → Bool) (k t : Nat) : (slotsAt σ0 dst v L (k + 1)).get t = if L k = true ∧ dst k = some t then v k else (slotsAt σ0 dst v L k).get t := by
  simp only [slotsAt]
  cases hL : L k with
  | false => simp
  | true =>
    cases hd : dst k with
    | none => simp
    | some d =>
      simp only [Slots.get_put, true_and, Option.some.injEq]
      by_cases h : t = d
      · subst h; simp
      · rw [if_neg h, if_neg (fun e => h e.symm)]

/-- two listings that agree on whoever writes the slot -/
theorem slotsAt_agree {L L' : Nat → Bool} {t : Nat} : ∀ (n : Nat), (∀ k, k < n → dst k = some t → L k = L' k) → (slotsAt σ0 dst v L n).get t = (slotsAt σ0 dst v L' n).get t
  | 0, _ => rfl
  | n + 1, h => by
    rw [slotsAt_get, slotsAt_get, slotsAt_agree n (fun k hk => h k (by omega))]
    by_cases hd : dst n = some t
    · rw [h n (by omega) hd]
    · simp [hd]

/-- nobody behind writes the slot -/
theorem slotsAt_stop {L : Nat → Bool} {t i : Nat} : ∀ (n : Nat), i ≤ n → (∀ k, i ≤ k → k < n → dst k = some t → L k = false) → (slotsAt σ0 dst v L n).get t = (slotsAt σ0 dst v L i).get t := by
  intro n hin
  induction n with
  | zero => intro _; have : i = 0 := by omega
            subst this; rfl
  | succ n ih =>
    intro h
    by_cases he : i = n + 1
    · subst he; rfl
    · rw [slotsAt_get, ih (by omega) (fun k h1 h2 => h k h1 (by omega))]
      rw [if_neg]
      rintro ⟨h1, h2⟩
      have := h n (by omega) (by omega) h2
      rw [h1] at this; cases this
end

/-- how many are not listed -/
def left (L : Nat → Bool) : Nat → Nat
  | 0 => 0
  | n + 1 => left L n + (match L n with | true => 0 | false => 1)

theorem left_set {L L' : Nat → Bool} {i : Nat} (hi : L i = false) (hi' : L' i = true) (ho : ∀ k, k ≠ i → L' k = L k) : ∀ n, (i < n → left L' n + 1 = left L n) ∧ (n ≤ i → left L' n = left L n)
  | 0 => ⟨fun h => by omega, fun _ => rfl⟩
  | n + 1 => by
    obtain ⟨g1, g2⟩ := left_set hi hi' ho n
    refine ⟨fun h => ?_, fun h => ?_⟩
    · by_cases he : i = n
      · subst he
        simp only [left, hi, hi', g2 (Nat.le_refl _)]
      · have h1 := g1 (by omega)
        simp only [left, ho n (Ne.symm he)]
        omega
    · simp only [left, ho n (by omega), g2 (by omega)]

theorem left_zero {L : Nat → Bool} : ∀ n, left L n = 0 → ∀ k, k < n → L k = true
  | 0, _, k, hk => by omega
  | n + 1, h, k, hk => by
    simp only [left] at h
    by_cases he : k = n
    · subst he
      cases hL : L k with
      | true => rfl
      | false => rw [hL] at h; simp at h
    · exact left_zero n (by omega) k (by omega)

theorem left_none : ∀ n, left (fun _ => false) n = n
  | 0 => rfl
  | n + 1 => by simp [left, left_none n]
end Go.AM
