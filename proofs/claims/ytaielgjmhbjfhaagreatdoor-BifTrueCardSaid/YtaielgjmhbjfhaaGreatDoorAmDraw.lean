/-
  THE ABSTRACT MACHINE AND THE MODEL: a region whose order is open. What the machine does in the order of the text holds in every order that the edges allow.
-/
import Derived.Test.YtaielgjmhbjfhaaGreatDoorAmCall
set_option linter.unusedSimpArgs false
set_option linter.unusedVariables false
namespace Go.AM
open Go.RowKit

/-! ### equality of values -/
mutual
theorem AV.same_eq : ∀ {a b : AV}, a.same b = true → a = b
  | .bool a, b, h => by cases b <;> simp_all [AV.same]
  | .int j a, b, h => by cases b <;> simp_all [AV.same]
  | .str a, b, h => by cases b <;> simp_all [AV.same]
  | .nilp, b, h => by cases b <;> simp_all [AV.same]
  | .nils, b, h => by cases b <;> simp_all [AV.same]
  | .nilm, b, h => by cases b <;> simp_all [AV.same]
  | .nilf, b, h => by cases b <;> simp_all [AV.same]
  | .nili, b, h => by cases b <;> simp_all [AV.same]
  | .ptr x y z, b, h => by cases b <;> simp_all [AV.same]
  | .sl x y z u v w, b, h => by cases b <;> simp_all [AV.same]
  | .fp a, b, h => by
    cases b <;> simp only [AV.same, reduceCtorEq] at h
    rw [AV.sames_eq h]
  | .fs f n a, b, h => by
    cases b <;> simp only [AV.same, reduceCtorEq, Bool.and_eq_true, beq_iff_eq] at h
    rw [h.1.1, h.1.2, AV.sames_eq h.2]
  | .fn f a c, b, h => by
    cases b <;> simp only [AV.same, reduceCtorEq, Bool.and_eq_true, beq_iff_eq] at h
    rw [h.1.1, AV.sames_eq h.1.2, AV.sames_eq h.2]
  | .ifc t a, b, h => by
    cases b <;> simp only [AV.same, reduceCtorEq, Bool.and_eq_true, beq_iff_eq] at h
    rw [h.1, AV.same_eq h.2]
  | .agg a, b, h => by
    cases b <;> simp only [AV.same, reduceCtorEq] at h
    rw [AV.sames_eq h]
  | .tup a, b, h => by
    cases b <;> simp only [AV.same, reduceCtorEq] at h
    rw [AV.sames_eq h]
theorem AV.sames_eq : ∀ {a b : List AV}, AV.sames a b = true → a = b
  | [], [], _ => rfl
  | [], _ :: _, h => by simp [AV.sames] at h
  | _ :: _, [], h => by simp [AV.sames] at h
  | a :: as, b :: bs, h => by
    simp only [AV.sames, Bool.and_eq_true] at h
    rw [AV.same_eq h.1, AV.sames_eq h.2]
end

/-! ### what an operation looks at -/
section
variable {E : Env} {σ σ' : Slots}

theorem opd_congr {x : Opd} (h : ∀ t ∈ x.slots, σ.get t = σ'.get t) : E.opd σ x = E.opd σ' x := by
  cases x with
  | t n => simp only [Env.opd]; rw [h n (by simp [Opd.slots])]
  | _ => rfl
theorem opdo_congr {x : Option Opd} (h : ∀ t ∈ slotsO x, σ.get t = σ'.get t) : E.opdo σ x = E.opdo σ' x := by
  cases x with
  | none => rfl
  | some x => simp only [Env.opdo]; rw [opd_congr h]
theorem opds_congr : ∀ {l : List Opd}, (∀ t ∈ slotsL l, σ.get t = σ'.get t) → E.opds σ l = E.opds σ' l
  | [], _ => rfl
  | x :: l, h => by
    simp only [Env.opds]
    rw [opd_congr (fun t ht => h t (by simp [slotsL, ht])), opds_congr (l := l) (fun t ht => h t (by simp [slotsL, ht]))]
theorem parts_congr : ∀ {l : List (Nat × Nat × Opd)}, (∀ t ∈ slotsP l, σ.get t = σ'.get t) → E.parts σ l = E.parts σ' l
  | [], _ => rfl
  | (i, s, x) :: l, h => by
    simp only [Env.parts]
    rw [opd_congr (fun t ht => h t (by simp [slotsP, ht])), parts_congr (l := l) (fun t ht => h t (by simp [slotsP, ht]))]

theorem op_congr {op : AOp} (h : ∀ t ∈ op.reads, σ.get t = σ'.get t) (hp : Heap) : E.op σ hp op = E.op σ' hp op := by
  cases op <;> simp only [AOp.reads, List.mem_append] at h <;> simp only [Env.op]
  case mv x => rw [opd_congr h]
  case pick c a b => rw [opd_congr (x := c) (fun t ht => h t (.inl ht)), opd_congr (x := a) (fun t ht => h t (.inr (.inl ht))), opd_congr (x := b) (fun t ht => h t (.inr (.inr ht)))]
  case box => rw [opd_congr h]
  case build => rw [parts_congr h]
  case lit => rw [parts_congr h]
  case load => rw [opd_congr h]
  case store => rw [opd_congr (fun t ht => h t (.inl ht)), opd_congr (fun t ht => h t (.inr ht))]
  case nilCheck => rw [opd_congr h]
  case bin => rw [opd_congr (fun t ht => h t (.inl ht)), opd_congr (fun t ht => h t (.inr ht))]
  case eq => rw [opd_congr (fun t ht => h t (.inl ht)), opd_congr (fun t ht => h t (.inr ht))]
  case un => rw [opd_congr h]
  case conv => rw [opd_congr h]
  case mkIface => rw [opd_congr h]
  case mkFunc => rw [opds_congr (fun t ht => h t (.inl ht)), opds_congr (fun t ht => h t (.inr ht))]
  case makeSlice => rw [opd_congr (fun t ht => h t (.inl ht)), opd_congr (fun t ht => h t (.inr ht))]
  case slice => rw [opd_congr (fun t ht => h t (.inl ht)), opdo_congr (fun t ht => h t (.inr (.inl ht))), opdo_congr (fun t ht => h t (.inr (.inr (.inl ht)))), opdo_congr (fun t ht => h t (.inr (.inr (.inr ht))))]
  case sliceStr => rw [opd_congr (fun t ht => h t (.inl ht)), opdo_congr (fun t ht => h t (.inr (.inl ht))), opdo_congr (fun t ht => h t (.inr (.inr ht)))]
  case sliceArr => rw [opd_congr (fun t ht => h t (.inl ht)), opdo_congr (fun t ht => h t (.inr (.inl ht))), opdo_congr (fun t ht => h t (.inr (.inr (.inl ht)))), opdo_congr (fun t ht => h t (.inr (.inr (.inr ht))))]
  case fieldAddr => rw [opd_congr h]
  case field => rw [opd_congr h]
  case idxAddr => rw [opd_congr (fun t ht => h t (.inl ht)), opd_congr (fun t ht => h t (.inr ht))]
  case idxAddrArr => rw [opd_congr (fun t ht => h t (.inl ht)), opd_congr (fun t ht => h t (.inr ht))]
  case idxStr x i => rw [opd_congr (x := x) (fun t ht => h t (.inl ht)), opd_congr (x := i) (fun t ht => h t (.inr ht))]
  case idxArr ag sz n x i => rw [opd_congr (x := x) (fun t ht => h t (.inl ht)), opd_congr (x := i) (fun t ht => h t (.inr ht))]
  case extract => rw [opd_congr h]
  case len => rw [opd_congr h]
  case append => rw [opd_congr (fun t ht => h t (.inl ht)), opd_congr (fun t ht => h t (.inr ht))]
  case minmax => rw [opd_congr (fun t ht => h t (.inl ht)), opd_congr (fun t ht => h t (.inr ht))]

theorem act_congr {op : AOp} (h : ∀ t ∈ op.reads, σ.get t = σ'.get t) (C : CallF) (hp : Heap) : E.act C σ hp op = E.act C σ' hp op := by
  by_cases hpl : op.plain = true
  · rw [E_act_plain hpl, E_act_plain hpl, op_congr h]
  · cases op <;> simp only [AOp.plain, not_true_eq_false] at hpl <;> simp only [AOp.reads, List.mem_append] at h <;> simp only [Env.act]
    case call => rw [opds_congr h]
    case callv => rw [opd_congr (fun t ht => h t (.inl ht)), opds_congr (fun t ht => h t (.inr ht))]
    case panic => rw [opd_congr h]
end

/-! ### what an operation does to the heap -/
section
variable {E : Env} {σ : Slots}

theorem load_class {h : Heap} {ag : Bool} {sz : Nat} {x : AV} {r : OpRes} (e : aLoad h ag sz x = some r) : r.h = h ∧ r.c ≠ .write ∧ (r.c = .none → ∀ h2, aLoad h2 ag sz x = some ⟨r.v, h2, .none⟩) := by
  cases x <;> simp only [aLoad, reduceCtorEq, Option.bind_eq_some_iff, Option.map_eq_some_iff] at e
  · obtain ⟨cs, _, v, _, rfl⟩ := e; exact ⟨rfl, by simp, by simp⟩
  · obtain ⟨v, hv, rfl⟩ := e; exact ⟨rfl, by simp, fun _ h2 => by simp [aLoad, hv]⟩

theorem cells_class {h : Heap} {sz n : Nat} {x : AV} {cs : List AV} {k : Cls} (e : sliceCells h sz n x = some (cs, k)) : k ≠ .write ∧ (k = .none → ∀ h2, sliceCells h2 sz n x = some (cs, .none)) := by
  cases x <;> simp only [sliceCells, reduceCtorEq] at e
  case nils => split at e <;> simp only [Option.some.injEq, Prod.mk.injEq, reduceCtorEq] at e
               rename_i h0; obtain ⟨rfl, rfl⟩ := e; exact ⟨by simp, fun _ h2 => by simp [sliceCells, h0]⟩
  case fs => split at e <;> simp only [Option.some.injEq, Prod.mk.injEq, reduceCtorEq] at e
             rename_i h0; obtain ⟨rfl, rfl⟩ := e; exact ⟨by simp, fun _ h2 => by simp [sliceCells, h0]⟩
  case sl =>
    split at e
    · simp only [Option.bind_eq_some_iff] at e
      obtain ⟨c, _, e⟩ := e
      split at e <;> simp only [Option.some.injEq, Prod.mk.injEq, reduceCtorEq] at e
      obtain ⟨_, rfl⟩ := e; exact ⟨by simp, by simp⟩
    · cases e
  case str => split at e <;> simp only [Option.some.injEq, Prod.mk.injEq, reduceCtorEq] at e
              rename_i h0; obtain ⟨rfl, rfl⟩ := e; exact ⟨by simp, fun _ h2 => by simp [sliceCells, h0]⟩

theorem conv_class {h : Heap} {c : CvT} {x : AV} {r : OpRes} (e : aConv h c x = some r) : (r.c ≠ .write → r.h = h) ∧ (r.c = .none → ∀ h2, aConv h2 c x = some ⟨r.v, h2, .none⟩) := by
  cases c
  case int => cases x <;> simp only [aConv, reduceCtorEq, Option.some.injEq] at e; subst e; exact ⟨fun _ => rfl, fun _ h2 => rfl⟩
  case rune => cases x <;> simp only [aConv, reduceCtorEq, Option.some.injEq] at e; subst e; exact ⟨fun _ => rfl, fun _ h2 => rfl⟩
  case same => cases x <;> simp only [aConv, reduceCtorEq, Option.some.injEq] at e; subst e; exact ⟨fun _ => rfl, fun _ h2 => rfl⟩
  case s2b => cases x <;> simp only [aConv, reduceCtorEq, Option.some.injEq] at e; subst e; exact ⟨fun hc => absurd rfl hc, fun hc => by cases hc⟩
  case b2s =>
    have : ∃ n cs k bs, aLen x = some n ∧ sliceCells h 1 n x = some (cs, k) ∧ cs.mapM toByte = some bs ∧ r = ⟨.str bs, h, k⟩ ∧ ∀ s, x ≠ .str s := by
      cases x <;> simp only [aConv, reduceCtorEq] at e
      all_goals
        simp only [Option.bind_eq_some_iff, Option.map_eq_some_iff] at e
        obtain ⟨n, hn, ⟨cs, k⟩, hcs, bs, hbs, rfl⟩ := e
        exact ⟨n, cs, k, bs, hn, hcs, hbs, rfl, fun s h => by cases h⟩
    obtain ⟨n, cs, k, bs, hn, hcs, hbs, rfl, hns⟩ := this
    obtain ⟨g1, g2⟩ := cells_class hcs
    refine ⟨fun _ => rfl, fun hk h2 => ?_⟩
    have := g2 hk h2
    cases x <;> first | exact absurd rfl (hns _) | simp [aConv, hn, this, hbs]
  case r2s => simp [aConv] at e
  case s2r => simp [aConv] at e
  case b2b =>
    cases x <;> simp only [aConv, reduceCtorEq] at e
    rename_i a b c d f cap
    cases cap <;> simp only [reduceCtorEq] at e
    split at e
    · simp only [Option.bind_eq_some_iff] at e
      obtain ⟨cs, _, e⟩ := e
      split at e <;> simp only [Option.some.injEq, reduceCtorEq] at e
      subst e; exact ⟨fun hc => absurd rfl hc, fun hc => by cases hc⟩
    · cases e

theorem append_class {h : Heap} {sz bt : Nat} {x y : AV} {r : OpRes} (e : aAppend h sz bt x y = some r) : (r.c ≠ .write → r.h = h) ∧ (r.c = .none → ∀ h2, aAppend h2 sz bt x y = some ⟨r.v, h2, .none⟩) := by
  simp only [aAppend, Option.bind_eq_some_iff] at e
  obtain ⟨n, hn, len, hlen, e⟩ := e
  split at e
  case isFalse => cases e
  rename_i hsm
  split at e
  · rename_i h0
    have : r = ⟨x, h, .none⟩ ∧ ∀ s, x ≠ .str s := by
      cases x <;> simp only [Option.some.injEq, reduceCtorEq] at e <;> exact ⟨e.symm, fun s h => by cases h⟩
    obtain ⟨rfl, hns⟩ := this
    refine ⟨fun _ => rfl, fun _ h2 => ?_⟩
    simp only [aAppend, hn, hlen, Option.bind_some, if_pos hsm, if_pos h0]
    all_goals (first | done | (cases x <;> first | exact absurd rfl (hns _) | rfl))
  · simp only [Option.bind_eq_some_iff] at e
    obtain ⟨⟨new, k⟩, _, e⟩ := e
    have hw : r.c = .write := by
      cases x <;> simp only [reduceCtorEq] at e
      case nils => simp only [Option.map_eq_some_iff] at e; obtain ⟨_, _, rfl⟩ := e; rfl
      case fs f _ _ => cases f <;> simp only [reduceCtorEq, Option.map_eq_some_iff] at e; obtain ⟨_, _, rfl⟩ := e; rfl
      case sl a b c d f cap =>
        cases cap <;> dsimp only at e
        · split at e
          · simp only [Option.bind_eq_some_iff] at e
            obtain ⟨_, _, e⟩ := e
            split at e
            · cases e; rfl
            · split at e
              · cases e; rfl
              · cases e
          · cases e
        · split at e
          · split at e
            · simp only [Option.bind_eq_some_iff] at e
              obtain ⟨_, _, e⟩ := e
              split at e
              · cases e; rfl
              · cases e
            · simp only [Option.map_eq_some_iff] at e; obtain ⟨_, _, rfl⟩ := e; rfl
          · cases e
    exact ⟨fun hc => absurd hw hc, fun hc => by rw [hw] at hc; cases hc⟩

theorem op_class {op : AOp} {h : Heap} {r : OpRes} (e : E.op σ h op = some r) : (r.c ≠ .write → r.h = h) ∧ (r.c = .none → ∀ h2, E.op σ h2 op = some ⟨r.v, h2, .none⟩) := by
  have triv : (∀ h2, E.op σ h2 op = some ⟨r.v, h2, .none⟩) → (r.c ≠ .write → r.h = h) ∧ (r.c = .none → ∀ h2, E.op σ h2 op = some ⟨r.v, h2, .none⟩) := by
    intro hall
    have := hall h
    rw [e] at this
    refine ⟨fun _ => ?_, fun _ => hall⟩
    have := Option.some.inj this
    rw [this]
  have wr : r.c = .write → (r.c ≠ .write → r.h = h) ∧ (r.c = .none → ∀ h2, E.op σ h2 op = some ⟨r.v, h2, .none⟩) := fun hw => ⟨fun hc => absurd hw hc, fun hc => by rw [hw] at hc; cases hc⟩
  cases op <;> simp only [Env.op, reduceCtorEq] at e
  case mv => simp only [Option.map_eq_some_iff] at e; obtain ⟨v, hv, rfl⟩ := e; exact triv fun h2 => by simp [Env.op, hv]
  case pick =>
    simp only [Option.bind_eq_some_iff] at e; obtain ⟨c, hc, e⟩ := e
    cases c with
    | bool b => cases b <;> simp only [Option.map_eq_some_iff] at e <;> obtain ⟨v, hv, rfl⟩ := e <;> exact triv fun h2 => by simp [Env.op, hc, hv]
    | _ => cases e
  case alloc => simp only [Option.some.injEq] at e; subst e; exact wr rfl
  case box fr sz x =>
    simp only [Option.bind_eq_some_iff] at e; obtain ⟨v, hv, vs, hvs, e⟩ := e
    split at e
    · rename_i hl
      cases fr
      · simp only [Option.some.injEq] at e; subst e; exact wr rfl
      · simp only [Option.some.injEq] at e; subst e; exact triv fun h2 => by simp [Env.op, hv, hvs, hl]
    · cases e
  case build => simp only [Option.bind_eq_some_iff, Option.map_eq_some_iff] at e; obtain ⟨l, hl, cs, hcs, rfl⟩ := e; exact triv fun h2 => by simp [Env.op, hl, hcs]
  case lit fr sz len cells ps =>
    simp only [Option.bind_eq_some_iff] at e; obtain ⟨l, hl, cs, hcs, e⟩ := e
    split at e
    · rename_i hc
      cases fr
      · simp only [Option.some.injEq] at e; subst e; exact wr rfl
      · simp only [Option.some.injEq] at e; subst e; exact triv fun h2 => by simp [Env.op, hl, hcs, hc]
    · cases e
  case load =>
    simp only [Option.bind_eq_some_iff] at e; obtain ⟨v, hv, e⟩ := e
    obtain ⟨g1, g2, g3⟩ := load_class e
    exact ⟨fun _ => g1, fun hc h2 => by simp [Env.op, hv, g3 hc h2]⟩
  case store =>
    simp only [Option.bind_eq_some_iff] at e; obtain ⟨v, hv, u, hu, e⟩ := e
    cases v <;> simp only [aStore, reduceCtorEq, Option.bind_eq_some_iff] at e
    obtain ⟨_, _, _, _, e⟩ := e
    split at e
    · cases e; exact wr rfl
    · cases e
  case nilCheck =>
    simp only [Option.bind_eq_some_iff] at e; obtain ⟨v, hv, e⟩ := e
    cases v with
    | ptr => cases e; exact triv fun h2 => by simp [Env.op, hv]
    | fp => cases e; exact triv fun h2 => by simp [Env.op, hv]
    | ifc => cases e; exact triv fun h2 => by simp [Env.op, hv]
    | fn f =>
      cases f with
      | func => cases e; exact triv fun h2 => by simp [Env.op, hv]
      | _ => cases e
    | _ => cases e
  case bin => simp only [Option.bind_eq_some_iff, Option.map_eq_some_iff] at e; obtain ⟨v, hv, u, hu, q, hq, rfl⟩ := e; exact triv fun h2 => by simp [Env.op, hv, hu, hq]
  case eq => simp only [Option.bind_eq_some_iff, Option.map_eq_some_iff] at e; obtain ⟨v, hv, u, hu, q, hq, rfl⟩ := e; exact triv fun h2 => by simp [Env.op, hv, hu, hq]
  case un => simp only [Option.bind_eq_some_iff, Option.map_eq_some_iff] at e; obtain ⟨v, hv, q, hq, rfl⟩ := e; exact triv fun h2 => by simp [Env.op, hv, hq]
  case conv =>
    simp only [Option.bind_eq_some_iff] at e; obtain ⟨v, hv, e⟩ := e
    obtain ⟨g1, g2⟩ := conv_class e
    exact ⟨g1, fun hc h2 => by simp [Env.op, hv, g2 hc h2]⟩
  case mkIface => simp only [Option.map_eq_some_iff] at e; obtain ⟨v, hv, rfl⟩ := e; exact triv fun h2 => by simp [Env.op, hv]
  case mkFunc => simp only [Option.bind_eq_some_iff, Option.map_eq_some_iff] at e; obtain ⟨v, hv, u, hu, rfl⟩ := e; exact triv fun h2 => by simp [Env.op, hv, hu]
  case makeSlice =>
    simp only [Option.bind_eq_some_iff] at e; obtain ⟨v, hv, u, hu, e⟩ := e
    unfold aMakeSlice at e
    split at e
    · split at e
      · cases e; exact wr rfl
      · cases e
    · cases e
  case slice => simp only [Option.bind_eq_some_iff, Option.map_eq_some_iff] at e; obtain ⟨v, hv, a, ha, b, hb, c, hc, q, hq, rfl⟩ := e; exact triv fun h2 => by simp [Env.op, hv, ha, hb, hc, hq]
  case sliceStr => simp only [Option.bind_eq_some_iff, Option.map_eq_some_iff] at e; obtain ⟨v, hv, a, ha, b, hb, q, hq, rfl⟩ := e; exact triv fun h2 => by simp [Env.op, hv, ha, hb, hq]
  case sliceArr =>
    simp only [Option.bind_eq_some_iff] at e; obtain ⟨v, hv, a, ha, b, hb, c, hc, e⟩ := e
    cases v <;> simp only [aSliceArr, reduceCtorEq] at e
    · simp only [Option.bind_eq_some_iff] at e; obtain ⟨cs, _, e⟩ := e
      split at e
      · simp only [Option.map_eq_some_iff] at e; obtain ⟨⟨l, u, m⟩, _, rfl⟩ := e; exact ⟨fun _ => rfl, fun hc => by cases hc⟩
      · cases e
    · split at e
      · rename_i hf
        simp only [Option.map_eq_some_iff] at e; obtain ⟨⟨l, u, m⟩, hq, rfl⟩ := e; exact triv fun h2 => by simp [Env.op, hv, ha, hb, hc, aSliceArr, hf, hq]
      · cases e
  case fieldAddr =>
    simp only [Option.bind_eq_some_iff] at e; obtain ⟨v, hv, e⟩ := e
    cases v <;> simp only [reduceCtorEq, Option.some.injEq] at e
    · subst e; exact triv fun h2 => by simp [Env.op, hv]
    · subst e; exact triv fun h2 => by simp [Env.op, hv]
  case field =>
    simp only [Option.bind_eq_some_iff] at e; obtain ⟨v, hv, e⟩ := e
    cases v <;> simp only [reduceCtorEq] at e
    split at e
    · rename_i hf
      simp only [Option.map_eq_some_iff] at e; obtain ⟨q, hq, rfl⟩ := e; exact triv fun h2 => by simp [Env.op, hv, hf, hq]
    · cases e
  case idxAddr => simp only [Option.bind_eq_some_iff, Option.map_eq_some_iff] at e; obtain ⟨v, hv, u, hu, q, hq, rfl⟩ := e; exact triv fun h2 => by simp [Env.op, hv, hu, hq]
  case idxAddrArr => simp only [Option.bind_eq_some_iff, Option.map_eq_some_iff] at e; obtain ⟨v, hv, u, hu, q, hq, rfl⟩ := e; exact triv fun h2 => by simp [Env.op, hv, hu, hq]
  case idxStr =>
    simp only [Option.bind_eq_some_iff] at e; obtain ⟨v, hv, e⟩ := e
    cases v <;> simp only [reduceCtorEq, Option.bind_eq_some_iff, Option.map_eq_some_iff] at e
    obtain ⟨u, hu, j, hj, c, hc, rfl⟩ := e; exact triv fun h2 => by simp [Env.op, hv, hu, hj, hc]
  case idxArr =>
    simp only [Option.bind_eq_some_iff] at e; obtain ⟨v, hv, e⟩ := e
    cases v <;> simp only [reduceCtorEq, Option.bind_eq_some_iff] at e
    obtain ⟨u, hu, j, hj, e⟩ := e
    split at e
    · rename_i hf
      simp only [Option.map_eq_some_iff] at e; obtain ⟨q, hq, rfl⟩ := e; exact triv fun h2 => by simp [Env.op, hv, hu, hj, hf, hq]
    · cases e
  case extract =>
    simp only [Option.bind_eq_some_iff] at e; obtain ⟨v, hv, e⟩ := e
    cases v <;> simp only [reduceCtorEq, Option.map_eq_some_iff] at e
    obtain ⟨q, hq, rfl⟩ := e; exact triv fun h2 => by simp [Env.op, hv, hq]
  case len b x =>
    simp only [Option.bind_eq_some_iff] at e; obtain ⟨v, hv, e⟩ := e
    cases b <;> cases v <;> simp only [reduceCtorEq, Option.some.injEq] at e <;> subst e <;> exact triv fun h2 => by simp [Env.op, hv]
  case append =>
    simp only [Option.bind_eq_some_iff] at e; obtain ⟨v, hv, u, hu, e⟩ := e
    obtain ⟨g1, g2⟩ := append_class e
    exact ⟨g1, fun hc h2 => by simp [Env.op, hv, hu, g2 hc h2]⟩
  case minmax => simp only [Option.bind_eq_some_iff, Option.map_eq_some_iff] at e; obtain ⟨v, hv, u, hu, q, hq, rfl⟩ := e; exact triv fun h2 => by simp [Env.op, hv, hu, hq]
end
end Go.AM
/-
  THE ABSTRACT MACHINE AND THE MODEL: a region whose order is open, the theorem.
-/
set_option linter.unusedSimpArgs false
set_option linter.unusedVariables false
namespace Go.AM
open Go.RowKit

/-! ### the order that the edges make -/
theorem fold_bits (A : Array Nat) (es : List Edge) : ∀ (s i : Nat), Nat.testBit (es.foldl (fun s e => if Region.binds .any e then s ||| 2 ^ e.on ||| A.getD e.on 0 else s) s) i = true →
    Nat.testBit s i = true ∨ ∃ e ∈ es, Region.binds .any e = true ∧ (e.on = i ∨ Nat.testBit (A.getD e.on 0) i = true) := by
  induction es with
  | nil => intro s i h; exact .inl h
  | cons e es ih =>
    intro s i h
    simp only [List.foldl_cons] at h
    rcases ih _ i h with h | ⟨e', he', hb, h⟩
    · by_cases hb : Region.binds .any e = true
      · rw [if_pos hb] at h
        simp only [Nat.testBit_or, Bool.or_eq_true] at h
        rcases h with (h | h) | h
        · exact .inl h
        · refine .inr ⟨e, by simp, hb, .inl ?_⟩
          rw [Nat.testBit_two_pow] at h
          simpa using h
        · exact .inr ⟨e, by simp, hb, .inr h⟩
      · rw [if_neg hb] at h; exact .inl h
    · exact .inr ⟨e', by simp [he'], hb, h⟩

/-- Each that is ahead is ahead by an edge, or ahead of one that is. -/
def Chained (ops : List Oper) (A : Array Nat) : Prop :=
  ∀ j, j < A.size → ∀ i, Nat.testBit (A.getD j 0) i = true → ∃ o, ops[j]? = some o ∧ ∃ e ∈ o.after.toList, Region.binds .any e = true ∧ (e.on = i ∨ (e.on < j ∧ Nat.testBit (A.getD e.on 0) i = true))

theorem chained_fold : ∀ (l done : List Oper) (A : Array Nat), A.size = done.length → Chained (done ++ l) A →
    Chained (done ++ l) (l.foldl (fun acc o => acc.push (o.after.foldl (fun s e => if Region.binds .any e then s ||| 2 ^ e.on ||| acc.getD e.on 0 else s) 0)) A) ∧
    (l.foldl (fun acc o => acc.push (o.after.foldl (fun s e => if Region.binds .any e then s ||| 2 ^ e.on ||| acc.getD e.on 0 else s) 0)) A).size = done.length + l.length
  | [], done, A, hs, h => ⟨by simpa using h, by simpa using hs⟩
  | o :: l, done, A, hs, h => by
    simp only [List.foldl_cons]
    have h2 : Chained ((done ++ [o]) ++ l) (A.push (o.after.foldl (fun s e => if Region.binds .any e then s ||| 2 ^ e.on ||| A.getD e.on 0 else s) 0)) := by
      rw [List.append_assoc]
      intro j hj i hb
      simp only [Array.size_push] at hj
      have hlow : ∀ k, k < A.size → (A.push (o.after.foldl (fun s e => if Region.binds .any e then s ||| 2 ^ e.on ||| A.getD e.on 0 else s) 0)).getD k 0 = A.getD k 0 := by
        intro k hk
        simp only [Array.getD_eq_getD_getElem?, Array.getElem?_push]
        rw [if_neg (by omega)]
      have hz : ∀ k, Nat.testBit (A.getD k 0) i = true → k < A.size := by
        intro k hk
        apply Nat.lt_of_not_le
        intro hle
        simp only [Array.getD_eq_getD_getElem?, Array.getElem?_eq_none hle, Option.getD_none, Nat.zero_testBit, reduceCtorEq] at hk
      by_cases hjk : j < A.size
      · rw [hlow j hjk] at hb
        obtain ⟨o', ho', e, he, hbi, hor⟩ := h j hjk i hb
        refine ⟨o', ho', e, he, hbi, hor.imp id fun ⟨q1, q2⟩ => ⟨q1, ?_⟩⟩
        rw [hlow e.on (by omega)]; exact q2
      · have hjeq : j = A.size := by omega
        subst hjeq
        have hv : (A.push (o.after.foldl (fun s e => if Region.binds .any e then s ||| 2 ^ e.on ||| A.getD e.on 0 else s) 0)).getD A.size 0 = o.after.foldl (fun s e => if Region.binds .any e then s ||| 2 ^ e.on ||| A.getD e.on 0 else s) 0 := by
          simp [Array.getD_eq_getD_getElem?]
        rw [hv, ← Array.foldl_toList] at hb
        rcases fold_bits A o.after.toList 0 i hb with hb | ⟨e, he, hbi, hor⟩
        · simp at hb
        · refine ⟨o, by simp [hs], e, he, hbi, hor.imp id fun q => ⟨hz _ q, ?_⟩⟩
          rw [hlow e.on (hz _ q)]; exact q
    obtain ⟨g1, g2⟩ := chained_fold l (done ++ [o]) _ (by simp [hs]) h2
    refine ⟨by simpa using g1, ?_⟩
    rw [g2]
    simp only [List.length_append, List.length_cons, List.length_nil]; omega

theorem before_chained (ops : Array Oper) : Chained ops.toList (Region.before ops) ∧ (Region.before ops).size = ops.size := by
  have := chained_fold ops.toList [] #[] rfl (fun j hj => by simp at hj)
  simp only [List.nil_append, List.length_nil, Nat.zero_add, Array.length_toList] at this
  have e : Region.before ops = ops.toList.foldl (fun acc o => acc.push (o.after.foldl (fun s e => if Region.binds .any e then s ||| 2 ^ e.on ||| acc.getD e.on 0 else s) 0)) #[] := by
    simp only [Region.before, ← Array.foldl_toList]
  rw [e]
  exact this

/-- Is the one ahead of the other? -/
def Ord (ops : Array Oper) (i j : Nat) : Prop := Nat.testBit ((Region.before ops).getD j 0) i = true

/-- What is listed is closed under the edges. -/
def Closed (ops : Array Oper) (L : Nat → Bool) : Prop := ∀ j o, ops[j]? = some o → L j = true → ∀ e ∈ o.after.toList, Region.binds .any e = true → L e.on = true

theorem closed_ord {ops : Array Oper} {L : Nat → Bool} (hL : Closed ops L) : ∀ (j : Nat), j < ops.size → ∀ i, Ord ops i j → (∀ o, ops[j]? = some o → ∀ e ∈ o.after.toList, Region.binds .any e = true → L e.on = true) → L i = true := by
  intro j
  induction j using Nat.strongRecOn with
  | _ j ih =>
    intro hj i hb hE
    obtain ⟨g1, g2⟩ := before_chained ops
    obtain ⟨o, ho, e, he, hbi, hor⟩ := g1 j (by rw [g2]; exact hj) i hb
    have ho' : ops[j]? = some o := by simpa using ho
    have hle := hE o ho' e he hbi
    rcases hor with rfl | ⟨hlt, hb'⟩
    · exact hle
    · exact ih e.on hlt (by omega) i hb' fun o' ho2 e' he' hbi' => hL e.on o' ho2 hle e' he' hbi'

/-! ### the run in the order of the text -/
theorem log_states {E : Env} {C : CallF} : ∀ (l : List AOper) (s s' : St) (log : List (AOper × St × Cls)), E.opsLog C l s = some (s', log) →
    ∃ S : Nat → St, S 0 = s ∧ S l.length = s' ∧ log.length = l.length ∧ ∀ k ao, l[k]? = some ao → ∃ c, log[k]? = some (ao, S k, c) ∧ E.one C ao (S k) = some (S (k + 1), c, none)
  | [], s, s', log, h => by
    simp only [Env.opsLog, Option.some.injEq, Prod.mk.injEq] at h
    obtain ⟨rfl, rfl⟩ := h
    exact ⟨fun _ => s, rfl, rfl, rfl, fun k ao h => by simp at h⟩
  | o :: l, s, s', log, h => by
    simp only [Env.opsLog, Option.bind_eq_some_iff] at h
    obtain ⟨⟨s1, c, p⟩, h1, h2⟩ := h
    cases p with
    | some v => cases h2
    | none =>
      simp only [Option.map_eq_some_iff] at h2
      obtain ⟨⟨r, lg⟩, h3, h4⟩ := h2
      simp only [Prod.mk.injEq] at h4
      obtain ⟨rfl, rfl⟩ := h4
      obtain ⟨S, g0, g1, g2, g3⟩ := log_states l s1 _ _ h3
      refine ⟨fun k => match k with | 0 => s | k + 1 => S k, rfl, g1, by simp [g2], fun k ao hk => ?_⟩
      cases k with
      | zero => simp at hk; subst hk; exact ⟨c, rfl, h1.trans (by show some (s1, c, none) = some (S 0, c, none); rw [g0])⟩
      | succ k => simp at hk; exact g3 k ao hk

/-- What a step of the text's run did. -/
structure Did (E : Env) (C : CallF) (ao : AOper) (s s' : St) (c : Cls) (v : AV) : Prop where
  put : s' = s.put ao.dst v s'.h
  how : (ao.wanted s.σ = true ∧ E.act C s.σ s.h ao.op = some (.ret ⟨v, s'.h, c⟩)) ∨ (ao.wanted s.σ = false ∧ v = .undef ∧ c = .none ∧ s'.h = s.h)

theorem one_did {E : Env} {C : CallF} {ao : AOper} {s s' : St} {c : Cls} (h : E.one C ao s = some (s', c, none)) : ∃ v, Did E C ao s s' c v := by
  unfold Env.one at h
  cases hw : ao.wanted s.σ with
  | true =>
    rw [hw] at h
    simp only [Option.map_eq_some_iff] at h
    obtain ⟨out, ho, h⟩ := h
    cases out with
    | panic v h' => simp only [Prod.mk.injEq, reduceCtorEq, and_false] at h
    | ret r =>
      simp only [Prod.mk.injEq, and_true] at h
      obtain ⟨rfl, rfl⟩ := h
      have hh : (s.put ao.dst r.v r.h).h = r.h := by cases hd : ao.dst <;> rfl
      exact ⟨r.v, by rw [hh], .inl ⟨hw, by rw [hh]; exact ho⟩⟩
  | false =>
    rw [hw] at h
    simp only [Option.some.injEq, Prod.mk.injEq, and_true] at h
    obtain ⟨rfl, rfl⟩ := h
    have hh : (s.put ao.dst .undef s.h).h = s.h := by cases hd : ao.dst <;> rfl
    exact ⟨.undef, by rw [hh], .inr ⟨hw, rfl, rfl, hh⟩⟩

/-! ### the slots, where so much has run -/
section
variable (σ0 : Slots) (dst : Nat → Option Nat) (v : Nat → AV)
def slotsAt (L : Nat → Bool) : Nat → Slots
  | 0 => σ0
  | k + 1 => match L k, dst k with
    | true, some d => (slotsAt L k).put d (v k)
    | _, _ => slotsAt L k

variable {σ0 dst v}
theorem slotsAt_get (L : Nat → Bool) (k t : Nat) : (slotsAt σ0 dst v L (k + 1)).get t = if L k = true ∧ dst k = some t then v k else (slotsAt σ0 dst v L k).get t := by
  simp only [slotsAt]
  cases hL : L k with
  | false => simp
  | true =>
    cases hd : dst k with
    | none => simp
    | some d =>
      simp only [Slots.get_put, true_and, Option.some.injEq]
      by_cases h : t = d
      · subst h; simp
      · rw [if_neg h, if_neg (fun e => h e.symm)]

/-- two listings that agree on whoever writes the slot -/
theorem slotsAt_agree {L L' : Nat → Bool} {t : Nat} : ∀ (n : Nat), (∀ k, k < n → dst k = some t → L k = L' k) → (slotsAt σ0 dst v L n).get t = (slotsAt σ0 dst v L' n).get t
  | 0, _ => rfl
  | n + 1, h => by
    rw [slotsAt_get, slotsAt_get, slotsAt_agree n (fun k hk => h k (by omega))]
    by_cases hd : dst n = some t
    · rw [h n (by omega) hd]
    · simp [hd]

/-- nobody behind writes the slot -/
theorem slotsAt_stop {L : Nat → Bool} {t i : Nat} : ∀ (n : Nat), i ≤ n → (∀ k, i ≤ k → k < n → dst k = some t → L k = false) → (slotsAt σ0 dst v L n).get t = (slotsAt σ0 dst v L i).get t := by
  intro n hin
  induction n with
  | zero => intro _; have : i = 0 := by omega
            subst this; rfl
  | succ n ih =>
    intro h
    by_cases he : i = n + 1
    · subst he; rfl
    · rw [slotsAt_get, ih (by omega) (fun k h1 h2 => h k h1 (by omega))]
      rw [if_neg]
      rintro ⟨h1, h2⟩
      have := h n (by omega) (by omega) h2
      rw [h1] at this; cases this
end

/-- how many are not listed -/
def left (L : Nat → Bool) : Nat → Nat
  | 0 => 0
  | n + 1 => left L n + (match L n with | true => 0 | false => 1)

theorem left_set {L L' : Nat → Bool} {i : Nat} (hi : L i = false) (hi' : L' i = true) (ho : ∀ k, k ≠ i → L' k = L k) : ∀ n, (i < n → left L' n + 1 = left L n) ∧ (n ≤ i → left L' n = left L n)
  | 0 => ⟨fun h => by omega, fun _ => rfl⟩
  | n + 1 => by
    obtain ⟨g1, g2⟩ := left_set hi hi' ho n
    refine ⟨fun h => ?_, fun h => ?_⟩
    · by_cases he : i = n
      · subst he
        simp only [left, hi, hi', g2 (Nat.le_refl _)]
      · have h1 := g1 (by omega)
        simp only [left, ho n (Ne.symm he)]
        omega
    · simp only [left, ho n (by omega), g2 (by omega)]

theorem left_zero {L : Nat → Bool} : ∀ n, left L n = 0 → ∀ k, k < n → L k = true
  | 0, _, k, hk => by omega
  | n + 1, h, k, hk => by
    simp only [left] at h
    by_cases he : k = n
    · subst he
      cases hL : L k with
      | true => rfl
      | false => rw [hL] at h; simp at h
    · exact left_zero n (by omega) k (by omega)

theorem left_none : ∀ n, left (fun _ => false) n = n
  | 0 => rfl
  | n + 1 => by simp [left, left_none n]
end Go.AM
