/-
  THE ABSTRACT MACHINE: more fuel changes no answer.
-/
import Derived.Test.YtaielgjmhbjfhaaGreatDoorAmWpc
set_option linter.unusedSimpArgs false
set_option linter.unusedVariables false
namespace Go.AM

def CLe (C C' : CallF) : Prop := ∀ f a h o, C f a h = some o → C' f a h = some o

section
variable {E : Env} {C C' : CallF}

theorem act_le (hc : CLe C C') {σ : Slots} {h : Heap} {op : AOp} {o : COut} (e : E.act C σ h op = some o) : E.act C' σ h op = some o := by
  by_cases hp : op.calls = false
  · rw [act_plain hp] at e ⊢; exact e
  · cases op <;> simp only [AOp.calls, not_true_eq_false] at hp
    case call f args =>
      simp only [Env.act, Option.bind_eq_some_iff] at e ⊢
      obtain ⟨l, h1, h2⟩ := e
      exact ⟨l, h1, hc _ _ _ _ h2⟩
    case callv f args =>
      simp only [Env.act, Option.bind_eq_some_iff] at e ⊢
      obtain ⟨fv, h1, h2⟩ := e
      refine ⟨fv, h1, ?_⟩
      cases fv with
      | fn g a b =>
        cases g with
        | func g =>
          simp only [Option.bind_eq_some_iff] at h2 ⊢
          obtain ⟨l, h3, h4⟩ := h2
          exact ⟨l, h3, hc _ _ _ _ h4⟩
        | _ => cases h2
      | _ => cases h2
    case panic x => exact e

theorem one_le (hc : CLe C C') {o : AOper} {s : St} {r : St × Cls × Option AV} (e : E.one C o s = some r) : E.one C' o s = some r := by
  unfold Env.one at e ⊢
  cases hw : o.wanted s.σ with
  | true =>
    rw [hw] at e
    simp only [Option.map_eq_some_iff] at e ⊢
    obtain ⟨a, h1, h2⟩ := e
    exact ⟨a, act_le hc h1, h2⟩
  | false => rw [hw] at e; exact e

theorem ops_le (hc : CLe C C') : ∀ {l : List AOper} {s : St} {r : AExit × St}, E.ops C l s = some r → E.ops C' l s = some r
  | [], _, _, e => e
  | o :: l, s, r, e => by
    simp only [Env.ops, Option.bind_eq_some_iff] at e ⊢
    obtain ⟨⟨s1, c, p⟩, h1, h2⟩ := e
    refine ⟨_, one_le hc h1, ?_⟩
    cases p with
    | none => exact ops_le hc h2
    | some v => exact h2

theorem opsLog_le (hc : CLe C C') : ∀ {l : List AOper} {s : St} {r : St × List (AOper × St × Cls)}, E.opsLog C l s = some r → E.opsLog C' l s = some r
  | [], _, _, e => e
  | o :: l, s, r, e => by
    simp only [Env.opsLog, Option.bind_eq_some_iff] at e ⊢
    obtain ⟨⟨s1, c, p⟩, h1, h2⟩ := e
    refine ⟨_, one_le hc h1, ?_⟩
    cases p with
    | none =>
      simp only [Option.map_eq_some_iff] at h2 ⊢
      obtain ⟨x, h3, h4⟩ := h2
      exact ⟨x, opsLog_le hc h3, h4⟩
    | some v => exact h2

theorem loop_le {f g : St → Option (AExit × St)} (hf : ∀ s r, f s = some r → g s = some r) : ∀ (n m : Nat), n ≤ m → ∀ {s : St} {r : AExit × St}, loopN f n s = some r → loopN g m s = some r
  | 0, _, _, _, _, e => by cases e
  | n + 1, 0, h, _, _, _ => by omega
  | n + 1, m + 1, h, s, r, e => by
    simp only [loopN, Option.bind_eq_some_iff] at e ⊢
    obtain ⟨⟨x, s1⟩, h1, h2⟩ := e
    refine ⟨_, hf _ _ h1, ?_⟩
    cases x with
    | norm => exact loop_le hf n m (by omega) h2
    | _ => exact h2

theorem code_le (hc : CLe C C') {n m : Nat} (hn : n ≤ m) : ∀ {c : AC} {s : St} {r : AExit × St}, E.code C n c s = some r → E.code C' m c s = some r
  | .skip, _, _, e => e
  | .ops l, _, _, e => ops_le hc e
  | .draw l b, s, r, e => by
    simp only [Env.code, Env.draws, Option.bind_eq_some_iff] at e ⊢
    obtain ⟨x, h1, h2⟩ := e
    exact ⟨x, opsLog_le hc h1, h2⟩
  | .seq a b, s, r, e => by
    simp only [Env.code, Option.bind_eq_some_iff] at e ⊢
    obtain ⟨⟨x, s1⟩, h1, h2⟩ := e
    refine ⟨_, code_le hc hn h1, ?_⟩
    cases x with
    | norm => exact code_le hc hn h2
    | _ => exact h2
  | .cond c x y, s, r, e => by
    simp only [Env.code, Option.bind_eq_some_iff] at e ⊢
    obtain ⟨v, h1, h2⟩ := e
    refine ⟨v, h1, ?_⟩
    cases v with
    | bool b => cases b <;> exact code_le hc hn h2
    | _ => cases h2
  | .block id b, s, r, e => by
    simp only [Env.code, Option.map_eq_some_iff] at e ⊢
    obtain ⟨x, h1, h2⟩ := e
    exact ⟨x, code_le hc hn h1, h2⟩
  | .loop b, s, r, e => by
    simp only [Env.code] at e ⊢
    exact loop_le (fun s r h => code_le (c := b) hc hn h) n m hn e
  | .exit id, _, _, e => e
  | .scope b, s, r, e => by
    simp only [Env.code] at e ⊢
    exact code_le hc hn e
  | .ret, _, _, e => e
  | .bad, _, _, e => by cases e

theorem mapM_le {α β : Type} {f g : α → Option β} (h : ∀ a b, f a = some b → g a = some b) : ∀ {l : List α} {r : List β}, l.mapM f = some r → l.mapM g = some r
  | [], _, e => e
  | a :: l, r, e => by
    rw [List.mapM_cons] at e ⊢
    simp only [Option.bind_eq_bind, Option.bind_eq_some_iff, Option.pure_def, Option.some.injEq] at e ⊢
    obtain ⟨b, h1, bs, h2, h3⟩ := e
    exact ⟨b, h a b h1, bs, mapM_le h h2, h3⟩

theorem freeze_le {h : Heap} : ∀ (n m : Nat), n ≤ m → ∀ {v u : AV}, freeze h n v = some u → freeze h m v = some u
  | 0, _, _, _, _, e => by cases e
  | n + 1, 0, hn, _, _, _ => by omega
  | n + 1, m + 1, hn, v, u, e => by
    have ih : ∀ a b, freeze h n a = some b → freeze h m a = some b := fun a b e => freeze_le n m (by omega) e
    unfold freeze at e ⊢
    cases hr : v.noRef with
    | true => rw [hr] at e; exact e
    | false =>
      rw [hr] at e
      dsimp only at e ⊢
      cases v <;> simp only [Option.bind_eq_some_iff, Option.map_eq_some_iff, reduceCtorEq] at e ⊢
      case ptr => obtain ⟨cs, h1, x, h2, h3⟩ := e; exact ⟨cs, h1, x, mapM_le ih h2, h3⟩
      case sl =>
        obtain ⟨cs, h1, h2⟩ := e
        refine ⟨cs, h1, ?_⟩
        split at h2
        · rename_i hle
          rw [if_pos hle]
          simp only [Option.map_eq_some_iff] at h2 ⊢
          obtain ⟨x, h3, h4⟩ := h2
          exact ⟨x, mapM_le ih h3, h4⟩
        · cases h2
      case fp => obtain ⟨x, h2, h3⟩ := e; exact ⟨x, mapM_le ih h2, h3⟩
      case fs => obtain ⟨x, h2, h3⟩ := e; exact ⟨x, mapM_le ih h2, h3⟩
      case ifc => obtain ⟨x, h2, h3⟩ := e; exact ⟨x, ih _ _ h2, h3⟩
      case agg => obtain ⟨x, h2, h3⟩ := e; exact ⟨x, mapM_le ih h2, h3⟩
      case tup => obtain ⟨x, h2, h3⟩ := e; exact ⟨x, mapM_le ih h2, h3⟩

theorem body_le (hc : CLe C C') {n m : Nat} (hn : n ≤ m) {fn : AFunc} {args : List AV} {h : Heap} {o : COut} (e : E.body C n fn args h = some o) : E.body C' m fn args h = some o := by
  simp only [Env.body, Option.bind_eq_some_iff] at e ⊢
  obtain ⟨x, h1, h2⟩ := e
  exact ⟨x, code_le hc hn h1, h2⟩

theorem call_le : ∀ (n m : Nat), n ≤ m → CLe (E.call n) (E.call m)
  | 0, _, _ => fun f a h o e => by cases e
  | n + 1, 0, hn => by omega
  | n + 1, m + 1, hn => by
    have ih := call_le n m (by omega)
    intro f a h o e
    simp only [Env.call] at e ⊢
    cases hp : E.prim f with
    | some p => rw [hp] at e; exact e
    | none =>
      rw [hp] at e
      simp only [Option.bind_eq_some_iff] at e ⊢
      obtain ⟨fn, h1, h2⟩ := e
      refine ⟨fn, h1, ?_⟩
      cases hu : E.pure_ f with
      | false => rw [hu] at h2; exact body_le ih (by omega) h2
      | true =>
        rw [hu] at h2
        cases hr : AV.noRefs a with
        | false => rw [hr] at h2; exact body_le ih (by omega) h2
        | true =>
          rw [hr] at h2
          simp only [Option.bind_eq_some_iff] at h2 ⊢
          obtain ⟨x, h3, h4⟩ := h2
          refine ⟨x, body_le ih (by omega) h3, ?_⟩
          cases x with
          | panic v h' => cases h4
          | ret r =>
            simp only [Option.map_eq_some_iff] at h4 ⊢
            obtain ⟨u, h5, h6⟩ := h4
            exact ⟨u, freeze_le n m (by omega) h5, h6⟩

/-- one run is enough -/
theorem wc_run {n f : Nat} {args : List AV} {h : Heap} {o : COut} (e : E.call n f args h = some o) : WC E f args h (fun x => x = o) :=
  ⟨o, ⟨n, fun m hm => call_le n m hm _ _ _ _ e⟩, rfl⟩

/-- and a call that ends so has a run -/
theorem run_of_wc {f : Nat} {args : List AV} {h : Heap} {Q : COut → Prop} (k : WC E f args h Q) : ∃ n o, E.call n f args h = some o ∧ Q o := by
  obtain ⟨o, ⟨n, hn⟩, hq⟩ := k
  exact ⟨n, o, hn n (Nat.le_refl _), hq⟩
end
end Go.AM
