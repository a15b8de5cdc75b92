/-
  THE ABSTRACT MACHINE AND THE MODEL: regions, code, functions.
-/
import Derived.Test.YtaielgjmhbjfhaaGreatDoorAmCode
import Derived.Orders
set_option linter.unusedSimpArgs false
set_option linter.unusedVariables false
namespace Go.AM
open Go.RowKit

section
variable {B : Nat} {w0 : World} {E : Env} {P : Program}

theorem act_wp {X : RX} {o : Oper} {a : Act} {out : COut} (h : Comes1 B w0 E X P (execOp a.eval o) out) (hR : Rel B w0 E X) {K : Act → World → Prop} {Q : Exit → Act → World → Prop}
    (hK : ∀ r, out = .ret r → ∀ X' v', Rel B w0 E X' → Ext X X' → X'.h = r.h → VRel X' r.v v' → K (a.put o.dst v') X'.w)
    (hQ : ∀ v h, out = .panic v h → ∀ X' v', Rel B w0 E X' → Ext X X' → X'.h = h → VRel X' v v' → Q (.panic (chainOf v')) a X'.w) : o.wp P a X.w K Q := by
  unfold Oper.wp
  cases h with
  | val r hv =>
    obtain ⟨X', v', h1, h2, h3, h4, h5⟩ := hv
    rcases h1 with h1 | ⟨h1, rfl⟩
    · rw [h1, Oper.upon_value]
      exact hK r rfl X' v' h3 h4 h2 h5
    · rw [h1, Oper.upon_skip]
      exact hK r rfl X' _ h3 h4 h2 h5
  | call f args out hr hc =>
    rw [hr, Oper.upon_enter]
    refine hc.mono fun e w' he => ?_
    cases out with
    | ret r =>
      obtain ⟨X', v', rfl, g2, g3, g4, g5, rfl⟩ := he
      exact hK r rfl X' v' g3 g4 g2 g5
    | panic v h =>
      obtain ⟨X', v', rfl, g2, g3, g4, g5, rfl⟩ := he
      exact hQ v h rfl X' v' g3 g4 g2 g5
  | panic v v' hr hv =>
    rw [hr, Oper.upon_panic]
    exact hQ v X.h rfl X v' hR (Ext.refl X) rfl hv

theorem trOper_inv {n : Nat} {fz : TypeId → Bool} {thaw : Nat → Bool} {ops : Array Oper} {o : Oper} (hb : (trOper P n fz thaw ops o).op ≠ .bad) :
    (∃ fr, trOp P fr o.op = some (trOper P n fz thaw ops o).op) ∧ (trOper P n fz thaw ops o).dst = o.dst ∧ trGuard ops o.guard = some (trOper P n fz thaw ops o).guard ∧ ∀ d, o.dst = some d → d < n := by
  unfold trOper at hb ⊢
  split at hb
  · rename_i g hg hd
    simp only [hg, hd] at hb ⊢
    refine ⟨?_, trivial, trivial, fun d e => ?_⟩
    · cases ht : trOp P (still fz thaw ops o) o.op with
      | none => simp [ht] at hb
      | some ao => exact ⟨still fz thaw ops o, by simp [ht]⟩
    · rw [e] at hd
      simpa [Nat.blt_eq] using hd
  · exact absurd rfl hb

theorem SRel.bool {X : RX} {n : Nat} {σ : Slots} {tmps : Array Value} (k : SRel X n σ tmps) (t : Nat) : (match tmps[t]? with | some (.bool b) => some b | _ => none) = (match σ.get t with | .bool b => some b | _ => none) := by
  have h := k.get t
  simp only [Array.getD_eq_getD_getElem?] at h
  cases hg : tmps[t]? with
  | none =>
    rw [hg] at h
    simp only [Option.getD_none, Go.undef] at h
    generalize σ.get t = x at h
    cases h; rfl
  | some v =>
    rw [hg] at h
    simp only [Option.getD_some] at h
    generalize σ.get t = x at h
    cases h <;> rfl

theorem wanted_rel {X : RX} {n : Nat} {σ : Slots} {tmps : Array Value} (k : SRel X n σ tmps) {ops : Array Oper} {o : Oper} {g : Option (Nat × Bool)} (hg : trGuard ops o.guard = some g) (ao : AOper)
    (ha : ao.guard = g) : Region.wanted o (yielded ops tmps) = ao.wanted σ := by
  unfold Region.wanted AOper.wanted
  rw [ha]
  cases hgo : o.guard with
  | none => rw [hgo] at hg; simp only [trGuard, Option.some.injEq] at hg; subst hg; rfl
  | some jw =>
    obtain ⟨j, want⟩ := jw
    rw [hgo] at hg
    simp only [trGuard, Option.map_eq_some_iff] at hg
    obtain ⟨d, hd, rfl⟩ := hg
    have hb := k.bool d
    simp only [yielded, hd, Option.bind_some]
    cases hs : σ.get d with
    | bool b =>
      rw [hs] at hb
      cases ht : tmps[d]? with
      | none => rw [ht] at hb; cases hb
      | some v =>
        rw [ht] at hb
        cases v <;> simp only [Option.some.injEq, reduceCtorEq] at hb
        subst hb
        cases want <;> rename_i b' <;> cases b' <;> rfl
    | _ =>
      rw [hs] at hb
      cases ht : tmps[d]? with
      | none => cases want <;> rfl
      | some v =>
        rw [ht] at hb
        cases v <;> simp only [reduceCtorEq] at hb <;> cases want <;> rfl

theorem StRel.put {X X' : RX} (hE : Ext X X') {n : Nat} {s : St} {a : Act} (k : StRel X n s a) {dst : Option Nat} (hd : ∀ d, dst = some d → d < n) {v : AV} {v' : Value} (hv : VRel X' v v') {h : Heap} (hh : X'.h = h) :
    StRel X' n (s.put dst v h) (a.put dst v') := by
  cases dst with
  | none => exact ⟨hh, k.slots.ext hE, k.defers⟩
  | some d => exact ⟨hh, (k.slots.ext hE).put (hd d rfl) hv, k.defers⟩

/-- One operation of a region. -/
theorem one_sim {C : CallF} (hC : CallOk P E C) {X : RX} (hR : Rel B w0 E X) {n : Nat} {s : St} {a : Act} (k : StRel X n s a) {fz : TypeId → Bool} {thaw : Nat → Bool} {ops : Array Oper} {i : Nat} {o : Oper}
    (hi : ops[i]? = some o) {s' : St} {c : Cls} {p : Option AV} (h : E.one C (trOper P n fz thaw ops o) s = some (s', c, p)) {K : Act → World → Prop} {Q : Exit → Act → World → Prop}
    (hK : p = none → ∀ X' a', Rel B w0 E X' → Ext X X' → StRel X' n s' a' → K a' X'.w)
    (hQ : ∀ v, p = some v → ∀ X' v', Rel B w0 E X' → Ext X X' → StRel X' n s' a → VRel X' v v' → Q (.panic (chainOf v')) a X'.w) : wpOp P ops Q i K a X.w := by
  unfold wpOp
  simp only [hi]
  have hbad : (trOper P n fz thaw ops o).op ≠ .bad ∨ (trOper P n fz thaw ops o) = { dst := none, op := .bad, guard := none } ∨ (∃ g, (trOper P n fz thaw ops o) = { dst := o.dst, op := .bad, guard := g } ∧ trGuard ops o.guard = some g ∧ ∀ d, o.dst = some d → d < n) := by
    unfold trOper
    split
    · rename_i g hg hd
      cases ht : trOp P (still fz thaw ops o) o.op with
      | none => exact .inr (.inr ⟨g, by simp, hg, fun d e => by rw [e] at hd; simpa [Nat.blt_eq] using hd⟩)
      | some ao =>
        by_cases he : ao = .bad
        · exact .inr (.inr ⟨g, by simp [he], hg, fun d e => by rw [e] at hd; simpa [Nat.blt_eq] using hd⟩)
        · exact .inl (by simpa using he)
    · exact .inr (.inl rfl)
  -- what is not wanted
  have skip : ∀ g, (trOper P n fz thaw ops o).guard = g → (trOper P n fz thaw ops o).dst = o.dst → trGuard ops o.guard = some g → (∀ d, o.dst = some d → d < n) → (trOper P n fz thaw ops o).wanted s.σ = false →
      (if Region.wanted o (yielded ops a.tmps) then o.wp P a X.w K Q ∨ (o.asks P a X.w ∧ LetsOut Q) else K (a.put o.dst Go.undef) X.w) := by
    intro g hg hd hgo hdn hw
    have hwr := wanted_rel k.slots hgo (trOper P n fz thaw ops o) hg
    rw [hw] at hwr
    rw [if_neg (by simp [hwr])]
    unfold Env.one at h
    rw [hw] at h
    simp only [Option.some.injEq, Prod.mk.injEq] at h
    obtain ⟨rfl, _, rfl⟩ := h
    refine hK rfl X _ hR (Ext.refl X) ?_
    rw [hd]
    exact k.put (Ext.refl X) hdn VRel.undef k.heap
  rcases hbad with hbad | hbad | ⟨g, hbad, hgo, hdn⟩
  · obtain ⟨⟨fr, ht⟩, hd, hg, hdn⟩ := trOper_inv hbad
    cases hw : (trOper P n fz thaw ops o).wanted s.σ with
    | false => exact skip _ rfl hd hg hdn hw
    | true =>
      have hwr := wanted_rel k.slots hg (trOper P n fz thaw ops o) rfl
      rw [hw] at hwr
      rw [if_pos hwr]
      left
      unfold Env.one at h
      rw [hw] at h
      simp only [Option.map_eq_some_iff] at h
      obtain ⟨out, hout, h⟩ := h
      rw [← k.heap] at hout
      have hc := act_sim hC hR k.slots ht hout
      refine act_wp hc hR ?_ ?_
      · rintro r rfl X' v' g1 g2 g3 g4
        simp only [Prod.mk.injEq] at h
        obtain ⟨rfl, _, rfl⟩ := h
        refine hK rfl X' _ g1 g2 ?_
        rw [hd]
        exact k.put g2 hdn g4 g3
      · rintro v hh rfl X' v' g1 g2 g3 g4
        simp only [Prod.mk.injEq] at h
        obtain ⟨rfl, _, rfl⟩ := h
        exact hQ v rfl X' v' g1 g2 ⟨g3, k.slots.ext g2, k.defers⟩ g4
  · exfalso
    rw [hbad] at h
    simp [Env.one, AOper.wanted, Env.act, Env.op] at h
  · cases hw : (trOper P n fz thaw ops o).wanted s.σ with
    | false => exact skip g (by rw [hbad]) (by rw [hbad]) hgo hdn hw
    | true =>
      exfalso
      unfold Env.one at h
      rw [hw] at h
      rw [hbad] at h
      simp [Env.act, Env.op] at h

/-- A region in the order of the text, from its operation 'i' on. -/
theorem ops_sim {C : CallF} (hC : CallOk P E C) {n : Nat} {fz : TypeId → Bool} {thaw : Nat → Bool} {ops : Array Oper} : ∀ (l : List Oper) (i : Nat), ops.toList.drop i = l → ∀ {X : RX}, Rel B w0 E X → ∀ {s : St} {a : Act}, StRel X n s a →
    ∀ {e : AExit} {s' : St}, E.ops C (l.map (trOper P n fz thaw ops)) s = some (e, s') → ∀ {Q : Exit → Act → World → Prop}, (∀ e' a' w', CPost B w0 E X n e s' e' a' w' → Q e' a' w') →
    wpOps P ops Q ((List.range ops.size).drop i) a X.w
  | [], i, hl, X, hR, s, a, k, e, s', h, Q, hQ => by
    have hsz : ops.size ≤ i := by
      have := congrArg List.length hl
      simp at this; omega
    simp only [List.map_nil, Env.ops, Option.some.injEq, Prod.mk.injEq] at h
    obtain ⟨rfl, rfl⟩ := h
    rw [List.drop_eq_nil_of_le (by simpa using hsz)]
    exact hQ _ _ _ ⟨X, rfl, hR, Ext.refl X, k, .norm⟩
  | o :: l, i, hl, X, hR, s, a, k, e, s', h, Q, hQ => by
    have hlt : i < ops.size := by
      have := congrArg List.length hl
      simp at this; omega
    have hi : ops[i]? = some o := by
      have : (ops.toList.drop i)[0]? = some o := by rw [hl]; rfl
      simpa using this
    have hl' : ops.toList.drop (i + 1) = l := by
      have := congrArg List.tail hl
      simpa using this
    have hr : (List.range ops.size).drop i = i :: (List.range ops.size).drop (i + 1) := by
      rw [List.drop_eq_getElem_cons (by simpa using hlt)]
      simp
    rw [hr, wpOps_cons]
    simp only [List.map_cons, Env.ops, Option.bind_eq_some_iff] at h
    obtain ⟨⟨s1, c, p⟩, h1, h2⟩ := h
    refine one_sim hC hR k hi h1 ?_ ?_
    · rintro rfl X' a' g1 g2 g3
      exact ops_sim hC l (i + 1) hl' g1 g3 h2 fun e' a' w' hp => hQ _ _ _ (CPost.trans g2 hp)
    · rintro v rfl X' v' g1 g2 g3 g4
      simp only [Option.some.injEq, Prod.mk.injEq] at h2
      obtain ⟨rfl, rfl⟩ := h2
      exact hQ _ _ _ ⟨X', rfl, g1, g2, g3, .panic _ _ g4⟩

theorem region_sim {C : CallF} (hC : CallOk P E C) {n : Nat} {fz : TypeId → Bool} {thaw : Nat → Bool} {ops : Array Oper} {id : Nat} {X : RX} (hR : Rel B w0 E X) {s : St} {a : Act} (k : StRel X n s a)
    {e : AExit} {s' : St} (h : E.ops C (ops.toList.map (trOper P n fz thaw ops)) s = some (e, s')) : (Code.region id ops false).wp P (CPost B w0 E X n e s') a X.w := by
  refine wp_region ?_
  have := ops_sim hC ops.toList 0 (by simp) hR k h (Q := CPost B w0 E X n e s') (fun _ _ _ h => h)
  simpa using this

/-- What the regions that draw come to: shown apart. -/
def DrawOk (P : Program) (E : Env) (C : CallF) : Prop :=
  ∀ (B : Nat) (w0 : World) (n : Nat) (fz : TypeId → Bool) (thaw : Nat → Bool) (ops : Array Oper) (id : Nat) (X : RX) (s : St) (a : Act) (e : AExit) (s' : St), Rel B w0 E X → StRel X n s a →
    drawStatic ops (ops.toList.map (trOper P n fz thaw ops)) (Region.before ops).toList = true →
    E.draws C (ops.toList.map (trOper P n fz thaw ops)) (Region.before ops).toList s = some (e, s') → (Code.region id ops true).wp P (CPost B w0 E X n e s') a X.w

/-! ### loops -/
/-- The rounds of a loop, wherever it stands. -/
def Rounds (P : Program) (c : Code) (Q : Exit → Act → World → Prop) (a : Act) (w : World) : Prop :=
  ∀ (b : Frame) (k : List Item) (cs : List Frame), ∃ e a' w', Q e a' w' ∧ Arrives P (lone (b.at a (.code c :: .inLoop c :: k)) cs w) b k cs e a' w'

theorem wp_rounds {c : Code} {Q : Exit → Act → World → Prop} {a : Act} {w : World} (h : Rounds P c Q a w) : (Code.loop c).wp P Q a w := by
  intro b k cs
  obtain ⟨e, a', w', hq, harr⟩ := h b k cs
  exact ⟨e, a', w', hq, .of_steps (.one step_loop) harr⟩

theorem rounds_step {c : Code} {Q : Exit → Act → World → Prop} {a : Act} {w : World} (h : c.wp P (Exit.then (Rounds P c Q) Q) a w) : Rounds P c Q a w := by
  intro b k cs
  obtain ⟨e, a₁, w₁, hq, harr⟩ := h b (.inLoop c :: k) cs
  cases e with
  | normal =>
    obtain ⟨e₂, a₂, w₂, hq₂, harr₂⟩ := hq b k cs
    exact ⟨e₂, a₂, w₂, hq₂, .of_steps (Steps.trans harr (.one step_inLoop)) harr₂⟩
  | exit id => exact ⟨_, a₁, w₁, hq, .pass (x := .inLoop c) rfl (fun _ _ => .inl (by simp)) harr⟩
  | goto l => exact ⟨_, a₁, w₁, hq, .pass (x := .inLoop c) rfl (fun _ _ => .inl (by simp)) harr⟩
  | ret => exact ⟨_, a₁, w₁, hq, .pass (x := .inLoop c) rfl (fun _ _ => .inl (by simp)) harr⟩
  | panic ch => exact ⟨_, a₁, w₁, hq, .pass (x := .inLoop c) rfl (fun _ _ => .inl (by simp)) harr⟩
  | outgrown => exact ⟨_, a₁, w₁, hq, .pass (x := .inLoop c) rfl (fun _ _ => .inl (by simp)) harr⟩

theorem loop_sim {c : Code} {f : St → Option (AExit × St)} {n : Nat}
    (hf : ∀ {X : RX}, Rel B w0 E X → ∀ {s : St} {a : Act}, StRel X n s a → ∀ {e : AExit} {s' : St}, f s = some (e, s') → c.wp P (CPost B w0 E X n e s') a X.w) :
    ∀ (m : Nat) {X : RX}, Rel B w0 E X → ∀ {s : St} {a : Act}, StRel X n s a → ∀ {e : AExit} {s' : St}, loopN f m s = some (e, s') → Rounds P c (CPost B w0 E X n e s') a X.w
  | 0, X, hR, s, a, k, e, s', h => by simp [loopN] at h
  | m + 1, X, hR, s, a, k, e, s', h => by
    simp only [loopN, Option.bind_eq_some_iff] at h
    obtain ⟨⟨e1, s1⟩, h1, h2⟩ := h
    refine rounds_step (wp_mono (hf hR k h1) ?_)
    rintro e' a' w' ⟨X', rfl, g1, g2, g3, g4⟩
    have done : ∀ e1', ExitRel X' e e1' → s1 = s' → e1' ≠ .normal → Exit.then (Rounds P c (CPost B w0 E X n e s')) (CPost B w0 E X n e s') e1' a' X'.w := by
      rintro e1' he rfl hne
      have : CPost B w0 E X n e s1 e1' a' X'.w := ⟨X', rfl, g1, g2, g3, he⟩
      cases e1' <;> first | exact absurd rfl hne | exact this
    cases g4 with
    | norm =>
      have ih := loop_sim hf m g1 g3 h2
      show Rounds P c _ a' X'.w
      intro b kk cs
      obtain ⟨e2, a2, w2, hq, harr⟩ := ih b kk cs
      exact ⟨e2, a2, w2, CPost.trans g2 hq, harr⟩
    | ret => cases h2; exact done _ .ret rfl (by simp)
    | exit id => cases h2; exact done _ (.exit id) rfl (by simp)
    | panic v v' hv => cases h2; exact done _ (.panic v v' hv) rfl (by simp)

/-! ### code -/
theorem code_sim {C : CallF} (hC : CallOk P E C) (hD : DrawOk P E C) {n m : Nat} {fz : TypeId → Bool} {thaw : Nat → Bool} : ∀ (c : Code) {X : RX}, Rel B w0 E X → ∀ {s : St} {a : Act}, StRel X n s a →
    ∀ {e : AExit} {s' : St}, E.code C m (trCode P n fz thaw c) s = some (e, s') → c.wp P (CPost B w0 E X n e s') a X.w := by
  intro c
  induction c with
  | skip =>
    intro X hR s a k e s' h
    simp only [trCode, Env.code, Option.some.injEq, Prod.mk.injEq] at h
    obtain ⟨rfl, rfl⟩ := h
    exact wp_skip ⟨X, rfl, hR, Ext.refl X, k, .norm⟩
  | region id ops draw =>
    intro X hR s a k e s' h
    cases draw with
    | false => exact region_sim hC hR k h
    | true =>
      simp only [trCode] at h
      split at h
      · rename_i hst
        exact hD B w0 n fz thaw ops id X s a e s' hR k hst h
      · simp [Env.code] at h
  | seq x y ihx ihy =>
    intro X hR s a k e s' h
    simp only [trCode, Env.code, Option.bind_eq_some_iff] at h
    obtain ⟨⟨e1, s1⟩, h1, h2⟩ := h
    refine wp_seq (wp_mono (ihx hR k h1) ?_)
    rintro e' a' w' ⟨X', rfl, g1, g2, g3, g4⟩
    cases g4 with
    | norm => exact wp_mono (ihy g1 g3 h2) fun e' a' w' hp => CPost.trans g2 hp
    | ret => cases h2; exact ⟨X', rfl, g1, g2, g3, .ret⟩
    | exit id => cases h2; exact ⟨X', rfl, g1, g2, g3, .exit id⟩
    | panic v v' hv => cases h2; exact ⟨X', rfl, g1, g2, g3, .panic v v' hv⟩
  | cond c x y ihx ihy =>
    intro X hR s a k e s' h
    simp only [trCode] at h
    cases hc : trOpd c with
    | none => rw [hc] at h; simp [Env.code] at h
    | some c' =>
      rw [hc] at h
      simp only [Env.code, Option.bind_eq_some_iff] at h
      obtain ⟨cv, hcv, h⟩ := h
      have hr := opd_rel hR k.slots hc hcv
      generalize hce : a.eval c = cc at hr
      cases hr with
      | bool b =>
        cases b with
        | true => exact wp_cond_true hce (ihx hR k h)
        | false => exact wp_cond_false hce (ihy hR k h)
      | _ => cases h
  | block id b ih =>
    intro X hR s a k e s' h
    simp only [trCode, Env.code, Option.map_eq_some_iff] at h
    obtain ⟨⟨e1, s1⟩, h1, h2⟩ := h
    refine wp_block (wp_mono (ih hR k h1) ?_)
    rintro e' a' w' ⟨X', rfl, g1, g2, g3, g4⟩
    cases g4 with
    | norm => cases h2; exact ⟨X', rfl, g1, g2, g3, .norm⟩
    | ret => cases h2; exact ⟨X', rfl, g1, g2, g3, .ret⟩
    | exit id' =>
      dsimp only at h2
      by_cases hid : id' = id
      · rw [if_pos hid] at h2
        cases h2
        simp only [Exit.inBlock, if_pos hid]
        exact ⟨X', rfl, g1, g2, g3, .norm⟩
      · rw [if_neg hid] at h2
        cases h2
        simp only [Exit.inBlock, if_neg hid]
        exact ⟨X', rfl, g1, g2, g3, .exit id'⟩
    | panic v v' hv => cases h2; exact ⟨X', rfl, g1, g2, g3, .panic v v' hv⟩
  | loop b ih =>
    intro X hR s a k e s' h
    simp only [trCode, Env.code] at h
    exact wp_rounds (loop_sim (f := E.code C m (trCode P n fz thaw b)) (fun hR _ _ k _ _ h => ih hR k h) m hR k h)
  | exit id =>
    intro X hR s a k e s' h
    simp only [trCode, Env.code, Option.some.injEq, Prod.mk.injEq] at h
    obtain ⟨rfl, rfl⟩ := h
    exact wp_exit ⟨X, rfl, hR, Ext.refl X, k, .exit id⟩
  | scope b ih =>
    intro X hR s a k e s' h
    simp only [trCode, Env.code] at h
    refine wp_scope_straight (wp_mono (ih hR k h) ?_)
    rintro e' a' w' ⟨X', rfl, g1, g2, g3, g4⟩
    have : CPost B w0 E X n e s' e' a' X'.w := ⟨X', rfl, g1, g2, g3, g4⟩
    cases g4 <;> exact this
  | label l =>
    intro X hR s a k e s' h
    simp only [trCode, Env.code, Option.some.injEq, Prod.mk.injEq] at h
    obtain ⟨rfl, rfl⟩ := h
    exact wp_label ⟨X, rfl, hR, Ext.refl X, k, .norm⟩
  | ret =>
    intro X hR s a k e s' h
    simp only [trCode, Env.code, Option.some.injEq, Prod.mk.injEq] at h
    obtain ⟨rfl, rfl⟩ := h
    exact wp_ret ⟨X, rfl, hR, Ext.refl X, k, .ret⟩
  | goto l => intro X hR s a k e s' h; simp [trCode, Env.code] at h
  | refuse w => intro X hR s a k e s' h; simp [trCode, Env.code] at h
  | rangeFunc f ps as b ih1 ih2 => intro X hR s a k e s' h; simp [trCode, Env.code] at h

/-! ### functions -/
structure EnvOk (P : Program) (E : Env) : Prop where
  func : ∀ f af, E.func f = some af → ∃ fn fz thaw, P.funcs[f]? = some fn ∧ trFunc P fz thaw fn = some af
  prim : ∀ f p, E.prim f = some p → Entered P f ∧ ∀ args h v h', p args h = some (v, h') → ∀ (B : Nat) (w0 : World) (X : RX) (cargs : List Value), Rel B w0 E X → X.h = h → VRels X args cargs →
    Calls P f cargs.toArray X.w (Outcome B w0 E X (.ret ⟨v, h', .write⟩))

theorem slots_ofList {X : RX} : ∀ (vs : List AV) (cs : List Value) (i : Nat) (σ : Slots) (tmps : Array Value) (n : Nat), VRels X vs cs → SRel X n σ tmps → i + cs.length ≤ n →
    SRel X n (Slots.ofList i vs σ) ((cs.zipIdx i).foldl (fun t x => t.setIfInBounds x.2 x.1) tmps)
  | _, _, i, σ, tmps, n, .nil, k, _ => k
  | _, _, i, σ, tmps, n, .cons v c vs cs hv hvs, k, hn => by
    simp only [Slots.ofList, List.zipIdx_cons, List.foldl_cons]
    simp only [List.length_cons] at hn
    exact slots_ofList vs cs (i + 1) _ _ n hvs (k.put (by omega) hv) (by omega)
end
end Go.AM
