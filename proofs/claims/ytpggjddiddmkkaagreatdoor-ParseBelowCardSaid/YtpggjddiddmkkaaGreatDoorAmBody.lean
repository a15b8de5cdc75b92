/-
  THE ABSTRACT MACHINE AND THE MODEL: functions, calls without addresses, all calls.
-/
import Derived.Test.YtpggjddiddmkkaaGreatDoorAmCode
import Derived.Orders
set_option linter.unusedSimpArgs false
set_option linter.unusedVariables false
namespace Go.AM
open Go.RowKit
section
variable {B : Nat} {w0 : World} {E : Env} {P : Program} {D : List Deferred}
theorem act_wp {X : RX} {o : Oper} {a : Act} {out : COut} (h : Comes1 B w0 E X P (execOp a.eval o) out) (hR : Rel B w0 E X) {K : Act → World → Prop} {Q : Exit → Act → World → Prop}
    (hK : ∀ r, out = .ret r → ∀ X' v', Rel B w0 E X' → Ext X X' → X'.h = r.h → VRel X' r.v v' → K (a.put o.dst v') X'.w)
    (hQ : ∀ v h, out = .panic v h → ∀ X' v', Rel B w0 E X' → Ext X X' → X'.h = h → VRel X' v v' → Q (.panic (chainOf v')) a X'.w) : o.wp P a X.w K Q := by
  unfold Oper.wp
  cases h with
  | val r hv =>
    obtain ⟨X', v', h1, h2, h3, h4, h5⟩ := hv
    rcases h1 with h1 | ⟨h1, rfl⟩
    · rw [h1, Oper.upon_value]
      exact hK r rfl X' v' h3 h4 h2 h5
    · rw [h1, Oper.upon_skip]
      exact hK r rfl X' _ h3 h4 h2 h5
  | call f args out hr hc =>
    rw [hr, Oper.upon_enter]
    refine hc.mono fun e w' he => ?_
    cases out with
    | ret r =>
      obtain ⟨X', v', rfl, g2, g3, g4, g5, rfl⟩ := he
      exact hK r rfl X' v' g3 g4 g2 g5
    | panic v h =>
      obtain ⟨X', v', rfl, g2, g3, g4, g5, rfl⟩ := he
      exact hQ v h rfl X' v' g3 g4 g2 g5
  | panic v v' hr hv =>
    rw [hr, Oper.upon_panic]
    exact hQ v X.h rfl X v' hR (Ext.refl X) rfl hv
theorem trOper_inv {n : Nat} {fz : TypeId → Bool} {thaw : Nat → Bool} {ops : Array Oper} {o : Oper} (hb : (trOper P n fz thaw ops o).op ≠ .bad) :
    (∃ fr, trOp P fr o.op = some (trOper P n fz thaw ops o).op) ∧ (trOper P n fz thaw ops o).dst = o.dst ∧ trGuard ops o.guard = some (trOper P n fz thaw ops o).guard ∧ ∀ d, o.dst = some d → d < n := by
  unfold trOper at hb ⊢
  split at hb
  · rename_i g hg hd
    simp only [hg, hd] at hb ⊢
    refine ⟨?_, trivial, trivial, fun d e => ?_⟩
    · cases ht : trOp P (still fz thaw ops o) o.op with
      | none => simp [ht] at hb
      | some ao => exact ⟨still fz thaw ops o, by simp [ht]⟩
    · rw [e] at hd
      simpa [Nat.blt_eq] using hd
  · exact absurd rfl hb
theorem SRel.bool {X : RX} {n : Nat} {σ : Slots} {tmps : Array Value} (k : SRel X n σ tmps) (t : Nat) : (match tmps[t]? with | some (.bool b) => some b | _ => none) = (match σ.get t with | .bool b => some b | _ => none) := by
  have h := k.get t
  simp only [Array.getD_eq_getD_getElem?] at h
  cases hg : tmps[t]? with
  | none =>
    rw [hg] at h
    simp only [Option.getD_none, Go.undef] at h
    generalize σ.get t = x at h
    cases h; rfl
  | some v =>
    rw [hg] at h
    simp only [Option.getD_some] at h
    generalize σ.get t = x at h
    cases h <;> rfl
theorem wanted_rel {X : RX} {n : Nat} {σ : Slots} {tmps : Array Value} (k : SRel X n σ tmps) {ops : Array Oper} {o : Oper} {g : Option (Nat × Bool)} (hg : trGuard ops o.guard = some g) (ao : AOper)
    (ha : ao.guard = g) : Region.wanted o (yielded ops tmps) = ao.wanted σ := by
  unfold Region.wanted AOper.wanted
  rw [ha]
  cases hgo : o.guard with
  | none => rw [hgo] at hg; simp only [trGuard, Option.some.injEq] at hg; subst hg; rfl
  | some jw =>
    obtain ⟨j, want⟩ := jw
    rw [hgo] at hg
    simp only [trGuard, Option.map_eq_some_iff] at hg
    obtain ⟨d, hd, rfl⟩ := hg
    have hb := k.bool d
    simp only [yielded, hd, Option.bind_some]
    cases hs : σ.get d with
    | bool b =>
      rw [hs] at hb
      cases ht : tmps[d]? with
      | none => rw [ht] at hb; cases hb
      | some v =>
        rw [ht] at hb
        cases v <;> simp only [Option.some.injEq, reduceCtorEq] at hb
        subst hb
        cases want <;> rename_i b' <;> cases b' <;> rfl
    | _ =>
      rw [hs] at hb
      cases ht : tmps[d]? with
      | none => cases want <;> rfl
      | some v =>
        rw [ht] at hb
        cases v <;> simp only [reduceCtorEq] at hb <;> cases want <;> rfl
theorem StRel.put {X X' : RX} (hE : Ext X X') {n : Nat} {s : St} {a : Act} (k : StRel D X n s a) {dst : Option Nat} (hd : ∀ d, dst = some d → d < n) {v : AV} {v' : Value} (hv : VRel X' v v') {h : Heap} (hh : X'.h = h) :
    StRel D X' n (s.put dst v h) (a.put dst v') := by
  cases dst with
  | none => exact ⟨hh, k.slots.ext hE, k.defers⟩
  | some d => exact ⟨hh, (k.slots.ext hE).put (hd d rfl) hv, k.defers⟩
/-- One operation of a region. -/
theorem one_sim {C : CallF} (hC : CallOk P E C) {X : RX} (hR : Rel B w0 E X) {n : Nat} {s : St} {a : Act} (k : StRel D X n s a) {fz : TypeId → Bool} {thaw : Nat → Bool} {ops : Array Oper} {i : Nat} {o : Oper}
    (hi : ops[i]? = some o) {s' : St} {c : Cls} {p : Option AV} (h : E.one C (trOper P n fz thaw ops o) s = some (s', c, p)) {K : Act → World → Prop} {Q : Exit → Act → World → Prop}
    (hK : p = none → ∀ X' a', Rel B w0 E X' → Ext X X' → StRel D X' n s' a' → K a' X'.w)
    (hQ : ∀ v, p = some v → ∀ X' v', Rel B w0 E X' → Ext X X' → StRel D X' n s' a → VRel X' v v' → Q (.panic (chainOf v')) a X'.w) : wpOp P ops Q i K a X.w := by
  unfold wpOp
  simp only [hi]
  have hbad : (trOper P n fz thaw ops o).op ≠ .bad ∨ (trOper P n fz thaw ops o) = { dst := none, op := .bad, guard := none } ∨ (∃ g, (trOper P n fz thaw ops o) = { dst := o.dst, op := .bad, guard := g } ∧ trGuard ops o.guard = some g ∧ ∀ d, o.dst = some d → d < n) := by
    unfold trOper
    split
    · rename_i g hg hd
      cases ht : trOp P (still fz thaw ops o) o.op with
      | none => exact .inr (.inr ⟨g, by simp, hg, fun d e => by rw [e] at hd; simpa [Nat.blt_eq] using hd⟩)
      | some ao =>
        by_cases he : ao = .bad
        · exact .inr (.inr ⟨g, by simp [he], hg, fun d e => by rw [e] at hd; simpa [Nat.blt_eq] using hd⟩)
        · exact .inl (by simpa using he)
    · exact .inr (.inl rfl)
  -- what is not wanted
  have skip : ∀ g, (trOper P n fz thaw ops o).guard = g → (trOper P n fz thaw ops o).dst = o.dst → trGuard ops o.guard = some g → (∀ d, o.dst = some d → d < n) → (trOper P n fz thaw ops o).wanted s.σ = false →
      (if Region.wanted o (yielded ops a.tmps) then o.wp P a X.w K Q ∨ (o.asks P a X.w ∧ LetsOut Q) else K (a.put o.dst Go.undef) X.w) := by
    intro g hg hd hgo hdn hw
    have hwr := wanted_rel k.slots hgo (trOper P n fz thaw ops o) hg
    rw [hw] at hwr
    rw [if_neg (by simp [hwr])]
    unfold Env.one at h
    rw [hw] at h
    simp only [Option.some.injEq, Prod.mk.injEq] at h
    obtain ⟨rfl, _, rfl⟩ := h
    refine hK rfl X _ hR (Ext.refl X) ?_
    rw [hd]
    exact k.put (Ext.refl X) hdn VRel.undef k.heap
  rcases hbad with hbad | hbad | ⟨g, hbad, hgo, hdn⟩
  · obtain ⟨⟨fr, ht⟩, hd, hg, hdn⟩ := trOper_inv hbad
    cases hw : (trOper P n fz thaw ops o).wanted s.σ with
    | false => exact skip _ rfl hd hg hdn hw
    | true =>
      have hwr := wanted_rel k.slots hg (trOper P n fz thaw ops o) rfl
      rw [hw] at hwr
      rw [if_pos hwr]
      left
      unfold Env.one at h
      rw [hw] at h
      simp only [Option.map_eq_some_iff] at h
      obtain ⟨out, hout, h⟩ := h
      rw [← k.heap] at hout
      have hc := act_sim hC hR k.slots ht hout
      refine act_wp hc hR ?_ ?_
      · rintro r rfl X' v' g1 g2 g3 g4
        simp only [Prod.mk.injEq] at h
        obtain ⟨rfl, _, rfl⟩ := h
        refine hK rfl X' _ g1 g2 ?_
        rw [hd]
        exact k.put g2 hdn g4 g3
      · rintro v hh rfl X' v' g1 g2 g3 g4
        simp only [Prod.mk.injEq] at h
        obtain ⟨rfl, _, rfl⟩ := h
        exact hQ v rfl X' v' g1 g2 ⟨g3, k.slots.ext g2, k.defers⟩ g4
  · exfalso
    rw [hbad] at h
    simp [Env.one, AOper.wanted, Env.act, Env.op] at h
  · cases hw : (trOper P n fz thaw ops o).wanted s.σ with
    | false => exact skip g (by rw [hbad]) (by rw [hbad]) hgo hdn hw
    | true =>
      exfalso
      unfold Env.one at h
      rw [hw] at h
      rw [hbad] at h
      simp [Env.act, Env.op] at h
/-- A region in the order of the text, from its operation 'i' on. -/
theorem ops_sim {C : CallF} (hC : CallOk P E C) {n : Nat} {fz : TypeId → Bool} {thaw : Nat → Bool} {ops : Array Oper} : ∀ (l : List Oper) (i : Nat), ops.toList.drop i = l → ∀ {X : RX}, Rel B w0 E X → ∀ {s : St} {a : Act}, StRel D X n s a →
    ∀ {e : AExit} {s' : St}, E.ops C (l.map (trOper P n fz thaw ops)) s = some (e, s') → ∀ {Q : Exit → Act → World → Prop}, (∀ e' a' w', CPost D B w0 E X n e s' e' a' w' → Q e' a' w') →
    wpOps P ops Q ((List.range ops.size).drop i) a X.w
  | [], i, hl, X, hR, s, a, k, e, s', h, Q, hQ => by
    have hsz : ops.size ≤ i := by
      have := congrArg List.length hl
      simp at this; omega
    simp only [List.map_nil, Env.ops, Option.some.injEq, Prod.mk.injEq] at h
    obtain ⟨rfl, rfl⟩ := h
    rw [List.drop_eq_nil_of_le (by simpa using hsz)]
    exact hQ _ _ _ ⟨X, rfl, hR, Ext.refl X, k, .norm⟩
  | o :: l, i, hl, X, hR, s, a, k, e, s', h, Q, hQ => by
    have hlt : i < ops.size := by
      have := congrArg List.length hl
      simp at this; omega
    have hi : ops[i]? = some o := by
      have : (ops.toList.drop i)[0]? = some o := by rw [hl]; rfl
      simpa using this
    have hl' : ops.toList.drop (i + 1) = l := by
      have := congrArg List.tail hl
      simpa using this
    have hr : (List.range ops.size).drop i = i :: (List.range ops.size).drop (i + 1) := by
      rw [List.drop_eq_getElem_cons (by simpa using hlt)]
      simp
    rw [hr, wpOps_cons]
    simp only [List.map_cons, Env.ops, Option.bind_eq_some_iff] at h
    obtain ⟨⟨s1, c, p⟩, h1, h2⟩ := h
    refine one_sim hC hR k hi h1 ?_ ?_
    · rintro rfl X' a' g1 g2 g3
      exact ops_sim hC l (i + 1) hl' g1 g3 h2 fun e' a' w' hp => hQ _ _ _ (CPost.trans g2 hp)
    · rintro v rfl X' v' g1 g2 g3 g4
      simp only [Option.some.injEq, Prod.mk.injEq] at h2
      obtain ⟨rfl, rfl⟩ := h2
      exact hQ _ _ _ ⟨X', rfl, g1, g2, g3, .panic _ _ g4⟩
theorem region_sim {C : CallF} (hC : CallOk P E C) {n : Nat} {fz : TypeId → Bool} {thaw : Nat → Bool} {ops : Array Oper} {id : Nat} {X : RX} (hR : Rel B w0 E X) {s : St} {a : Act} (k : StRel D X n s a)
    {e : AExit} {s' : St} (h : E.ops C (ops.toList.map (trOper P n fz thaw ops)) s = some (e, s')) : (Code.region id ops false).wp P (CPost D B w0 E X n e s') a X.w := by
  refine wp_region ?_
  have := ops_sim hC ops.toList 0 (by simp) hR k h (Q := CPost D B w0 E X n e s') (fun _ _ _ h => h)
  simpa using this
/-- What the regions that draw come to: shown apart. -/
def DrawOk (P : Program) (E : Env) (C : CallF) : Prop :=
  ∀ (D : List Deferred) (B : Nat) (w0 : World) (n : Nat) (fz : TypeId → Bool) (thaw : Nat → Bool) (ops : Array Oper) (id : Nat) (X : RX) (s : St) (a : Act) (e : AExit) (s' : St), Rel B w0 E X → StRel D X n s a →
    drawStatic ops (ops.toList.map (trOper P n fz thaw ops)) (Region.before ops).toList = true →
    E.draws C (ops.toList.map (trOper P n fz thaw ops)) (Region.before ops).toList s = some (e, s') → (Code.region id ops true).wp P (CPost D B w0 E X n e s') a X.w
/-- The rounds of a loop, wherever it stands. -/
def Rounds (P : Program) (c : Code) (Q : Exit → Act → World → Prop) (a : Act) (w : World) : Prop :=
  ∀ (b : Frame) (k : List Item) (cs : List Frame), ∃ e a' w', Q e a' w' ∧ Arrives P (lone (b.at a (.code c :: .inLoop c :: k)) cs w) b k cs e a' w'
theorem wp_rounds {c : Code} {Q : Exit → Act → World → Prop} {a : Act} {w : World} (h : Rounds P c Q a w) : (Code.loop c).wp P Q a w := by
  intro b k cs
  obtain ⟨e, a', w', hq, harr⟩ := h b k cs
  exact ⟨e, a', w', hq, .of_steps (.one step_loop) harr⟩
theorem rounds_step {c : Code} {Q : Exit → Act → World → Prop} {a : Act} {w : World} (h : c.wp P (Exit.then (Rounds P c Q) Q) a w) : Rounds P c Q a w := by
  intro b k cs
  obtain ⟨e, a₁, w₁, hq, harr⟩ := h b (.inLoop c :: k) cs
  cases e with
  | normal =>
    obtain ⟨e₂, a₂, w₂, hq₂, harr₂⟩ := hq b k cs
    exact ⟨e₂, a₂, w₂, hq₂, .of_steps (Steps.trans harr (.one step_inLoop)) harr₂⟩
  | exit id => exact ⟨_, a₁, w₁, hq, .pass (x := .inLoop c) rfl (fun _ _ => .inl (by simp)) harr⟩
  | goto l => exact ⟨_, a₁, w₁, hq, .pass (x := .inLoop c) rfl (fun _ _ => .inl (by simp)) harr⟩
  | ret => exact ⟨_, a₁, w₁, hq, .pass (x := .inLoop c) rfl (fun _ _ => .inl (by simp)) harr⟩
  | panic ch => exact ⟨_, a₁, w₁, hq, .pass (x := .inLoop c) rfl (fun _ _ => .inl (by simp)) harr⟩
  | outgrown => exact ⟨_, a₁, w₁, hq, .pass (x := .inLoop c) rfl (fun _ _ => .inl (by simp)) harr⟩
theorem loop_sim {c : Code} {f : St → Option (AExit × St)} {n : Nat}
    (hf : ∀ {X : RX}, Rel B w0 E X → ∀ {s : St} {a : Act}, StRel D X n s a → ∀ {e : AExit} {s' : St}, f s = some (e, s') → c.wp P (CPost D B w0 E X n e s') a X.w) :
    ∀ (m : Nat) {X : RX}, Rel B w0 E X → ∀ {s : St} {a : Act}, StRel D X n s a → ∀ {e : AExit} {s' : St}, loopN f m s = some (e, s') → Rounds P c (CPost D B w0 E X n e s') a X.w
  | 0, X, hR, s, a, k, e, s', h => by simp [loopN] at h
  | m + 1, X, hR, s, a, k, e, s', h => by
    simp only [loopN, Option.bind_eq_some_iff] at h
    obtain ⟨⟨e1, s1⟩, h1, h2⟩ := h
    refine rounds_step (wp_mono (hf hR k h1) ?_)
    rintro e' a' w' ⟨X', rfl, g1, g2, g3, g4⟩
    have done : ∀ e1', ExitRel X' e e1' → s1 = s' → e1' ≠ .normal → Exit.then (Rounds P c (CPost D B w0 E X n e s')) (CPost D B w0 E X n e s') e1' a' X'.w := by
      rintro e1' he rfl hne
      have : CPost D B w0 E X n e s1 e1' a' X'.w := ⟨X', rfl, g1, g2, g3, he⟩
      cases e1' <;> first | exact absurd rfl hne | exact this
    cases g4 with
    | norm =>
      have ih := loop_sim hf m g1 g3 h2
      show Rounds P c _ a' X'.w
      intro b kk cs
      obtain ⟨e2, a2, w2, hq, harr⟩ := ih b kk cs
      exact ⟨e2, a2, w2, CPost.trans g2 hq, harr⟩
    | ret => cases h2; exact done _ .ret rfl (by simp)
    | exit id => cases h2; exact done _ (.exit id) rfl (by simp)
    | panic v v' hv => cases h2; exact done _ (.panic v v' hv) rfl (by simp)
theorem code_sim {C : CallF} (hC : CallOk P E C) (hD : DrawOk P E C) {n m : Nat} {fz : TypeId → Bool} {thaw : Nat → Bool} : ∀ (c : Code) {X : RX}, Rel B w0 E X → ∀ {s : St} {a : Act}, StRel D X n s a →
    ∀ {e : AExit} {s' : St}, E.code C m (trCode P n fz thaw c) s = some (e, s') → c.wp P (CPost D B w0 E X n e s') a X.w := by
  intro c
  induction c with
  | skip =>
    intro X hR s a k e s' h
    simp only [trCode, Env.code, Option.some.injEq, Prod.mk.injEq] at h
    obtain ⟨rfl, rfl⟩ := h
    exact wp_skip ⟨X, rfl, hR, Ext.refl X, k, .norm⟩
  | region id ops draw =>
    intro X hR s a k e s' h
    cases draw with
    | false => exact region_sim hC hR k h
    | true =>
      simp only [trCode] at h
      split at h
      · rename_i hst
        exact hD D B w0 n fz thaw ops id X s a e s' hR k hst h
      · simp [Env.code] at h
  | seq x y ihx ihy =>
    intro X hR s a k e s' h
    simp only [trCode, Env.code, Option.bind_eq_some_iff] at h
    obtain ⟨⟨e1, s1⟩, h1, h2⟩ := h
    refine wp_seq (wp_mono (ihx hR k h1) ?_)
    rintro e' a' w' ⟨X', rfl, g1, g2, g3, g4⟩
    cases g4 with
    | norm => exact wp_mono (ihy g1 g3 h2) fun e' a' w' hp => CPost.trans g2 hp
    | ret => cases h2; exact ⟨X', rfl, g1, g2, g3, .ret⟩
    | exit id => cases h2; exact ⟨X', rfl, g1, g2, g3, .exit id⟩
    | panic v v' hv => cases h2; exact ⟨X', rfl, g1, g2, g3, .panic v v' hv⟩
  | cond c x y ihx ihy =>
    intro X hR s a k e s' h
    simp only [trCode] at h
    cases hc : trOpd c with
    | none => rw [hc] at h; simp [Env.code] at h
    | some c' =>
      rw [hc] at h
      simp only [Env.code, Option.bind_eq_some_iff] at h
      obtain ⟨cv, hcv, h⟩ := h
      have hr := opd_rel hR k.slots hc hcv
      generalize hce : a.eval c = cc at hr
      cases hr with
      | bool b =>
        cases b with
        | true => exact wp_cond_true hce (ihx hR k h)
        | false => exact wp_cond_false hce (ihy hR k h)
      | _ => cases h
  | block id b ih =>
    intro X hR s a k e s' h
    simp only [trCode, Env.code, Option.map_eq_some_iff] at h
    obtain ⟨⟨e1, s1⟩, h1, h2⟩ := h
    refine wp_block (wp_mono (ih hR k h1) ?_)
    rintro e' a' w' ⟨X', rfl, g1, g2, g3, g4⟩
    cases g4 with
    | norm => cases h2; exact ⟨X', rfl, g1, g2, g3, .norm⟩
    | ret => cases h2; exact ⟨X', rfl, g1, g2, g3, .ret⟩
    | exit id' =>
      dsimp only at h2
      by_cases hid : id' = id
      · rw [if_pos hid] at h2
        cases h2
        simp only [Exit.inBlock, if_pos hid]
        exact ⟨X', rfl, g1, g2, g3, .norm⟩
      · rw [if_neg hid] at h2
        cases h2
        simp only [Exit.inBlock, if_neg hid]
        exact ⟨X', rfl, g1, g2, g3, .exit id'⟩
    | panic v v' hv => cases h2; exact ⟨X', rfl, g1, g2, g3, .panic v v' hv⟩
  | loop b ih =>
    intro X hR s a k e s' h
    simp only [trCode, Env.code] at h
    exact wp_rounds (loop_sim (f := E.code C m (trCode P n fz thaw b)) (fun hR _ _ k _ _ h => ih hR k h) m hR k h)
  | exit id =>
    intro X hR s a k e s' h
    simp only [trCode, Env.code, Option.some.injEq, Prod.mk.injEq] at h
    obtain ⟨rfl, rfl⟩ := h
    exact wp_exit ⟨X, rfl, hR, Ext.refl X, k, .exit id⟩
  | scope b ih =>
    intro X hR s a k e s' h
    simp only [trCode, Env.code] at h
    refine wp_scope_straight (wp_mono (ih hR k h) ?_)
    rintro e' a' w' ⟨X', rfl, g1, g2, g3, g4⟩
    have : CPost D B w0 E X n e s' e' a' X'.w := ⟨X', rfl, g1, g2, g3, g4⟩
    cases g4 <;> exact this
  | label l =>
    intro X hR s a k e s' h
    simp only [trCode, Env.code, Option.some.injEq, Prod.mk.injEq] at h
    obtain ⟨rfl, rfl⟩ := h
    exact wp_label ⟨X, rfl, hR, Ext.refl X, k, .norm⟩
  | ret =>
    intro X hR s a k e s' h
    simp only [trCode, Env.code, Option.some.injEq, Prod.mk.injEq] at h
    obtain ⟨rfl, rfl⟩ := h
    exact wp_ret ⟨X, rfl, hR, Ext.refl X, k, .ret⟩
  | goto l => intro X hR s a k e s' h; simp [trCode, Env.code] at h
  | refuse w => intro X hR s a k e s' h; simp [trCode, Env.code] at h
  | rangeFunc f ps as b ih1 ih2 => intro X hR s a k e s' h; simp [trCode, Env.code] at h
structure EnvOk (P : Program) (E : Env) : Prop where
  func : ∀ f af, E.func f = some af → ∃ fn fz thaw, P.funcs[f]? = some fn ∧ trFunc P fz thaw fn = some af
  prim : ∀ f p, E.prim f = some p → Entered P f ∧ ∀ args h v h', p args h = some (v, h') → ∀ (B : Nat) (w0 : World) (X : RX) (cargs : List Value), Rel B w0 E X → X.h = h → VRels X args cargs →
    Calls P f cargs.toArray X.w (Outcome B w0 E X (.ret ⟨v, h', .write⟩))
  dfunc : ∀ f df, E.dfunc f = some df → ∃ fn fz thaw, P.funcs[f]? = some fn ∧ trDFunc P fz thaw fn = some df := by intro _ _ h; cases h
  rfunc : ∀ f rf, E.rfunc f = some rf → ∃ fn fz thaw, P.funcs[f]? = some fn ∧ trRFunc P fz thaw fn = some rf := by intro _ _ h; cases h
end
end Go.AM

set_option linter.unusedSimpArgs false
set_option linter.unusedVariables false
namespace Go.AM
open Go.RowKit
section
variable {B : Nat} {w0 : World} {E : Env} {P : Program}
theorem ofList_get : ∀ (vs : List AV) (i : Nat) (σ : Slots) (t : Nat), (Slots.ofList i vs σ).get t = if i ≤ t ∧ t < i + vs.length then vs.getD (t - i) .undef else σ.get t
  | [], i, σ, t => by simp [Slots.ofList]; intro h1 h2; omega
  | v :: vs, i, σ, t => by
    simp only [Slots.ofList]
    rw [ofList_get vs (i + 1), Slots.get_put]
    simp only [List.length_cons]
    by_cases h1 : i + 1 ≤ t ∧ t < i + 1 + vs.length
    · rw [if_pos h1, if_pos (by omega)]
      have : t - i = (t - (i + 1)) + 1 := by omega
      rw [this]; simp
    · rw [if_neg h1]
      by_cases h2 : t = i
      · subst h2; rw [if_pos rfl, if_pos (by omega)]; simp
      · rw [if_neg h2, if_neg (by omega)]
theorem nil_get (t : Nat) : Slots.empty.get t = .undef := rfl
theorem entry_rel {X : RX} {args : List AV} {cargs : List Value} (h : VRels X args cargs) (n : Nat) : SRel X n (Slots.ofList 0 args .empty) (cargs.toArray ++ Array.replicate (n - cargs.toArray.size) Go.undef) := by
  refine ⟨by simp; omega, fun t => ?_⟩
  rw [ofList_get]
  have hl := h.length
  by_cases ht : t < args.length
  · rw [if_pos (by omega)]
    have hg : args[t]? = some (args.getD (t - 0) .undef) := by simp [List.getD, ht]
    obtain ⟨c, hc, hv⟩ := h.get hg
    have : (cargs.toArray ++ Array.replicate (n - cargs.toArray.size) Go.undef).getD t Go.undef = c := by
      have ht' : t < cargs.length := by omega
      simp only [Array.getD_eq_getD_getElem?, Array.getElem?_append, List.size_toArray, if_pos ht', List.getElem?_toArray, hc, Option.getD_some]
    rw [this]; exact hv
  · rw [if_neg (by omega), nil_get]
    have : (cargs.toArray ++ Array.replicate (n - cargs.toArray.size) Go.undef).getD t Go.undef = Go.undef := by
      simp only [Array.getD_eq_getD_getElem?, Array.getElem?_append, List.size_toArray]
      rw [if_neg (by omega)]
      simp only [Array.getElem?_replicate]
      split <;> rfl
    rw [this]; exact VRel.undef
theorem load_run {X : RX} (hR : Rel B w0 E X) {t : TypeId} {agg : Bool} {sz : Nat} (ha : tAgg P t = some agg) (hs : tSize P t = some sz) {x : AV} {c : Value} (hx : VRel X x c)
    {r : OpRes} (h : aLoad X.h agg sz x = some r) : ∃ v', (do loadVar t (← asAddr c) : Sem Value).run P X.w = .ok v' X.w ∧ VRel X r.v v' := by
  cases hx with
  | ptr id gen off a hid hlive =>
    simp only [aLoad, Option.bind_eq_some_iff, Option.map_eq_some_iff] at h
    obtain ⟨cs, hcs, v, hv, rfl⟩ := h
    have hl := Heap.at_some hcs
    obtain ⟨vs, h1, h2⟩ := (hR.obj id _ hl).at off
    obtain ⟨v', hv', hr⟩ := ldCells_run (P := P) ha hs h1 ((hR.obj id _ hl).one.drop off) h2 hv
    have e := (hlive _ hl).2 rfl
    subst e
    exact ⟨v', by simpa [asAddr] using hv', hr⟩
  | fp cells b o vs hst hat h1 hvs =>
    simp only [aLoad, Option.map_eq_some_iff] at h
    obtain ⟨v, hv, rfl⟩ := h
    obtain ⟨v', hv', hr⟩ := ldCells_run (P := P) ha hs hvs h1 hat hv
    exact ⟨v', by simpa [asAddr] using hv', hr⟩
  | _ => simp [aLoad] at h
theorem results_run {X : RX} (hR : Rel B w0 E X) {n : Nat} {s : St} {tmps : Array Value} (hh : X.h = s.h) (k : SRel X n s.σ tmps) {f : ResultVar → Sem Value} (h1 : ∀ t, f (.tmp t) = pure (tmps.getD t Go.undef))
    (h2 : ∀ a t, f (.cell a t) = (do loadVar t (← asAddr (tmps.getD a Go.undef)))) : ∀ {rs : List ResultVar} {ars : List ARes}, rs.mapM (trRes P) = some ars →
    ∀ {vs : List AV}, E.results s ars = some vs → ∃ vs' : List Value, (rs.mapM f).run P X.w = .ok vs' X.w ∧ VRels X vs vs'
  | [], ars, ht, vs, h => by
    simp at ht; subst ht
    simp only [Env.results, Option.some.injEq] at h; subst h
    exact ⟨[], by simp, .nil⟩
  | r :: rs, ars, ht, vs, h => by
    simp only [List.mapM_cons, Option.pure_def, Option.bind_eq_bind, Option.bind_eq_some_iff] at ht
    obtain ⟨ar, har, ars', hars, e⟩ := ht
    cases e
    cases r with
    | tmp t =>
      simp only [trRes, Option.some.injEq] at har
      subst har
      simp only [Env.results, Option.map_eq_some_iff] at h
      obtain ⟨vs1, hvs1, rfl⟩ := h
      obtain ⟨vs', g1, g2⟩ := results_run hR hh k h1 h2 hars hvs1
      exact ⟨_ :: vs', by simp [h1, g1], .cons _ _ _ _ (k.get t) g2⟩
    | cell a t =>
      simp only [trRes, Option.bind_eq_bind, Option.pure_def, Option.bind_eq_some_iff, Option.some.injEq] at har
      obtain ⟨ag, hag, sz, hsz, rfl⟩ := har
      simp only [Env.results, Option.bind_eq_some_iff, Option.map_eq_some_iff] at h
      obtain ⟨r1, hr1, vs1, hvs1, rfl⟩ := h
      rw [← hh] at hr1
      obtain ⟨v', q1, q2⟩ := load_run (P := P) hR hag hsz (k.get a) hr1
      obtain ⟨vs', g1, g2⟩ := results_run hR hh k h1 h2 hars hvs1
      refine ⟨v' :: vs', ?_, .cons _ _ _ _ q2 g2⟩
      rw [List.mapM_cons, h2, Sem.run_bind, q1]
      simp only [Result.andThen_ok, Sem.run_bind, g1, Sem.run_pure]
theorem oneOrTup_rel {X : RX} {vs : List AV} {vs' : List Value} (h : VRels X vs vs') : VRel X (oneOrTup vs) (if h : vs'.toArray.size = 1 then vs'.toArray[0] else .tuple vs'.toArray) := by
  cases h with
  | nil => simpa [oneOrTup] using VRel.tup (X := X) [] [] .nil
  | cons v v' vs vs' hv hvs =>
    cases hvs with
    | nil => simpa [oneOrTup] using hv
    | cons u u' us us' hu hus =>
      have := VRel.tup (X := X) _ _ (.cons v v' _ _ hv (.cons u u' _ _ hu hus))
      simpa [oneOrTup] using this
theorem body_wp {C : CallF} (hC : CallOk P E C) (hD : DrawOk P E C) {m : Nat} {f : Nat} {fn : Func} {fz : TypeId → Bool} {thaw : Nat → Bool} {af : AFunc} (hf : P.funcs[f]? = some fn)
    (ht : trFunc P fz thaw fn = some af) {X : RX} (hR : Rel B w0 E X) {args : List AV} {cargs : List Value} (ha : VRels X args cargs) {out : COut} (h : E.body C m af args X.h = some out) :
    ∃ body, fn.body = some body ∧ body.wp P (bodyPost P fn (Outcome B w0 E X out)) { tmps := cargs.toArray ++ Array.replicate (fn.ntmps - cargs.toArray.size) Go.undef, defers := [] } X.w := by
  simp only [trFunc, Option.bind_eq_bind, Option.bind_eq_some_iff] at ht
  obtain ⟨body, hb, ht⟩ := ht
  split at ht
  · cases ht
  simp only [Option.pure_def, Option.bind_eq_some_iff, Option.some.injEq] at ht
  obtain ⟨rs, hrs, rfl⟩ := ht
  simp only [Env.body, Option.bind_eq_some_iff] at h
  obtain ⟨⟨e, s⟩, hcode, h⟩ := h
  refine ⟨body, hb, wp_mono (code_sim hC hD body hR (s := ⟨Slots.ofList 0 args .empty, X.h⟩) ⟨rfl, entry_rel ha fn.ntmps, rfl⟩ hcode) ?_⟩
  rintro e' a' w' ⟨X', rfl, g1, g2, g3, g4⟩
  have fin : ∀ vs, E.results s rs = some vs → out = .ret ⟨oneOrTup vs, s.h, .write⟩ →
      a'.defers = [] ∧ ∃ v, (results fn a'.tmps).run P X'.w = .ok v X'.w ∧ Outcome B w0 E X out (.returned v) X'.w := by
    rintro vs hvs rfl
    have key : ∀ f : ResultVar → Sem Value, (∀ t, f (.tmp t) = pure (a'.tmps.getD t Go.undef)) → (∀ a t, f (.cell a t) = (do loadVar t (← asAddr (a'.tmps.getD a Go.undef)))) →
        ∃ vs' : List Value, (do let vs ← fn.results.mapM f; pure (if h : vs.size = 1 then vs[0] else .tuple vs) : Sem Value).run P X'.w = .ok (if h : vs'.toArray.size = 1 then vs'.toArray[0] else .tuple vs'.toArray) X'.w ∧ VRels X' vs vs' := by
      intro f e1 e2
      obtain ⟨vs', q1, q2⟩ := results_run (P := P) g1 g3.heap g3.slots e1 e2 hrs hvs
      refine ⟨vs', ?_, q2⟩
      rw [Array.mapM_eq_mapM_toList]
      simp only [Sem.run_bind, Sem.run_map, q1, Result.andThen_ok, Sem.run_pure]
    let f : ResultVar → Sem Value := fun r => match r with
      | .tmp t => pure (a'.tmps.getD t Go.undef)
      | .cell a t => do loadVar t (← asAddr (a'.tmps.getD a Go.undef))
    obtain ⟨vs', q1, q2⟩ := key f (fun _ => rfl) (fun _ _ => rfl)
    exact ⟨g3.defers, _, q1, X', _, rfl, g3.heap, g1, g2, oneOrTup_rel q2, rfl⟩
  cases g4 with
  | norm =>
    simp only [Option.map_eq_some_iff] at h
    obtain ⟨vs, hvs, rfl⟩ := h
    exact fin vs hvs rfl
  | ret =>
    simp only [Option.map_eq_some_iff] at h
    obtain ⟨vs, hvs, rfl⟩ := h
    exact fin vs hvs rfl
  | exit id => cases h
  | panic v v' hv =>
    simp only [Option.some.injEq] at h
    subst h
    exact ⟨g3.defers, X', v', rfl, g3.heap, g1, g2, hv, rfl⟩
theorem body_sim {C : CallF} (hC : CallOk P E C) (hD : DrawOk P E C) {m : Nat} {f : Nat} {fn : Func} {fz : TypeId → Bool} {thaw : Nat → Bool} {af : AFunc} (hf : P.funcs[f]? = some fn)
    (ht : trFunc P fz thaw fn = some af) {X : RX} (hR : Rel B w0 E X) {args : List AV} {cargs : List Value} (ha : VRels X args cargs) {out : COut} (h : E.body C m af args X.h = some out) :
    Calls P f cargs.toArray X.w (Outcome B w0 E X out) := by
  obtain ⟨body, hb, h⟩ := body_wp hC hD hf ht hR ha h
  exact calls_of_wp hf hb h
theorem entered_of {f : Nat} {fn : Func} {fz : TypeId → Bool} {thaw : Nat → Bool} {af : AFunc} (hf : P.funcs[f]? = some fn) (ht : trFunc P fz thaw fn = some af) : Entered P f := by
  simp only [trFunc, Option.bind_eq_bind, Option.bind_eq_some_iff] at ht
  obtain ⟨body, hb, ht⟩ := ht
  split at ht
  · cases ht
  rename_i hn
  exact ⟨fn, hf, by simp [hb], hn⟩
end
end Go.AM
