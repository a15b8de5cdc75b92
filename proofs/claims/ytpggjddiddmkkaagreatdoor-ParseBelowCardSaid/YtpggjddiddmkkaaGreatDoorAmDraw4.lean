/-
  THE ABSTRACT MACHINE AND THE MODEL: every order of a region, the theorem.
-/
import Derived.Test.YtpggjddiddmkkaaGreatDoorAmBody
import Derived.Recover
set_option linter.unusedSimpArgs false
set_option linter.unusedVariables false
namespace Go.AM
open Go.RowKit
section
variable {B : Nat} {w0 : World} {E : Env} {P : Program}
/-- a deferred call, and the model's -/
def DRel (X : RX) (c : DC) (d : Deferred) : Prop := ∃ (cap dargs : Array Value) (cargs : List Value), d = { target := .fn (.func c.1) cap, args := dargs } ∧ VRels X c.2 cargs ∧ dargs ++ cap = cargs.toArray
inductive DRels (X : RX) : List DC → List Deferred → Prop
  | nil : DRels X [] []
  | cons (c : DC) (d : Deferred) (cs : List DC) (ds : List Deferred) : DRel X c d → DRels X cs ds → DRels X (c :: cs) (d :: ds)
theorem DRels.ext {X X' : RX} (h : Ext X X') : ∀ {cs : List DC} {ds : List Deferred}, DRels X cs ds → DRels X' cs ds
  | _, _, .nil => .nil
  | _, _, .cons c d cs ds ⟨cap, dargs, cargs, h1, h2, h3⟩ k => .cons c d cs ds ⟨cap, dargs, cargs, h1, h2.ext h, h3⟩ (k.ext h)
variable {D : List Deferred}
/-- The first operations of a region, in the order of the text. -/
theorem ops_sim_k {C : CallF} (hC : CallOk P E C) {n : Nat} {fz : TypeId → Bool} {thaw : Nat → Bool} {ops : Array Oper} : ∀ (l r : List Oper) (i : Nat), ops.toList.drop i = l ++ r → ∀ {X : RX}, Rel B w0 E X → ∀ {s : St} {a : Act}, StRel D X n s a →
    ∀ {e : AExit} {s' : St}, E.ops C (l.map (trOper P n fz thaw ops)) s = some (e, s') → ∀ {Q : Exit → Act → World → Prop}, (e ≠ .norm → ∀ e' a' w', CPost D B w0 E X n e s' e' a' w' → Q e' a' w') →
    (e = .norm → ∀ X' a', Rel B w0 E X' → Ext X X' → StRel D X' n s' a' → wpOps P ops Q ((List.range ops.size).drop (i + l.length)) a' X'.w) → wpOps P ops Q ((List.range ops.size).drop i) a X.w
  | [], r, i, hl, X, hR, s, a, k, e, s', h, Q, hQ, hK => by
    simp only [List.map_nil, Env.ops, Option.some.injEq, Prod.mk.injEq] at h
    obtain ⟨rfl, rfl⟩ := h
    exact hK rfl X a hR (Ext.refl X) k
  | o :: l, r, i, hl, X, hR, s, a, k, e, s', h, Q, hQ, hK => by
    have hlt : i < ops.size := by
      have := congrArg List.length hl
      simp at this; omega
    have hi : ops[i]? = some o := by
      have : (ops.toList.drop i)[0]? = some o := by rw [hl]; rfl
      simpa using this
    have hl' : ops.toList.drop (i + 1) = l ++ r := by
      have := congrArg List.tail hl
      simpa using this
    have hr : (List.range ops.size).drop i = i :: (List.range ops.size).drop (i + 1) := by
      rw [List.drop_eq_getElem_cons (by simpa using hlt)]
      simp
    rw [hr, wpOps_cons]
    simp only [List.map_cons, Env.ops, Option.bind_eq_some_iff] at h
    obtain ⟨⟨s1, c, p⟩, h1, h2⟩ := h
    refine one_sim hC hR k hi h1 ?_ ?_
    · rintro rfl X' a' g1 g2 g3
      refine ops_sim_k hC l r (i + 1) hl' g1 g3 h2 (fun hn e' a' w' hp => hQ hn _ _ _ (CPost.trans g2 hp)) fun hn X2 a2 q1 q2 q3 => ?_
      have := hK hn X2 a2 q1 (g2.trans q2) q3
      rwa [List.length_cons, show i + (l.length + 1) = i + 1 + l.length by omega] at this
    · rintro v rfl X' v' g1 g2 g3 g4
      simp only [Option.some.injEq, Prod.mk.injEq] at h2
      obtain ⟨rfl, rfl⟩ := h2
      exact hQ (by simp) _ _ _ ⟨X', rfl, g1, g2, g3, .panic _ _ g4⟩
/-- what a body that defers ends in -/
def DPost (B : Nat) (w0 : World) (E : Env) (X : RX) (n : Nat) (e : AExit) (s : St) (ds : List DC) : Exit → Act → World → Prop := fun e' a' w' =>
  ∃ X' D', X'.w = w' ∧ Rel B w0 E X' ∧ Ext X X' ∧ StRel D' X' n s a' ∧ ExitRel X' e e' ∧ DRels X' ds D'
theorem DPost.trans {X X1 : RX} (h : Ext X X1) {n : Nat} {e : AExit} {s : St} {ds : List DC} {e' : Exit} {a' : Act} {w' : World} (k : DPost B w0 E X1 n e s ds e' a' w') : DPost B w0 E X n e s ds e' a' w' := by
  obtain ⟨X', D', h1, h2, h3, h4, h5, h6⟩ := k
  exact ⟨X', D', h1, h2, h.trans h3, h4, h5, h6⟩
theorem dcode_sim {C : CallF} (hC : CallOk P E C) (hD : DrawOk P E C) {n m : Nat} {fz : TypeId → Bool} {thaw : Nat → Bool} : ∀ (c : Code) {X : RX}, Rel B w0 E X → ∀ {D : List Deferred} {s : St} {a : Act}, StRel D X n s a →
    ∀ {ds : List DC} {e : AExit} {s' : St} {ds' : List DC}, DRels X ds D → E.dcode C m (trD P n fz thaw c) s ds = some (e, s', ds') → c.wp P (DPost B w0 E X n e s' ds') a X.w := by
  intro c
  have plain : ∀ (c : Code) {X : RX}, Rel B w0 E X → ∀ {D : List Deferred} {s : St} {a : Act}, StRel D X n s a →
      ∀ {ds : List DC} {e : AExit} {s' : St} {ds' : List DC}, DRels X ds D → E.dcode C m (.code (trCode P n fz thaw c)) s ds = some (e, s', ds') → c.wp P (DPost B w0 E X n e s' ds') a X.w := by
    intro c X hR D s a k ds e s' ds' hd h
    simp only [Env.dcode, Option.map_eq_some_iff, Prod.mk.injEq] at h
    obtain ⟨⟨e1, s1⟩, h1, rfl, rfl, rfl⟩ := h
    refine wp_mono (code_sim hC hD c hR k h1) ?_
    rintro e' a' w' ⟨X', rfl, g1, g2, g3, g4⟩
    exact ⟨X', D, rfl, g1, g2, g3, g4, hd.ext g2⟩
  induction c with
  | seq x y ihx ihy =>
    intro X hR D s a k ds e s' ds' hd h
    simp only [trD, Env.dcode, Option.bind_eq_some_iff] at h
    obtain ⟨⟨e1, s1, ds1⟩, h1, h2⟩ := h
    refine wp_seq (wp_mono (ihx hR k hd h1) ?_)
    rintro e' a' w' ⟨X', D', rfl, g1, g2, g3, g4, g5⟩
    cases g4 with
    | norm => exact wp_mono (ihy g1 g3 g5 h2) fun e' a' w' hp => DPost.trans g2 hp
    | ret => cases h2; exact ⟨X', D', rfl, g1, g2, g3, .ret, g5⟩
    | exit id => cases h2; exact ⟨X', D', rfl, g1, g2, g3, .exit id, g5⟩
    | panic v v' hv => cases h2; exact ⟨X', D', rfl, g1, g2, g3, .panic v v' hv, g5⟩
  | region id ops draw =>
    intro X hR D s a k ds e s' ds' hd h
    cases draw with
    | true => exact plain _ hR k hd h
    | false =>
      cases hlast : ops.toList.getLast? with
      | none => simp only [trD, hlast] at h; exact plain _ hR k hd h
      | some o =>
        have bad : ∀ {ds : List DC} {x : AExit × St × List DC}, E.dcode C m (.code .bad) s ds = some x → False := by
          intro ds x hx
          simp [Env.dcode, Env.code] at hx
        simp only [trD, hlast] at h
        split at h
        · rename_i c hop hdst hg
          split at h
          · rename_i v hcal
            split at h
            · rename_i f xs hf hxs
              -- the deferred call
              simp only [Env.dcode, Option.bind_eq_some_iff] at h
              obtain ⟨⟨e1, s1⟩, h1, h2⟩ := h
              have hcat : ops.toList = ops.toList.dropLast ++ [o] := by
                obtain ⟨ys, hys⟩ := List.getLast?_eq_some_iff.1 hlast
                rw [hys, List.dropLast_concat]
              have hsz : ops.size = ops.toList.dropLast.length + 1 := by
                have := congrArg List.length hcat
                simpa using this
              refine wp_region ?_
              have key := ops_sim_k hC (fz := fz) (thaw := thaw) (ops := ops) (D := D) ops.toList.dropLast [o] 0 (by rw [List.drop_zero]; exact hcat) hR k h1 (Q := DPost B w0 E X n e s' ds') ?_ ?_
              · simpa using key
              · intro hn e' a' w' hp
                obtain ⟨X', rfl, g1, g2, g3, g4⟩ := hp
                cases g4 with
                | norm => exact absurd rfl hn
                | ret => cases h2; exact ⟨X', D, rfl, g1, g2, g3, .ret, hd.ext g2⟩
                | exit id => cases h2; exact ⟨X', D, rfl, g1, g2, g3, .exit id, hd.ext g2⟩
                | panic v v' hv => cases h2; exact ⟨X', D, rfl, g1, g2, g3, .panic v v' hv, hd.ext g2⟩
              · rintro rfl X' a' g1 g2 g3
                simp only [Option.bind_eq_some_iff] at h2
                obtain ⟨fv, hfv, h2⟩ := h2
                have hfr := opd_rel g1 g3.slots hf hfv
                generalize hce : a'.eval v = cc at hfr
                cases hfr with
                | fn f p q p' q' hp hq =>
                  cases f with
                  | func g =>
                    simp only [Option.map_eq_some_iff, Prod.mk.injEq] at h2
                    obtain ⟨ys, hys, rfl, rfl, rfl⟩ := h2
                    have hrel := opds_rel g1 g3.slots hxs hys
                    have hr : (List.range ops.size).drop (0 + ops.toList.dropLast.length) = [ops.toList.dropLast.length] := by
                      rw [hsz, Nat.zero_add, List.drop_eq_getElem_cons (by simp)]
                      simp
                    have hi : ops[ops.toList.dropLast.length]? = some o := by
                      have : ops.toList[ops.toList.dropLast.length]? = some o := by
                        obtain ⟨ys, hys⟩ := List.getLast?_eq_some_iff.1 hlast
                        rw [hys, List.dropLast_concat]
                        simp
                      simpa using this
                    rw [hr, wpOps_cons]
                    unfold wpOp
                    simp only [hi]
                    rw [if_pos (by simp [Region.wanted, hg])]
                    left
                    unfold Oper.wp
                    obtain ⟨odst, oop, oty, opos, oafter, oguard⟩ := o
                    dsimp only at hop hdst hg
                    subst hop hdst hg
                    obtain ⟨callee, cargs, types⟩ := c
                    dsimp only at hcal
                    subst hcal
                    have hx : (execOp a'.eval { dst := none, op := Op.defer { callee := Callee.value v, args := cargs, argTypes := types }, type := oty, pos := opos, after := oafter, guard := none }).run P X'.w = .ok (.defer { target := .fn (.func g) q'.toArray, args := p'.toArray ++ cargs.map a'.eval }) X'.w := by
                      show (do pure (Next.defer (← Deferred.ofValue (a'.eval v) (cargs.map a'.eval))) : Sem Next).run P X'.w = _
                      rw [hce]
                      simp only [Deferred.ofValue, Sem.run_bind, Sem.run_pure, Result.andThen_ok]
                    rw [hx, Oper.upon_defer]
                    refine ⟨X', { target := .fn (.func g) q'.toArray, args := p'.toArray ++ cargs.map a'.eval } :: D, rfl, g1, g2, ⟨g3.heap, g3.slots, ?_⟩, .norm, .cons _ _ _ _ ⟨q'.toArray, p'.toArray ++ cargs.map a'.eval, p' ++ List.map a'.eval cargs.toList ++ q', rfl, (hp.append hrel).append hq, ?_⟩ (hd.ext g2)⟩
                    · show _ :: a'.defers = _
                      rw [g3.defers]
                    · apply Array.ext'; simp
                  | _ => cases h2
                | _ => cases h2
            · exact (bad h).elim
          · exact (bad h).elim
        · exact plain _ hR k hd h
  | _ => intro X hR D s a k ds e s' ds' hd h; exact plain _ hR k hd h
theorem upon_mono {o : Oper} {a : Act} {K K' : Act → World → Prop} {Q Q' : Exit → Act → World → Prop} {r : Result Next} (h : o.upon P a K Q r) (hK : ∀ a w, K a w → K' a w) (hQ : ∀ e a w, Q e a w → Q' e a w) : o.upon P a K' Q' r := by
  cases r with
  | ok n w' =>
    cases n <;> simp only [Oper.upon] at h ⊢ <;> first
      | exact hK _ _ h
      | exact h.elim
      | (refine h.mono ?_
         intro e w'' he
         cases e with
         | returned v => exact hK _ _ he
         | panicked chain => exact hQ _ _ _ he
         | outgrown =>
           obtain ⟨a, w, q⟩ := he
           exact ⟨a, w, hQ _ _ _ q⟩)
      | (intro fr cs
         obtain ⟨v, w'', hR, hs⟩ := h fr cs
         exact ⟨v, w'', hK _ _ hR, hs⟩)
  | halt x w' =>
    cases x <;> simp only [Oper.upon] at h ⊢ <;> first
      | exact hQ _ _ _ h
      | exact h.elim
theorem wpOpsS_of_op {ops : Array Oper} {Qw : Exit → Act → World → Prop} {Q : Exit → Act → List Frame → World → Prop} {K : Act → World → Prop} {i : Nat} {rest : List Nat} {a : Act} {cs : List Frame} {w : World}
    (h : wpOp P ops Qw i K a w) (hl : ¬ LetsOut Qw) (hQ : ∀ e a w, Qw e a w → Q e a cs w) (hK : ∀ a w, K a w → wpOpsS P ops Q rest a cs w) : wpOpsS P ops Q (i :: rest) a cs w := by
  unfold wpOp at h
  simp only [wpOpsS]
  cases ho : ops[i]? with
  | none => rw [ho] at h; exact hK _ _ h
  | some o =>
    rw [ho] at h
    dsimp only at h ⊢
    by_cases hw : Region.wanted o (yielded ops a.tmps) = true
    · rw [if_pos hw] at h ⊢
      rcases h with h | ⟨_, h⟩
      · unfold Oper.wp at h
        generalize (execOp a.eval o).run P w = r at h ⊢
        split
        · simp [Oper.upon] at h
        · exact upon_mono h hK hQ
      · exact absurd h hl
    · rw [if_neg hw] at h ⊢
      exact hK _ _ h
theorem opsS_sim {C : CallF} (hC : CallOk P E C) {n : Nat} {fz : TypeId → Bool} {thaw : Nat → Bool} {ops : Array Oper} {cs : List Frame} : ∀ (l r : List Oper) (i : Nat), ops.toList.drop i = l ++ r → ∀ {X : RX}, Rel B w0 E X → ∀ {s : St} {a : Act}, StRel D X n s a →
    ∀ {s' : St}, E.ops C (l.map (trOper P n fz thaw ops)) s = some (.norm, s') → ∀ {Q : Exit → Act → List Frame → World → Prop},
    (∀ X' a', Rel B w0 E X' → Ext X X' → StRel D X' n s' a' → wpOpsS P ops Q ((List.range ops.size).drop (i + l.length)) a' cs X'.w) → wpOpsS P ops Q ((List.range ops.size).drop i) a cs X.w
  | [], r, i, hl, X, hR, s, a, k, s', h, Q, hK => by
    simp only [List.map_nil, Env.ops, Option.some.injEq, Prod.mk.injEq] at h
    obtain ⟨_, rfl⟩ := h
    exact hK X a hR (Ext.refl X) k
  | o :: l, r, i, hl, X, hR, s, a, k, s', h, Q, hK => by
    have hlt : i < ops.size := by
      have := congrArg List.length hl
      simp at this; omega
    have hi : ops[i]? = some o := by
      have : (ops.toList.drop i)[0]? = some o := by rw [hl]; rfl
      simpa using this
    have hl' : ops.toList.drop (i + 1) = l ++ r := by
      have := congrArg List.tail hl
      simpa using this
    have hr : (List.range ops.size).drop i = i :: (List.range ops.size).drop (i + 1) := by
      rw [List.drop_eq_getElem_cons (by simpa using hlt)]
      simp
    rw [hr]
    simp only [List.map_cons, Env.ops, Option.bind_eq_some_iff] at h
    obtain ⟨⟨s1, c, p⟩, h1, h2⟩ := h
    refine wpOpsS_of_op (Qw := fun _ _ _ => False) (K := fun a' w' => wpOpsS P ops Q ((List.range ops.size).drop (i + 1)) a' cs w') (one_sim hC hR k hi h1 ?_ ?_) (fun ⟨_, _, h⟩ => h) (fun _ _ _ h => h.elim) fun _ _ h => h
    · rintro rfl X' a' g1 g2 g3
      refine opsS_sim hC l r (i + 1) hl' g1 g3 h2 fun X2 a2 q1 q2 q3 => ?_
      have := hK X2 a2 q1 (g2.trans q2) q3
      rwa [List.length_cons, show i + (l.length + 1) = i + 1 + l.length by omega] at this
    · rintro v rfl X' v' g1 g2 g3 g4
      simp at h2
inductive MRel (X : RX) : AMode → FrameMode → Prop
  | ret : MRel X .ret .returning
  | pan (v : AV) (v' : Value) (h : VRel X v v') : MRel X (.pan v) (.panicking (chainOf v'))
  | cau (v : AV) (v' : Value) : MRel X (.cau v) (.panicking [{ v := v', recovered := true }])
theorem MRel.ext {X X' : RX} (h : Ext X X') {m : AMode} {u : FrameMode} (k : MRel X m u) : MRel X' m u := by
  cases k with
  | ret => exact .ret
  | pan v v' hv => exact .pan v v' (hv.ext h)
  | cau v v' => exact .cau v v'
theorem MRel.settle {X : RX} {m : AMode} {u : FrameMode} (k : MRel X m u) : MRel X m.settle (Go.settle u) := by
  cases k with
  | ret => exact .ret
  | pan v v' hv => exact .pan v v' hv
  | cau v v' => exact .ret
theorem MRel.ne {X : RX} {m : AMode} {u : FrameMode} (k : MRel X m u) : u ≠ .run := by
  cases k <;> simp
/-- what a deferred call ends in -/
def DOut (B : Nat) (w0 : World) (E : Env) (X : RX) (m : AMode) (h : Heap) : Ending → FrameMode → World → Prop := fun e u' w' =>
  ∃ X' v, e = .returned v ∧ X'.w = w' ∧ Rel B w0 E X' ∧ Ext X X' ∧ X'.h = h ∧ MRel X' m u'
theorem recover_run {o : Oper} (ho : isRecover o = true) (ρ : Operand → Value) (w : World) : (execOp ρ o).run P w = .ok .recover w ∧ o.guard = none := by
  obtain ⟨dst, op, ty, pos, after, guard⟩ := o
  unfold isRecover at ho
  split at ho
  · rename_i c hop hg
    dsimp only at hop hg
    subst hop hg
    obtain ⟨callee, cargs, types⟩ := c
    simp only [Bool.and_eq_true] at ho
    obtain ⟨h1, h2⟩ := ho
    split at h1
    · exact ⟨by simp [execOp, resolve, invoke, builtin], rfl⟩
    · cases h1
  · cases ho
theorem rbody_sim {C : CallF} (hC : CallOk P E C) (hD : DrawOk P E C) {m g : Nat} {fn : Func} {fz : TypeId → Bool} {thaw : Nat → Bool} {rf : RFunc} (hf : P.funcs[g]? = some fn) (ht : trRFunc P fz thaw fn = some rf)
    {X : RX} (hR : Rel B w0 E X) {args : List AV} {cargs : List Value} (ha : VRels X args cargs) {md m1 : AMode} {u : FrameMode} (hm : MRel X md u) {h1 : Heap} (h : E.rbody C m rf args md X.h = some (m1, h1)) :
    CallsD P g cargs.toArray u X.w (DOut B w0 E X m1 h1) := by
  simp only [trRFunc, Option.bind_eq_bind, Option.bind_eq_some_iff] at ht
  obtain ⟨body, hb, ht⟩ := ht
  split at ht
  · cases ht
  rename_i hname
  have hres : fn.results.size = 0 := Decidable.not_not.1 fun e => hname (.inr e)
  split at ht
  case h_2 => cases ht
  rename_i id ops rest
  simp only [Option.bind_eq_some_iff] at ht
  obtain ⟨o, ho, ht⟩ := ht
  split at ht
  case isFalse => cases ht
  rename_i hcond
  simp only [Bool.and_eq_true] at hcond
  obtain ⟨hrec, hdst⟩ := hcond
  simp only [Option.pure_def, Option.some.injEq] at ht
  subst ht
  generalize hk : ops.toList.findIdx isRecover = k at *
  simp only [Env.rbody, Option.bind_eq_some_iff] at h
  obtain ⟨⟨e1, s1⟩, q1, h⟩ := h
  cases e1 <;> simp only [reduceCtorEq, Option.bind_eq_some_iff] at h
  obtain ⟨⟨e2, s2⟩, q2, h⟩ := h
  cases e2 <;> simp only [reduceCtorEq, Option.bind_eq_some_iff] at h
  obtain ⟨⟨e3, s3⟩, q3, h⟩ := h
  have hlt : k < ops.size := (Array.getElem?_eq_some_iff.1 ho).1
  have hsplit : ops.toList.drop 0 = ops.toList.take k ++ ops.toList.drop k := by rw [List.drop_zero, List.take_append_drop]
  have htl : (ops.toList.take k).length = k := by rw [List.length_take]; simp; omega
  refine callsD_of_wpS hf hb fun c₀ cs hu => wpS_seq (wpS_region ?_)
  have start := opsS_sim hC (D := []) (fz := fz) (thaw := thaw) (n := fn.ntmps) (ops := ops) (cs := c₀ :: cs) (ops.toList.take k) (ops.toList.drop k) 0 hsplit hR
    (s := ⟨Slots.ofList 0 args .empty, X.h⟩) (a := { tmps := cargs.toArray ++ Array.replicate (fn.ntmps - cargs.toArray.size) Go.undef, defers := [] }) ⟨rfl, entry_rel ha fn.ntmps, rfl⟩ q1
    (Q := Exit.thenS (rest.wpS P (bodyPostS P fn c₀ cs (DOut B w0 E X m1 h1))) (bodyPostS P fn c₀ cs (DOut B w0 E X m1 h1))) ?_
  · simpa using start
  intro X1 a1 g1 g2 g3
  rw [htl, Nat.zero_add]
  have hr : (List.range ops.size).drop k = k :: (List.range ops.size).drop (k + 1) := by
    rw [List.drop_eq_getElem_cons (by simpa using hlt)]
    simp
  rw [hr]
  obtain ⟨hrun, hgu⟩ := recover_run (P := P) hrec a1.eval X1.w
  have hd : ∀ d, o.dst = some d → d < fn.ntmps := fun d e => by rw [e] at hdst; simpa [dstOk, Nat.blt_eq] using hdst
  have hw : Region.wanted o (yielded ops a1.tmps) = true := by simp [Region.wanted, hgu]
  have tail : ops.toList.drop (k + 1) = ops.toList.drop (k + 1) ++ [] := by rw [List.append_nil]
  have htl2 : k + 1 + (ops.toList.drop (k + 1)).length = ops.size := by rw [List.length_drop]; simp; omega
  -- what comes behind the recover
  have fin : ∀ (v' : Value) (u' : FrameMode), VRel X1 md.told.1 v' → MRel X1 md.told.2 u' →
      wpOpsS P ops (Exit.thenS (rest.wpS P (bodyPostS P fn c₀ cs (DOut B w0 E X m1 h1))) (bodyPostS P fn c₀ cs (DOut B w0 E X m1 h1))) ((List.range ops.size).drop (k + 1)) (a1.put o.dst v') ({ c₀ with mode := u' } :: cs) X1.w := by
    intro v' u' hv hm'
    have k1 := g3.put (Ext.refl X1) hd hv g3.heap
    refine opsS_sim hC (D := []) (fz := fz) (thaw := thaw) (ops.toList.drop (k + 1)) [] (k + 1) tail g1 k1 q2 fun X2 a2 p1 p2 p3 => ?_
    rw [htl2, List.drop_eq_nil_of_le (by simp)]
    show Exit.thenS _ _ .normal a2 _ X2.w
    refine wpS_of_wp (wp_mono (code_sim hC hD rest p1 p3 q3) ?_)
    rintro e' a' w' ⟨X3, rfl, r1, r2, r3, r4⟩
    have done : e3 = .norm ∨ e3 = .ret → m1 = md.told.2 ∧ h1 = s3.h := by
      rintro (rfl | rfl) <;> (simp only [Option.some.injEq, Prod.mk.injEq] at h; exact ⟨h.1.symm, h.2.symm⟩)
    have out : e3 = .norm ∨ e3 = .ret → a'.defers = [] ∧ ∃ u'', ({ c₀ with mode := u' } :: cs : List Frame) = { c₀ with mode := u'' } :: cs ∧ ∃ v, (results fn a'.tmps).run P X3.w = .ok v X3.w ∧ DOut B w0 E X m1 h1 (.returned v) u'' X3.w := by
      intro he
      obtain ⟨rfl, rfl⟩ := done he
      have hz : fn.results = #[] := Array.eq_empty_of_size_eq_zero hres
      refine ⟨r3.defers, u', rfl, .tuple #[], ?_, X3, .tuple #[], rfl, rfl, r1, (g2.trans p2).trans r2, r3.heap, (hm'.ext p2).ext r2⟩
      simp [results, hz]
    cases r4 with
    | norm => exact out (.inl rfl)
    | ret => exact out (.inr rfl)
    | exit id => cases h
    | panic v v' hv => cases h
  simp only [wpOpsS, ho]
  rw [if_pos hw, hrun]
  cases hm with
  | ret =>
    have e0 : recoverD (c₀ :: cs) = none := by simp [recoverD, hu]
    simp only [e0]
    have := fin .nilIface .returning .nili .ret
    rwa [show ({ c₀ with mode := .returning } : Frame) = c₀ by rw [← hu]] at this
  | pan v v' hv =>
    have e0 : recoverD (c₀ :: cs) = some (v', { c₀ with mode := .panicking [{ v := v', recovered := true }] } :: cs) := by simp [recoverD, hu, chainOf]
    simp only [e0]
    exact fin v' _ (hv.ext g2) (.cau v v')
  | cau v v' =>
    have e0 : recoverD (c₀ :: cs) = none := by simp [recoverD, hu]
    simp only [e0]
    have := fin .nilIface (.panicking [{ v := v', recovered := true }]) .nili (.cau v v')
    rwa [show ({ c₀ with mode := .panicking [{ v := v', recovered := true }] } : Frame) = c₀ by rw [← hu]] at this
theorem dcall_sim {C : CallF} (hE : EnvOk P E) (hC : CallOk P E C) (hD : DrawOk P E C) {m g : Nat}
    {X : RX} (hR : Rel B w0 E X) {args : List AV} {cargs : List Value} (ha : VRels X args cargs) {md m1 : AMode} {u : FrameMode} (hm : MRel X md u) {h1 : Heap} (h : E.dcall C m g args md X.h = some (m1, h1)) :
    CallsD P g cargs.toArray u X.w (DOut B w0 E X m1 h1) ∧ Entered P g := by
  unfold Env.dcall at h
  split at h
  · rename_i rf hrf
    obtain ⟨fn, fz, thaw, hf, ht⟩ := hE.rfunc g rf hrf
    refine ⟨rbody_sim hC hD hf ht hR ha hm h, ?_⟩
    simp only [trRFunc, Option.bind_eq_bind, Option.bind_eq_some_iff] at ht
    obtain ⟨body, hb, ht⟩ := ht
    split at ht
    · cases ht
    rename_i hname
    exact ⟨fn, hf, by simp [hb], fun e => hname (.inl e)⟩
  · simp only [Option.bind_eq_some_iff] at h
    obtain ⟨af, haf, o, ho, h⟩ := h
    obtain ⟨fn, fz, thaw, hf, ht⟩ := hE.func g af haf
    refine ⟨?_, entered_of hf ht⟩
    cases o with
    | panic v h' => cases h
    | ret r =>
      simp only [Option.some.injEq, Prod.mk.injEq] at h
      obtain ⟨rfl, rfl⟩ := h
      obtain ⟨body, hb, hwp⟩ := body_wp hC hD hf ht hR ha ho
      refine (callsD_of_wp (u := u) hf hb hwp).mono ?_
      rintro e u' w' ⟨rfl, X', v', rfl, q2, q3, q4, q5, rfl⟩
      exact ⟨X', v', rfl, rfl, q3, q4, q2, hm.ext q4⟩
theorem unwind_sim {C : CallF} (hE : EnvOk P E) (hC : CallOk P E C) (hD : DrawOk P E C) {m : Nat} {fn : Func} {tmps : Array Value} {R : Ending → World → Prop} : ∀ (ds : List DC) {X : RX}, Rel B w0 E X → ∀ {D : List Deferred}, DRels X ds D → ∀ {md m1 : AMode} {u : FrameMode}, MRel X md u → ∀ {h1 : Heap},
    E.unwind C m ds md X.h = some (m1, h1) → (∀ X' u', Rel B w0 E X' → Ext X X' → X'.h = h1 → MRel X' m1 u' → Leaves P fn tmps R [] u' X'.w) → Leaves P fn tmps R D u X.w
  | [], X, hR, D, hd, md, m1, u, hm, h1, h, hfin => by
    cases hd
    simp only [Env.unwind, Option.some.injEq, Prod.mk.injEq] at h
    obtain ⟨rfl, rfl⟩ := h
    exact hfin X u hR (Ext.refl X) rfl hm
  | (g, args) :: ds, X, hR, D, hd, md, m1, u, hm, h1, h, hfin => by
    cases hd with
    | cons c d cs ds' hd1 hds =>
      obtain ⟨cap, dargs, cargs, rfl, hv, hcat⟩ := hd1
      simp only [Env.unwind, Option.bind_eq_some_iff] at h
      obtain ⟨⟨m2, h2⟩, q1, q2⟩ := h
      obtain ⟨hcall, hent⟩ := dcall_sim hE hC hD hR hv hm q1
      refine leaves_cons hm.ne (f := g) (args := cargs.toArray) ?_ (hcall.mono ?_)
      · show (callFunc g (dargs ++ cap)).run P X.w = _
        rw [hcat]
        exact run_callFunc hent _ _
      · rintro e u' w' ⟨X', v, rfl, rfl, g1, g2, rfl, g4⟩
        show Leaves P fn tmps R ds' (Go.settle u') X'.w
        exact unwind_sim hE hC hD ds g1 (hds.ext g2) g4.settle q2 fun X2 u2 p1 p2 p3 p4 => hfin X2 u2 p1 (g2.trans p2) p3 p4
theorem dbody_sim {C : CallF} (hE : EnvOk P E) (hC : CallOk P E C) (hD : DrawOk P E C) {m : Nat} {f : Nat} {fn : Func} {fz : TypeId → Bool} {thaw : Nat → Bool} {df : DFunc} (hf : P.funcs[f]? = some fn)
    (ht : trDFunc P fz thaw fn = some df) {X : RX} (hR : Rel B w0 E X) {args : List AV} {cargs : List Value} (ha : VRels X args cargs) {out : COut} (h : E.dbody C m df args X.h = some out) :
    Calls P f cargs.toArray X.w (Outcome B w0 E X out) ∧ Entered P f := by
  simp only [trDFunc, Option.bind_eq_bind, Option.bind_eq_some_iff] at ht
  obtain ⟨body, hb, ht⟩ := ht
  split at ht
  · cases ht
  rename_i hname
  simp only [Option.pure_def, Option.bind_eq_some_iff, Option.some.injEq] at ht
  obtain ⟨rs, hrs, rfl⟩ := ht
  refine ⟨?_, fn, hf, by simp [hb], hname⟩
  simp only [Env.dbody, Option.bind_eq_some_iff] at h
  obtain ⟨⟨e, s, ds⟩, hcode, md, hmd, ⟨m1, h1⟩, hun, h⟩ := h
  refine calls_of_wp_defers hf hb (wp_mono (dcode_sim hC hD body hR (D := []) (s := ⟨Slots.ofList 0 args .empty, X.h⟩) ⟨rfl, entry_rel ha fn.ntmps, rfl⟩ .nil hcode) ?_)
  rintro e' a' w' ⟨X', D', rfl, g1, g2, g3, g4, g5⟩
  have hheap := g3.heap
  have hde : a'.defers = D' := g3.defers
  subst hde
  -- what stands at the end
  have fin : ∀ X2 u2, Rel B w0 E X2 → Ext X' X2 → X2.h = h1 → MRel X2 m1 u2 → Leaves P fn a'.tmps (Outcome B w0 E X out) [] u2 X2.w := by
    intro X2 u2 p1 p2 p3 p4
    subst p3
    cases p4 with
    | ret =>
      simp only [Option.map_eq_some_iff] at h
      obtain ⟨vs, hvs, rfl⟩ := h
      let fr : ResultVar → Sem Value := fun r => match r with
        | .tmp t => pure (a'.tmps.getD t Go.undef)
        | .cell a t => do loadVar t (← asAddr (a'.tmps.getD a Go.undef))
      obtain ⟨vs', q1, q2⟩ := results_run (P := P) (s := ⟨s.σ, X2.h⟩) p1 rfl (g3.slots.ext p2) (f := fr) (fun _ => rfl) (fun _ _ => rfl) hrs hvs
      refine ⟨(if h : vs'.toArray.size = 1 then vs'.toArray[0] else .tuple vs'.toArray), ?_, X2, _, rfl, rfl, p1, g2.trans p2, oneOrTup_rel q2, rfl⟩
      show (do let vs ← fn.results.mapM fr; pure (if h : vs.size = 1 then vs[0] else .tuple vs) : Sem Value).run P X2.w = _
      rw [Array.mapM_eq_mapM_toList]
      simp only [Sem.run_bind, Sem.run_map, q1, Result.andThen_ok, Sem.run_pure]
    | pan v v' hv =>
      simp only [Option.some.injEq] at h
      subst h
      exact ⟨X2, v', rfl, rfl, p1, g2.trans p2, hv, rfl⟩
    | cau v v' => cases h
  rw [← hheap] at hun
  cases g4 with
  | norm =>
    cases hmd
    exact unwind_sim hE hC hD ds g1 g5 .ret hun fin
  | ret =>
    cases hmd
    exact unwind_sim hE hC hD ds g1 g5 .ret hun fin
  | exit id => cases hmd
  | panic v v' hv =>
    cases hmd
    exact unwind_sim hE hC hD ds g1 g5 (.pan v v' hv) hun fin
end
end Go.AM

set_option linter.unusedSimpArgs false
set_option linter.unusedVariables false
namespace Go.AM
open Go.RowKit
section
variable {B : Nat} {w0 : World} {E : Env} {P : Program}
mutual
theorem VRel.move {X X' : RX} (hw : X'.w = X.w) (hs : ∀ b, X.Still b → X'.Still b) : ∀ {v : AV} {c : Value}, VRel X v c → v.noRef = true → VRel X' v c
  | _, _, .bool b, _ => .bool b
  | _, _, .int k n, _ => .int k n
  | _, _, .str s, _ => .str s
  | _, _, .nilp, _ => .nilp
  | _, _, .nils, _ => .nils
  | _, _, .nilm, _ => .nilm
  | _, _, .nilf, _ => .nilf
  | _, _, .nili, _ => .nili
  | _, _, .ptr id gen off a hid hlive, h => by simp [AV.noRef] at h
  | _, _, .itr k hk, h => by simp [AV.noRef] at h
  | _, _, .sl id gen off sz len cap a n hid hlen hcap hlive, h => by simp [AV.noRef] at h
  | _, _, .fp cells b o vs hst hat h1 hvs, h => .fp cells b o vs (hs b hst) (by rw [hw]; exact hat) h1 (hvs.move hw hs (by simpa [AV.noRef] using h))
  | _, _, .fs full len cells a n vs hlen hfull hat h1 hvs, h => .fs full len cells a n vs hlen hfull (fun hne => by
      obtain ⟨b, o, e, hst, hc⟩ := hat hne
      exact ⟨b, o, e, hs b hst, by rw [hw]; exact hc⟩) h1 (hvs.move hw hs (by simpa [AV.noRef] using h))
  | _, _, .fn f a b a' b' ha hb, h => .fn f a b a' b' (ha.move hw hs (by simp [AV.noRef] at h; exact h.1)) (hb.move hw hs (by simp [AV.noRef] at h; exact h.2))
  | _, _, .ifc t v v' hv, h => .ifc t v v' (hv.move hw hs (by simpa [AV.noRef] using h))
  | _, _, .agg cs cs' h1 hv, h => .agg cs cs' h1 (hv.move hw hs (by simpa [AV.noRef] using h))
  | _, _, .tup vs vs' hv, h => .tup vs vs' (hv.move hw hs (by simpa [AV.noRef] using h))
theorem VRels.move {X X' : RX} (hw : X'.w = X.w) (hs : ∀ b, X.Still b → X'.Still b) : ∀ {v : List AV} {c : List Value}, VRels X v c → AV.noRefs v = true → VRels X' v c
  | _, _, .nil, _ => .nil
  | _, _, .cons v v' vs vs' hv hvs, h => .cons v v' vs vs' (hv.move hw hs (by simp [AV.noRefs] at h; exact h.1)) (hvs.move hw hs (by simp [AV.noRefs] at h; exact h.2))
end
/-- the blocks that an object of the one lies in are still in the other -/
structure Thawed (B : Nat) (w0 : World) (E : Env) (X X' : RX) : Prop where
  w : X'.w = X.w
  still : ∀ b, X.Still b → X'.Still b
  own : ∀ b, X.Own b → X'.Still b
  rel : Rel B w0 E X
theorem freeze_one {h : Heap} : ∀ {n : Nat} {v u : AV}, freeze h n v = some u → u.one = v.one := by
  intro n v u hf
  cases n with
  | zero => cases hf
  | succ n =>
    simp only [freeze] at hf
    split at hf
    · cases hf; rfl
    · cases v <;> simp only [reduceCtorEq, Option.bind_eq_some_iff, Option.map_eq_some_iff] at hf
      · obtain ⟨_, _, _, _, rfl⟩ := hf; rfl
      · obtain ⟨_, _, hf⟩ := hf
        split at hf
        · simp only [Option.map_eq_some_iff] at hf; obtain ⟨_, _, rfl⟩ := hf; rfl
        · cases hf
      · obtain ⟨_, _, rfl⟩ := hf; rfl
      · obtain ⟨_, _, rfl⟩ := hf; rfl
      · obtain ⟨_, _, rfl⟩ := hf; rfl
      · obtain ⟨_, _, rfl⟩ := hf; rfl
      · obtain ⟨_, _, rfl⟩ := hf; rfl
theorem mapM_one {h : Heap} {n : Nat} : ∀ {vs us : List AV}, vs.mapM (freeze h n) = some us → allOne vs → allOne us
  | [], us, hm, _ => by simp at hm; subst hm; exact fun _ h => by cases h
  | v :: vs, us, hm, h1 => by
    simp only [List.mapM_cons, Option.pure_def, Option.bind_eq_bind, Option.bind_eq_some_iff] at hm
    obtain ⟨u, hu, r, hr, e⟩ := hm
    cases e
    intro x hx
    cases hx with
    | head => rw [freeze_one hu]; exact h1 v (by simp)
    | tail _ hx => exact mapM_one hr (fun y hy => h1 y (by simp [hy])) x hx
theorem freeze_rel {X X' : RX} (hT : Thawed B w0 E X X') : ∀ (n : Nat) {v u : AV} {c : Value}, freeze X.h n v = some u → VRel X v c → VRel X' u c := by
  intro n
  induction n with
  | zero => intro v u c h; cases h
  | succ n ih =>
    intro v u c h hv
    have list : ∀ {vs us : List AV} {cs : List Value}, vs.mapM (freeze X.h n) = some us → VRels X vs cs → VRels X' us cs := by
      intro vs
      induction vs with
      | nil => intro us cs hm hr; simp at hm; subst hm; cases hr; exact .nil
      | cons v vs ihv =>
        intro us cs hm hr
        simp only [List.mapM_cons, Option.pure_def, Option.bind_eq_bind, Option.bind_eq_some_iff] at hm
        obtain ⟨u, hu, r, hr', e⟩ := hm
        cases e
        cases hr with
        | cons _ c _ cs hv hvs => exact .cons _ _ _ _ (ih hu hv) (ihv hr' hvs)
    simp only [freeze] at h
    split at h
    · rename_i hn
      cases h
      exact hv.move hT.w hT.still hn
    · cases hv with
      | ptr id gen off a hid hlive =>
        simp only [Option.bind_eq_some_iff, Option.map_eq_some_iff] at h
        obtain ⟨cs, hcs, us, hus, rfl⟩ := h
        have hl := Heap.at_some hcs
        have hO := hT.rel.obj id _ hl
        obtain ⟨vs, h1, h2⟩ := hO.at off
        have e := (hlive _ hl).2 rfl
        subst e
        exact .fp _ _ _ _ (hT.own _ (.inl ⟨id, _, hl, rfl⟩)) (by rw [hT.w]; exact h2) (mapM_one hus (hO.one.drop off)) (list hus h1)
      | sl id gen off sz len cap a m hid hlen hcap hlive =>
        simp only [Option.bind_eq_some_iff] at h
        obtain ⟨cs, hcs, h⟩ := h
        split at h
        · rename_i hfit
          simp only [Option.map_eq_some_iff] at h
          obtain ⟨us, hus, rfl⟩ := h
          have hl := Heap.at_some hcs
          have hO := hT.rel.obj id _ hl
          obtain ⟨vs, h1, h2⟩ := hO.at off
          refine .fs _ _ _ _ _ (vs.take (len * sz)) hlen (fun hf => ?_) (fun hne => ?_) (mapM_one hus ((hO.one.drop off).take _)) (list hus (h1.take _))
          · simp only [beq_iff_eq] at hf
            exact hcap _ hf
          · have hpos : 0 < len := by
              apply Nat.pos_of_ne_zero
              rintro rfl
              simp at hus
              exact hne hus
            have ha := ((hlive _ hl).2 rfl).1 (by omega)
            exact ⟨_, _, ha, hT.own _ (.inl ⟨id, _, hl, rfl⟩), by rw [hT.w]; exact h2.take _⟩
        · cases h
      | fp cells b o vs hst hat h1 hvs =>
        simp only [Option.map_eq_some_iff] at h
        obtain ⟨us, hus, rfl⟩ := h
        exact .fp _ _ _ _ (hT.still _ hst) (by rw [hT.w]; exact hat) (mapM_one hus h1) (list hus hvs)
      | fs full len cells a m vs hlen hfull hat h1 hvs =>
        simp only [Option.map_eq_some_iff] at h
        obtain ⟨us, hus, rfl⟩ := h
        refine .fs _ _ _ _ _ vs hlen hfull (fun hne => ?_) (mapM_one hus h1) (list hus hvs)
        have hne' : cells ≠ [] := by rintro rfl; simp at hus; exact hne hus
        obtain ⟨b, o, e, hst, hc⟩ := hat hne'
        exact ⟨b, o, e, hT.still _ hst, by rw [hT.w]; exact hc⟩
      | ifc t v v' hv =>
        simp only [Option.map_eq_some_iff] at h
        obtain ⟨u', hu, rfl⟩ := h
        exact .ifc _ _ _ (ih hu hv)
      | agg cs cs' h1 hv =>
        simp only [Option.map_eq_some_iff] at h
        obtain ⟨us, hus, rfl⟩ := h
        exact .agg _ _ (mapM_one hus h1) (list hus hv)
      | tup vs vs' hv =>
        simp only [Option.map_eq_some_iff] at h
        obtain ⟨us, hus, rfl⟩ := h
        exact .tup _ _ (list hus hv)
      | _ => cases h
/-- What the callee of a call without addresses sees. -/
def RX.bare (X : RX) : RX := { X with h := .empty, F := fun b => X.F b ∨ X.Own b }
theorem bare_still {X : RX} {b : Nat} (h : X.Still b) : X.bare.Still b :=
  ⟨h.1, fun hF => hF.elim h.2.1 h.2.2, fun hO => by
    rcases hO with ⟨id, o, ho, _⟩ | ⟨k, hk, _⟩
    · cases ho
    · exact absurd hk (Nat.not_lt_zero _)⟩
theorem bare_rel {X : RX} (hg : ∀ g cs, E.glob g = some cs → AV.noRefs cs = true) (hR : Rel B w0 E X) : Rel B w0 E X.bare where
  below := hR.below
  base := hR.base
  lt id o h := by cases h
  obj id o h := by cases h
  inj id id' o o' h := by cases h
  fresh id o h := by cases h
  Flt b h := by
    rcases h with h | ⟨id, o, ho, rfl⟩ | ⟨k, hk, rfl⟩
    · exact hR.Flt b h
    · exact (hR.obj id o ho).lt
    · exact (Array.getElem?_eq_some_iff.1 (hR.its k X.h.its[k].1 X.h.its[k].2 (List.getElem?_eq_getElem hk)).1).1
  glob g cs h := (hR.glob g cs h).move (X := X) (X' := X.bare) rfl (fun b hb => bare_still hb) (by simpa [AV.noRef] using hg g cs h)
  start := hR.start
  its k s p h := by cases h
  itj j k h := absurd h (Nat.not_lt_zero _)
theorem call_ok (hE : EnvOk P E) (hg : ∀ g cs, E.glob g = some cs → AV.noRefs cs = true) (hD : ∀ C, CallOk P E C → (∀ f args h v h1, C f args h = some (.ret ⟨v, h1, .none⟩) → h1 = h ∧ ∀ h2, C f args h2 = some (.ret ⟨v, h2, .none⟩)) → (∀ f args h v h1, C f args h ≠ some (.ret ⟨v, h1, .read⟩)) → DrawOk P E C) :
    ∀ n, CallOk P E (E.call n) ∧ (∀ f args h v h1, E.call n f args h = some (.ret ⟨v, h1, .none⟩) → h1 = h ∧ ∀ h2, E.call n f args h2 = some (.ret ⟨v, h2, .none⟩)) ∧ (∀ f args h v h1, E.call n f args h ≠ some (.ret ⟨v, h1, .read⟩)) := by
  intro n
  induction n with
  | zero => exact ⟨(fun f args h o hc => by cases hc), (fun f args h v h1 hc => by cases hc), (fun f args h v h1 hc => by cases hc)⟩
  | succ n ih =>
    obtain ⟨ih1, ih2, ih3⟩ := ih
    have hDn := hD _ ih1 ih2 ih3
    have hbody : ∀ m af args h out, E.body (E.call n) m af args h = some out → (∃ r, out = .ret r ∧ r.c = .write) ∨ ∃ v h', out = .panic v h' := by
      intro m af args h out hb
      simp only [Env.body, Option.bind_eq_some_iff] at hb
      obtain ⟨⟨e, s⟩, _, hb⟩ := hb
      cases e <;> simp only [reduceCtorEq, Option.map_eq_some_iff, Option.some.injEq] at hb
      · obtain ⟨vs, _, rfl⟩ := hb; exact .inl ⟨_, rfl, rfl⟩
      · obtain ⟨vs, _, rfl⟩ := hb; exact .inl ⟨_, rfl, rfl⟩
      · exact .inr ⟨_, _, hb.symm⟩
    have hdbody : ∀ m df args h out, E.dbody (E.call n) m df args h = some out → (∃ r, out = .ret r ∧ r.c = .write) ∨ ∃ v h', out = .panic v h' := by
      intro m df args h out hb
      simp only [Env.dbody, Option.bind_eq_some_iff] at hb
      obtain ⟨⟨e, s, ds⟩, _, md, _, ⟨m1, h1⟩, _, hb⟩ := hb
      cases m1 <;> simp only [reduceCtorEq, Option.map_eq_some_iff, Option.some.injEq] at hb
      · obtain ⟨vs, _, rfl⟩ := hb; exact .inl ⟨_, rfl, rfl⟩
      · exact .inr ⟨_, _, hb.symm⟩
    refine ⟨?_, ?_, ?_⟩
    · intro f args h o hc
      simp only [Env.call] at hc
      cases hp : E.prim f with
      | some p =>
        rw [hp] at hc
        simp only [Option.map_eq_some_iff] at hc
        obtain ⟨⟨v, h'⟩, hpv, rfl⟩ := hc
        obtain ⟨g1, g2⟩ := hE.prim f p hp
        exact ⟨g1, fun B w0 X cargs hR hX ha => g2 args h v h' hpv B w0 X cargs hR hX ha⟩
      | none =>
        rw [hp] at hc
        dsimp only at hc
        cases haf : E.func f with
        | none =>
        rw [haf] at hc
        simp only [Option.bind_eq_some_iff] at hc
        obtain ⟨df, hdf, hc⟩ := hc
        obtain ⟨fn, fz, thaw, hfn, htr⟩ := hE.dfunc f df hdf
        have hent : Entered P f := by
          simp only [trDFunc, Option.bind_eq_bind, Option.bind_eq_some_iff] at htr
          obtain ⟨body, hb, htr⟩ := htr
          split at htr
          · cases htr
          rename_i hname
          exact ⟨fn, hfn, by simp [hb], hname⟩
        refine ⟨hent, fun B w0 X cargs hR hX ha => ?_⟩
        rw [← hX] at hc
        exact (dbody_sim hE ih1 hDn hfn htr hR ha hc).1
        | some af =>
        rw [haf] at hc
        dsimp only at hc
        obtain ⟨fn, fz, thaw, hfn, htr⟩ := hE.func f af haf
        refine ⟨entered_of hfn htr, fun B w0 X cargs hR hX ha => ?_⟩
        have plain : E.body (E.call n) n af args h = some o → Calls P f cargs.toArray X.w (Outcome B w0 E X o) := by
          intro hb
          rw [← hX] at hb
          exact body_sim ih1 hDn hfn htr hR ha hb
        cases hpu : E.pure_ f with
        | false => rw [hpu] at hc; exact plain hc
        | true =>
          rw [hpu] at hc
          cases hno : AV.noRefs args with
          | false => rw [hno] at hc; exact plain hc
          | true =>
            rw [hno] at hc
            simp only [Option.bind_eq_some_iff] at hc
            obtain ⟨out, hout, hc⟩ := hc
            cases out with
            | panic v h' => cases hc
            | ret r =>
              simp only [Option.map_eq_some_iff] at hc
              obtain ⟨u, hu, rfl⟩ := hc
              have ha' := ha.move (X := X) (X' := X.bare) rfl (fun b hb => bare_still hb) hno
              have hcall := body_sim ih1 hDn hfn htr (bare_rel hg hR) ha' (out := .ret r) hout
              refine hcall.mono ?_
              rintro e w' ⟨X1, v', rfl, q2, q3, q4, q5, rfl⟩
              -- back in the caller's eyes
              have hblk : ∀ b, b < X.w.heap.size → X1.w.heap[b]? = X.w.heap[b]? ∧ ¬ X1.Own b := fun b hb => q4.other b hb (fun hO => by
                rcases hO with ⟨id, o, ho, _⟩ | ⟨k, hk, _⟩
                · cases ho
                · exact absurd hk (Nat.not_lt_zero _))
              have hE2 : Ext X { X with w := X1.w } := ⟨rfl, Nat.le_refl _, q4.size, fun b hb hno => ⟨(hblk b hb).1, hno⟩, fun _ o' _ h => ⟨o', h, Nat.le_refl _, fun _ => rfl⟩, Nat.le_refl _, fun _ _ => rfl⟩
              have hR2 : Rel B w0 E { X with w := X1.w } := {
                below := q3.below
                base := q3.base
                lt := hR.lt
                obj := fun id o ho => (hR.obj id o ho).ext hE2 (hblk _ (hR.obj id o ho).lt).1
                inj := hR.inj
                fresh := hR.fresh
                Flt := fun b hb => Nat.lt_of_lt_of_le (hR.Flt b hb) q4.size
                glob := fun g cs h => (hR.glob g cs h).ext hE2
                start := hR.start
                its := fun k s p hk => by
                  obtain ⟨g1, g2, g3⟩ := hR.its k s p hk
                  exact ⟨by rw [(hblk _ (Array.getElem?_eq_some_iff.1 g1).1).1]; exact g1, g2, g3⟩
                itj := hR.itj }
              have hF1 : ∀ b, X1.F b ↔ (X.F b ∨ X.Own b) := fun b => by rw [q4.F]; rfl
              have hT : Thawed B w0 E X1 { X with w := X1.w } := {
                w := rfl
                still := fun b hb => ⟨hb.1, fun hF => hb.2.1 ((hF1 b).2 (.inl hF)), fun hO => hb.2.1 ((hF1 b).2 (.inr hO))⟩
                own := fun b hO1 => by
                  rcases hO1 with ⟨id, o, ho, he⟩ | ⟨k, hk, he⟩
                  · have hf := (q3.fresh id o ho).2
                    rw [he] at hf
                    have hlt := (q3.obj id o ho).lt
                    rw [he] at hlt
                    exact ⟨hlt, fun hF => hf ((hF1 b).2 (.inl hF)), fun hO => hf ((hF1 b).2 (.inr hO))⟩
                  · obtain ⟨g1, g2, g3⟩ := q3.its k X1.h.its[k].1 X1.h.its[k].2 (List.getElem?_eq_getElem hk)
                    rw [he] at g1 g3
                    exact ⟨(Array.getElem?_eq_some_iff.1 g1).1, fun hF => g3 ((hF1 b).2 (.inl hF)), fun hO => g3 ((hF1 b).2 (.inr hO))⟩
                rel := q3 }
              rw [← q2] at hu
              exact ⟨{ X with w := X1.w }, v', rfl, hX, hR2, hE2, freeze_rel hT n hu q5, rfl⟩
    · intro f args h v h1 hc
      simp only [Env.call] at hc
      cases hp : E.prim f with
      | some p =>
        rw [hp] at hc
        simp only [Option.map_eq_some_iff, COut.ret.injEq, OpRes.mk.injEq, reduceCtorEq, and_false, exists_false] at hc
      | none =>
        rw [hp] at hc
        dsimp only at hc
        cases haf : E.func f with
        | none =>
        rw [haf] at hc
        simp only [Option.bind_eq_some_iff] at hc
        obtain ⟨df, hdf, hc⟩ := hc
        rcases hdbody _ _ _ _ _ hc with ⟨r, e, hw⟩ | ⟨_, _, e⟩
        · cases e; cases hw
        · cases e
        | some af =>
        rw [haf] at hc
        dsimp only at hc
        cases hpu : E.pure_ f with
        | false =>
          rw [hpu] at hc
          rcases hbody _ _ _ _ _ hc with ⟨r, e, hw⟩ | ⟨_, _, e⟩
          · cases e; cases hw
          · cases e
        | true =>
          rw [hpu] at hc
          cases hno : AV.noRefs args with
          | false =>
            rw [hno] at hc
            rcases hbody _ _ _ _ _ hc with ⟨r, e, hw⟩ | ⟨_, _, e⟩
            · cases e; cases hw
            · cases e
          | true =>
            rw [hno] at hc
            simp only [Option.bind_eq_some_iff] at hc
            obtain ⟨out, hout, hc⟩ := hc
            cases out with
            | panic v h' => cases hc
            | ret r =>
              simp only [Option.map_eq_some_iff, COut.ret.injEq, OpRes.mk.injEq, and_true] at hc
              obtain ⟨u, hu, rfl, rfl⟩ := hc
              refine ⟨rfl, fun h2 => ?_⟩
              simp only [Env.call, hp, haf, Option.bind_some, hpu, hno, hout, hu, Option.map_some]
    · intro f args h v h1 hc
      simp only [Env.call] at hc
      cases hp : E.prim f with
      | some p =>
        rw [hp] at hc
        simp only [Option.map_eq_some_iff, COut.ret.injEq, OpRes.mk.injEq, reduceCtorEq, and_false, exists_false] at hc
      | none =>
        rw [hp] at hc
        dsimp only at hc
        cases haf : E.func f with
        | none =>
        rw [haf] at hc
        simp only [Option.bind_eq_some_iff] at hc
        obtain ⟨df, hdf, hc⟩ := hc
        rcases hdbody _ _ _ _ _ hc with ⟨r, e, hw⟩ | ⟨_, _, e⟩
        · cases e; cases hw
        · cases e
        | some af =>
        rw [haf] at hc
        dsimp only at hc
        have nb : ∀ m h, E.body (E.call n) m af args h ≠ some (.ret ⟨v, h1, .read⟩) := by
          intro m h hb
          rcases hbody _ _ _ _ _ hb with ⟨r, e, hw⟩ | ⟨_, _, e⟩
          · cases e; cases hw
          · cases e
        cases hpu : E.pure_ f with
        | false => rw [hpu] at hc; exact nb _ _ hc
        | true =>
          rw [hpu] at hc
          cases hno : AV.noRefs args with
          | false => rw [hno] at hc; exact nb _ _ hc
          | true =>
            rw [hno] at hc
            simp only [Option.bind_eq_some_iff] at hc
            obtain ⟨out, hout, hc⟩ := hc
            cases out with
            | panic v h' => cases hc
            | ret r => simp only [Option.map_eq_some_iff, COut.ret.injEq, OpRes.mk.injEq, reduceCtorEq, and_false, exists_false] at hc
end
end Go.AM

set_option linter.unusedSimpArgs false
set_option linter.unusedVariables false
namespace Go.AM
open Go.RowKit
mutual
theorem AV.same_eq : ∀ {a b : AV}, a.same b = true → a = b
  | .bool a, b, h => by cases b <;> simp_all [AV.same]
  | .int j a, b, h => by cases b <;> simp_all [AV.same]
  | .str a, b, h => by cases b <;> simp_all [AV.same]
  | .nilp, b, h => by cases b <;> simp_all [AV.same]
  | .nils, b, h => by cases b <;> simp_all [AV.same]
  | .nilm, b, h => by cases b <;> simp_all [AV.same]
  | .nilf, b, h => by cases b <;> simp_all [AV.same]
  | .nili, b, h => by cases b <;> simp_all [AV.same]
  | .ptr x y z, b, h => by cases b <;> simp_all [AV.same]
  | .itr x, b, h => by cases b <;> simp_all [AV.same]
  | .sl x y z u v w, b, h => by cases b <;> simp_all [AV.same]
  | .fp a, b, h => by
    cases b <;> simp only [AV.same, reduceCtorEq] at h
    rw [AV.sames_eq h]
  | .fs f n a, b, h => by
    cases b <;> simp only [AV.same, reduceCtorEq, Bool.and_eq_true, beq_iff_eq] at h
    rw [h.1.1, h.1.2, AV.sames_eq h.2]
  | .fn f a c, b, h => by
    cases b <;> simp only [AV.same, reduceCtorEq, Bool.and_eq_true, beq_iff_eq] at h
    rw [h.1.1, AV.sames_eq h.1.2, AV.sames_eq h.2]
  | .ifc t a, b, h => by
    cases b <;> simp only [AV.same, reduceCtorEq, Bool.and_eq_true, beq_iff_eq] at h
    rw [h.1, AV.same_eq h.2]
  | .agg a, b, h => by
    cases b <;> simp only [AV.same, reduceCtorEq] at h
    rw [AV.sames_eq h]
  | .tup a, b, h => by
    cases b <;> simp only [AV.same, reduceCtorEq] at h
    rw [AV.sames_eq h]
theorem AV.sames_eq : ∀ {a b : List AV}, AV.sames a b = true → a = b
  | [], [], _ => rfl
  | [], _ :: _, h => by simp [AV.sames] at h
  | _ :: _, [], h => by simp [AV.sames] at h
  | a :: as, b :: bs, h => by
    simp only [AV.sames, Bool.and_eq_true] at h
    rw [AV.same_eq h.1, AV.sames_eq h.2]
end
section
variable {E : Env} {σ σ' : Slots}
theorem opd_congr {x : Opd} (h : ∀ t ∈ x.slots, σ.get t = σ'.get t) : E.opd σ x = E.opd σ' x := by
  cases x with
  | t n => simp only [Env.opd]; rw [h n (by simp [Opd.slots])]
  | _ => rfl
theorem opdo_congr {x : Option Opd} (h : ∀ t ∈ slotsO x, σ.get t = σ'.get t) : E.opdo σ x = E.opdo σ' x := by
  cases x with
  | none => rfl
  | some x => simp only [Env.opdo]; rw [opd_congr h]
theorem opds_congr : ∀ {l : List Opd}, (∀ t ∈ slotsL l, σ.get t = σ'.get t) → E.opds σ l = E.opds σ' l
  | [], _ => rfl
  | x :: l, h => by
    simp only [Env.opds]
    rw [opd_congr (fun t ht => h t (by simp [slotsL, ht])), opds_congr (l := l) (fun t ht => h t (by simp [slotsL, ht]))]
theorem parts_congr : ∀ {l : List (Nat × Nat × Opd)}, (∀ t ∈ slotsP l, σ.get t = σ'.get t) → E.parts σ l = E.parts σ' l
  | [], _ => rfl
  | (i, s, x) :: l, h => by
    simp only [Env.parts]
    rw [opd_congr (fun t ht => h t (by simp [slotsP, ht])), parts_congr (l := l) (fun t ht => h t (by simp [slotsP, ht]))]
theorem op_congr {op : AOp} (h : ∀ t ∈ op.reads, σ.get t = σ'.get t) (hp : Heap) : E.op σ hp op = E.op σ' hp op := by
  cases op <;> simp only [AOp.reads, List.mem_append] at h <;> simp only [Env.op]
  case mv x => rw [opd_congr h]
  case pick c a b => rw [opd_congr (x := c) (fun t ht => h t (.inl ht)), opd_congr (x := a) (fun t ht => h t (.inr (.inl ht))), opd_congr (x := b) (fun t ht => h t (.inr (.inr ht)))]
  case box => rw [opd_congr h]
  case build => rw [parts_congr h]
  case lit => rw [parts_congr h]
  case load => rw [opd_congr h]
  case store => rw [opd_congr (fun t ht => h t (.inl ht)), opd_congr (fun t ht => h t (.inr ht))]
  case nilCheck => rw [opd_congr h]
  case bin => rw [opd_congr (fun t ht => h t (.inl ht)), opd_congr (fun t ht => h t (.inr ht))]
  case eq => rw [opd_congr (fun t ht => h t (.inl ht)), opd_congr (fun t ht => h t (.inr ht))]
  case un => rw [opd_congr h]
  case conv => rw [opd_congr h]
  case mkIface => rw [opd_congr h]
  case mkFunc => rw [opds_congr (fun t ht => h t (.inl ht)), opds_congr (fun t ht => h t (.inr ht))]
  case makeSlice => rw [opd_congr (fun t ht => h t (.inl ht)), opd_congr (fun t ht => h t (.inr ht))]
  case slice => rw [opd_congr (fun t ht => h t (.inl ht)), opdo_congr (fun t ht => h t (.inr (.inl ht))), opdo_congr (fun t ht => h t (.inr (.inr (.inl ht)))), opdo_congr (fun t ht => h t (.inr (.inr (.inr ht))))]
  case sliceStr => rw [opd_congr (fun t ht => h t (.inl ht)), opdo_congr (fun t ht => h t (.inr (.inl ht))), opdo_congr (fun t ht => h t (.inr (.inr ht)))]
  case sliceArr => rw [opd_congr (fun t ht => h t (.inl ht)), opdo_congr (fun t ht => h t (.inr (.inl ht))), opdo_congr (fun t ht => h t (.inr (.inr (.inl ht)))), opdo_congr (fun t ht => h t (.inr (.inr (.inr ht))))]
  case fieldAddr => rw [opd_congr h]
  case field => rw [opd_congr h]
  case idxAddr => rw [opd_congr (fun t ht => h t (.inl ht)), opd_congr (fun t ht => h t (.inr ht))]
  case idxAddrArr => rw [opd_congr (fun t ht => h t (.inl ht)), opd_congr (fun t ht => h t (.inr ht))]
  case idxStr x i => rw [opd_congr (x := x) (fun t ht => h t (.inl ht)), opd_congr (x := i) (fun t ht => h t (.inr ht))]
  case idxArr ag sz n x i => rw [opd_congr (x := x) (fun t ht => h t (.inl ht)), opd_congr (x := i) (fun t ht => h t (.inr ht))]
  case extract => rw [opd_congr h]
  case len => rw [opd_congr h]
  case append => rw [opd_congr (fun t ht => h t (.inl ht)), opd_congr (fun t ht => h t (.inr ht))]
  case minmax => rw [opd_congr (fun t ht => h t (.inl ht)), opd_congr (fun t ht => h t (.inr ht))]
  case cap => rw [opd_congr h]
  case clear => rw [opd_congr h]
  case range => rw [opd_congr h]
  case next => rw [opd_congr h]
  case appendZ => rw [opd_congr (fun t ht => h t (.inl ht)), opd_congr (fun t ht => h t (.inr ht))]
  case copy => rw [opd_congr (fun t ht => h t (.inl ht)), opd_congr (fun t ht => h t (.inr ht))]
theorem act_congr {op : AOp} (h : ∀ t ∈ op.reads, σ.get t = σ'.get t) (C : CallF) (hp : Heap) : E.act C σ hp op = E.act C σ' hp op := by
  by_cases hpl : op.plain = true
  · rw [E_act_plain hpl, E_act_plain hpl, op_congr h]
  · cases op <;> simp only [AOp.plain, not_true_eq_false] at hpl <;> simp only [AOp.reads, List.mem_append] at h <;> simp only [Env.act]
    case call => rw [opds_congr h]
    case callv => rw [opd_congr (fun t ht => h t (.inl ht)), opds_congr (fun t ht => h t (.inr ht))]
    case panic => rw [opd_congr h]
end
section
variable {E : Env} {σ : Slots}
theorem load_class {h : Heap} {ag : Bool} {sz : Nat} {x : AV} {r : OpRes} (e : aLoad h ag sz x = some r) : r.h = h ∧ r.c ≠ .write ∧ (r.c = .none → ∀ h2, aLoad h2 ag sz x = some ⟨r.v, h2, .none⟩) := by
  cases x <;> simp only [aLoad, reduceCtorEq, Option.bind_eq_some_iff, Option.map_eq_some_iff] at e
  · obtain ⟨cs, _, v, _, rfl⟩ := e; exact ⟨rfl, by simp, by simp⟩
  · obtain ⟨v, hv, rfl⟩ := e; exact ⟨rfl, by simp, fun _ h2 => by simp [aLoad, hv]⟩
theorem cells_class {h : Heap} {sz n : Nat} {x : AV} {cs : List AV} {k : Cls} (e : sliceCells h sz n x = some (cs, k)) : k ≠ .write ∧ (k = .none → ∀ h2, sliceCells h2 sz n x = some (cs, .none)) := by
  cases x <;> simp only [sliceCells, reduceCtorEq] at e
  case nils => split at e <;> simp only [Option.some.injEq, Prod.mk.injEq, reduceCtorEq] at e
               rename_i h0; obtain ⟨rfl, rfl⟩ := e; exact ⟨by simp, fun _ h2 => by simp [sliceCells, h0]⟩
  case fs => split at e <;> simp only [Option.some.injEq, Prod.mk.injEq, reduceCtorEq] at e
             rename_i h0; obtain ⟨rfl, rfl⟩ := e; exact ⟨by simp, fun _ h2 => by simp [sliceCells, h0]⟩
  case sl =>
    split at e
    · simp only [Option.bind_eq_some_iff] at e
      obtain ⟨c, _, e⟩ := e
      split at e <;> simp only [Option.some.injEq, Prod.mk.injEq, reduceCtorEq] at e
      obtain ⟨_, rfl⟩ := e; exact ⟨by simp, by simp⟩
    · cases e
  case str => split at e <;> simp only [Option.some.injEq, Prod.mk.injEq, reduceCtorEq] at e
              rename_i h0; obtain ⟨rfl, rfl⟩ := e; exact ⟨by simp, fun _ h2 => by simp [sliceCells, h0]⟩
theorem conv_class {h : Heap} {c : CvT} {x : AV} {r : OpRes} (e : aConv h c x = some r) : (r.c ≠ .write → r.h = h) ∧ (r.c = .none → ∀ h2, aConv h2 c x = some ⟨r.v, h2, .none⟩) := by
  cases c
  case int => cases x <;> simp only [aConv, reduceCtorEq, Option.some.injEq] at e; subst e; exact ⟨fun _ => rfl, fun _ h2 => rfl⟩
  case rune => cases x <;> simp only [aConv, reduceCtorEq, Option.some.injEq] at e; subst e; exact ⟨fun _ => rfl, fun _ h2 => rfl⟩
  case same => cases x <;> simp only [aConv, reduceCtorEq, Option.some.injEq] at e; subst e; exact ⟨fun _ => rfl, fun _ h2 => rfl⟩
  case s2b => cases x <;> simp only [aConv, reduceCtorEq, Option.some.injEq] at e; subst e; exact ⟨fun hc => absurd rfl hc, fun hc => by cases hc⟩
  case s2r => cases x <;> simp only [aConv, reduceCtorEq, Option.some.injEq] at e; subst e; exact ⟨fun hc => absurd rfl hc, fun hc => by cases hc⟩
  case b2s =>
    have : ∃ n cs k bs, aLen x = some n ∧ sliceCells h 1 n x = some (cs, k) ∧ cs.mapM toByte = some bs ∧ r = ⟨.str bs, h, k⟩ ∧ ∀ s, x ≠ .str s := by
      cases x <;> simp only [aConv, reduceCtorEq] at e
      all_goals
        simp only [Option.bind_eq_some_iff, Option.map_eq_some_iff] at e
        obtain ⟨n, hn, ⟨cs, k⟩, hcs, bs, hbs, rfl⟩ := e
        exact ⟨n, cs, k, bs, hn, hcs, hbs, rfl, fun s h => by cases h⟩
    obtain ⟨n, cs, k, bs, hn, hcs, hbs, rfl, hns⟩ := this
    obtain ⟨g1, g2⟩ := cells_class hcs
    refine ⟨fun _ => rfl, fun hk h2 => ?_⟩
    have := g2 hk h2
    cases x <;> first | exact absurd rfl (hns _) | simp [aConv, hn, this, hbs]
  case r2s => simp [aConv] at e
  case b2b =>
    cases x <;> simp only [aConv, reduceCtorEq] at e
    rename_i a b c d f cap
    cases cap <;> simp only [reduceCtorEq] at e
    split at e
    · simp only [Option.bind_eq_some_iff] at e
      obtain ⟨cs, _, e⟩ := e
      split at e <;> simp only [Option.some.injEq, reduceCtorEq] at e
      subst e; exact ⟨fun hc => absurd rfl hc, fun hc => by cases hc⟩
    · cases e
theorem append_class {h : Heap} {sz bt : Nat} {x y : AV} {r : OpRes} (e : aAppend h sz bt x y = some r) : (r.c ≠ .write → r.h = h) ∧ (r.c = .none → ∀ h2, aAppend h2 sz bt x y = some ⟨r.v, h2, .none⟩) := by
  simp only [aAppend, Option.bind_eq_some_iff] at e
  obtain ⟨n, hn, len, hlen, e⟩ := e
  split at e
  case isFalse => cases e
  rename_i hsm
  split at e
  · rename_i h0
    have : r = ⟨x, h, .none⟩ ∧ ∀ s, x ≠ .str s := by
      cases x <;> simp only [Option.some.injEq, reduceCtorEq] at e <;> exact ⟨e.symm, fun s h => by cases h⟩
    obtain ⟨rfl, hns⟩ := this
    refine ⟨fun _ => rfl, fun _ h2 => ?_⟩
    simp only [aAppend, hn, hlen, Option.bind_some, if_pos hsm, if_pos h0]
    all_goals (first | done | (cases x <;> first | exact absurd rfl (hns _) | rfl))
  · simp only [Option.bind_eq_some_iff] at e
    obtain ⟨⟨new, k⟩, _, e⟩ := e
    have hw : r.c = .write := by
      cases x <;> simp only [reduceCtorEq] at e
      case nils => simp only [Option.map_eq_some_iff] at e; obtain ⟨_, _, rfl⟩ := e; rfl
      case fs f _ _ => cases f <;> simp only [reduceCtorEq, Option.map_eq_some_iff] at e; obtain ⟨_, _, rfl⟩ := e; rfl
      case sl a b c d f cap =>
        cases cap <;> dsimp only at e
        · split at e
          · simp only [Option.bind_eq_some_iff] at e
            obtain ⟨_, _, e⟩ := e
            split at e
            · cases e; rfl
            · split at e
              · cases e; rfl
              · cases e
          · cases e
        · split at e
          · split at e
            · simp only [Option.bind_eq_some_iff] at e
              obtain ⟨_, _, e⟩ := e
              split at e
              · cases e; rfl
              · cases e
            · simp only [Option.map_eq_some_iff] at e; obtain ⟨_, _, rfl⟩ := e; rfl
          · cases e
    exact ⟨fun hc => absurd hw hc, fun hc => by rw [hw] at hc; cases hc⟩
theorem op_class {op : AOp} {h : Heap} {r : OpRes} (e : E.op σ h op = some r) : (r.c ≠ .write → r.h = h) ∧ (r.c = .none → ∀ h2, E.op σ h2 op = some ⟨r.v, h2, .none⟩) := by
  have triv : (∀ h2, E.op σ h2 op = some ⟨r.v, h2, .none⟩) → (r.c ≠ .write → r.h = h) ∧ (r.c = .none → ∀ h2, E.op σ h2 op = some ⟨r.v, h2, .none⟩) := by
    intro hall
    have := hall h
    rw [e] at this
    refine ⟨fun _ => ?_, fun _ => hall⟩
    have := Option.some.inj this
    rw [this]
  have wr : r.c = .write → (r.c ≠ .write → r.h = h) ∧ (r.c = .none → ∀ h2, E.op σ h2 op = some ⟨r.v, h2, .none⟩) := fun hw => ⟨fun hc => absurd hw hc, fun hc => by rw [hw] at hc; cases hc⟩
  cases op <;> simp only [Env.op, reduceCtorEq] at e
  case mv => simp only [Option.map_eq_some_iff] at e; obtain ⟨v, hv, rfl⟩ := e; exact triv fun h2 => by simp [Env.op, hv]
  case pick =>
    simp only [Option.bind_eq_some_iff] at e; obtain ⟨c, hc, e⟩ := e
    cases c with
    | bool b => cases b <;> simp only [Option.map_eq_some_iff] at e <;> obtain ⟨v, hv, rfl⟩ := e <;> exact triv fun h2 => by simp [Env.op, hc, hv]
    | _ => cases e
  case alloc => simp only [Option.some.injEq] at e; subst e; exact wr rfl
  case box fr sz x =>
    simp only [Option.bind_eq_some_iff] at e; obtain ⟨v, hv, vs, hvs, e⟩ := e
    split at e
    · rename_i hl
      cases fr
      · simp only [Option.some.injEq] at e; subst e; exact wr rfl
      · simp only [Option.some.injEq] at e; subst e; exact triv fun h2 => by simp [Env.op, hv, hvs, hl]
    · cases e
  case build => simp only [Option.bind_eq_some_iff, Option.map_eq_some_iff] at e; obtain ⟨l, hl, cs, hcs, rfl⟩ := e; exact triv fun h2 => by simp [Env.op, hl, hcs]
  case lit fr sz len cells ps =>
    simp only [Option.bind_eq_some_iff] at e; obtain ⟨l, hl, cs, hcs, e⟩ := e
    split at e
    · rename_i hc
      cases fr
      · simp only [Option.some.injEq] at e; subst e; exact wr rfl
      · simp only [Option.some.injEq] at e; subst e; exact triv fun h2 => by simp [Env.op, hl, hcs, hc]
    · cases e
  case load =>
    simp only [Option.bind_eq_some_iff] at e; obtain ⟨v, hv, e⟩ := e
    obtain ⟨g1, g2, g3⟩ := load_class e
    exact ⟨fun _ => g1, fun hc h2 => by simp [Env.op, hv, g3 hc h2]⟩
  case store =>
    simp only [Option.bind_eq_some_iff] at e; obtain ⟨v, hv, u, hu, e⟩ := e
    cases v <;> simp only [aStore, reduceCtorEq, Option.bind_eq_some_iff] at e
    obtain ⟨_, _, _, _, e⟩ := e
    split at e
    · cases e; exact wr rfl
    · cases e
  case nilCheck =>
    simp only [Option.bind_eq_some_iff] at e; obtain ⟨v, hv, e⟩ := e
    cases v with
    | ptr => cases e; exact triv fun h2 => by simp [Env.op, hv]
    | fp => cases e; exact triv fun h2 => by simp [Env.op, hv]
    | ifc => cases e; exact triv fun h2 => by simp [Env.op, hv]
    | fn f =>
      cases f with
      | func => cases e; exact triv fun h2 => by simp [Env.op, hv]
      | _ => cases e
    | _ => cases e
  case bin => simp only [Option.bind_eq_some_iff, Option.map_eq_some_iff] at e; obtain ⟨v, hv, u, hu, q, hq, rfl⟩ := e; exact triv fun h2 => by simp [Env.op, hv, hu, hq]
  case eq => simp only [Option.bind_eq_some_iff, Option.map_eq_some_iff] at e; obtain ⟨v, hv, u, hu, q, hq, rfl⟩ := e; exact triv fun h2 => by simp [Env.op, hv, hu, hq]
  case un => simp only [Option.bind_eq_some_iff, Option.map_eq_some_iff] at e; obtain ⟨v, hv, q, hq, rfl⟩ := e; exact triv fun h2 => by simp [Env.op, hv, hq]
  case conv =>
    simp only [Option.bind_eq_some_iff] at e; obtain ⟨v, hv, e⟩ := e
    obtain ⟨g1, g2⟩ := conv_class e
    exact ⟨g1, fun hc h2 => by simp [Env.op, hv, g2 hc h2]⟩
  case mkIface => simp only [Option.map_eq_some_iff] at e; obtain ⟨v, hv, rfl⟩ := e; exact triv fun h2 => by simp [Env.op, hv]
  case mkFunc => simp only [Option.bind_eq_some_iff, Option.map_eq_some_iff] at e; obtain ⟨v, hv, u, hu, rfl⟩ := e; exact triv fun h2 => by simp [Env.op, hv, hu]
  case makeSlice =>
    simp only [Option.bind_eq_some_iff] at e; obtain ⟨v, hv, u, hu, e⟩ := e
    unfold aMakeSlice at e
    split at e
    · split at e
      · cases e; exact wr rfl
      · cases e
    · cases e
  case slice =>
    simp only [Option.bind_eq_some_iff] at e; obtain ⟨v, hv, a, ha, b, hb, c, hc, e⟩ := e
    split at e
    · rename_i q hq
      cases e
      exact triv fun h2 => by simp [Env.op, hv, ha, hb, hc, hq]
    · unfold aSliceH at e
      split at e
      · split at e
        · simp only [Option.bind_eq_some_iff, Option.map_eq_some_iff] at e
          obtain ⟨cs, _, ⟨l, u, m⟩, _, rfl⟩ := e
          exact ⟨fun _ => rfl, fun hc => by cases hc⟩
        · cases e
      · cases e
  case cap => simp only [Option.bind_eq_some_iff, Option.map_eq_some_iff] at e; obtain ⟨v, hv, q, hq, rfl⟩ := e; exact triv fun h2 => by simp [Env.op, hv, hq]
  case appendZ =>
    simp only [Option.bind_eq_some_iff] at e; obtain ⟨v, hv, u, hu, e⟩ := e
    unfold aAppendZ at e
    split at e
    · split at e
      · cases e; exact wr rfl
      · cases e
    · cases e
  case range =>
    simp only [Env.op, Option.bind_eq_some_iff] at e
    obtain ⟨v, _, e⟩ := e
    cases v <;> simp only [reduceCtorEq, Option.some.injEq] at e
    exact wr (by rw [← e])
  case next =>
    simp only [Env.op, Option.bind_eq_some_iff] at e
    obtain ⟨v, _, e⟩ := e
    cases v <;> simp only [reduceCtorEq] at e
    refine wr ?_
    unfold aNext at e
    split at e
    · split at e
      · cases e; rfl
      · cases e; rfl
    · cases e
  case clear =>
    simp only [Option.bind_eq_some_iff] at e; obtain ⟨v, hv, e⟩ := e
    cases v <;> simp only [aClear, reduceCtorEq] at e
    · cases e; exact triv fun h2 => by simp [Env.op, hv, aClear]
    · split at e
      · rename_i h0
        cases e; exact triv fun h2 => by simp [Env.op, hv, aClear, h0]
      · split at e
        · simp only [Option.bind_eq_some_iff] at e
          obtain ⟨cs, _, e⟩ := e
          split at e
          · cases e; exact wr rfl
          · cases e
        · cases e
    · split at e
      · rename_i h0
        cases e; exact triv fun h2 => by simp [Env.op, hv, aClear, h0]
      · cases e
  case copy =>
    simp only [Option.bind_eq_some_iff] at e; obtain ⟨v, hv, u, hu, e⟩ := e
    simp only [aCopy, Option.bind_eq_some_iff] at e
    obtain ⟨m, hm, e⟩ := e
    cases v <;> simp only [reduceCtorEq] at e
    · cases e; exact triv fun h2 => by simp [Env.op, hv, hu, aCopy, hm]
    · split at e
      · rename_i h0
        cases e; exact triv fun h2 => by simp only [Env.op, hv, hu, aCopy, hm, Option.bind_some, if_pos h0]
      · split at e
        · simp only [Option.bind_eq_some_iff] at e
          obtain ⟨⟨new, kn⟩, _, cs, _, e⟩ := e
          dsimp only at e
          split at e
          · cases e; exact wr rfl
          · cases e
        · cases e
    · split at e
      · rename_i h0
        cases e; exact triv fun h2 => by simp only [Env.op, hv, hu, aCopy, hm, Option.bind_some, if_pos h0]
      · cases e
  case sliceStr => simp only [Option.bind_eq_some_iff, Option.map_eq_some_iff] at e; obtain ⟨v, hv, a, ha, b, hb, q, hq, rfl⟩ := e; exact triv fun h2 => by simp [Env.op, hv, ha, hb, hq]
  case sliceArr =>
    simp only [Option.bind_eq_some_iff] at e; obtain ⟨v, hv, a, ha, b, hb, c, hc, e⟩ := e
    cases v <;> simp only [aSliceArr, reduceCtorEq] at e
    · simp only [Option.bind_eq_some_iff] at e; obtain ⟨cs, _, e⟩ := e
      split at e
      · simp only [Option.map_eq_some_iff] at e; obtain ⟨⟨l, u, m⟩, _, rfl⟩ := e; exact ⟨fun _ => rfl, fun hc => by cases hc⟩
      · cases e
    · split at e
      · rename_i hf
        simp only [Option.map_eq_some_iff] at e; obtain ⟨⟨l, u, m⟩, hq, rfl⟩ := e; exact triv fun h2 => by simp [Env.op, hv, ha, hb, hc, aSliceArr, hf, hq]
      · cases e
  case fieldAddr =>
    simp only [Option.bind_eq_some_iff] at e; obtain ⟨v, hv, e⟩ := e
    cases v <;> simp only [reduceCtorEq, Option.some.injEq] at e
    · subst e; exact triv fun h2 => by simp [Env.op, hv]
    · subst e; exact triv fun h2 => by simp [Env.op, hv]
  case field =>
    simp only [Option.bind_eq_some_iff] at e; obtain ⟨v, hv, e⟩ := e
    cases v <;> simp only [reduceCtorEq] at e
    split at e
    · rename_i hf
      simp only [Option.map_eq_some_iff] at e; obtain ⟨q, hq, rfl⟩ := e; exact triv fun h2 => by simp [Env.op, hv, hf, hq]
    · cases e
  case idxAddr => simp only [Option.bind_eq_some_iff, Option.map_eq_some_iff] at e; obtain ⟨v, hv, u, hu, q, hq, rfl⟩ := e; exact triv fun h2 => by simp [Env.op, hv, hu, hq]
  case idxAddrArr => simp only [Option.bind_eq_some_iff, Option.map_eq_some_iff] at e; obtain ⟨v, hv, u, hu, q, hq, rfl⟩ := e; exact triv fun h2 => by simp [Env.op, hv, hu, hq]
  case idxStr =>
    simp only [Option.bind_eq_some_iff] at e; obtain ⟨v, hv, e⟩ := e
    cases v <;> simp only [reduceCtorEq, Option.bind_eq_some_iff, Option.map_eq_some_iff] at e
    obtain ⟨u, hu, j, hj, c, hc, rfl⟩ := e; exact triv fun h2 => by simp [Env.op, hv, hu, hj, hc]
  case idxArr =>
    simp only [Option.bind_eq_some_iff] at e; obtain ⟨v, hv, e⟩ := e
    cases v <;> simp only [reduceCtorEq, Option.bind_eq_some_iff] at e
    obtain ⟨u, hu, j, hj, e⟩ := e
    split at e
    · rename_i hf
      simp only [Option.map_eq_some_iff] at e; obtain ⟨q, hq, rfl⟩ := e; exact triv fun h2 => by simp [Env.op, hv, hu, hj, hf, hq]
    · cases e
  case extract =>
    simp only [Option.bind_eq_some_iff] at e; obtain ⟨v, hv, e⟩ := e
    cases v <;> simp only [reduceCtorEq, Option.map_eq_some_iff] at e
    obtain ⟨q, hq, rfl⟩ := e; exact triv fun h2 => by simp [Env.op, hv, hq]
  case len b x =>
    simp only [Option.bind_eq_some_iff] at e; obtain ⟨v, hv, e⟩ := e
    cases b <;> cases v <;> simp only [reduceCtorEq, Option.some.injEq] at e <;> subst e <;> exact triv fun h2 => by simp [Env.op, hv]
  case append =>
    simp only [Option.bind_eq_some_iff] at e; obtain ⟨v, hv, u, hu, e⟩ := e
    obtain ⟨g1, g2⟩ := append_class e
    exact ⟨g1, fun hc h2 => by simp [Env.op, hv, hu, g2 hc h2]⟩
  case minmax => simp only [Option.bind_eq_some_iff, Option.map_eq_some_iff] at e; obtain ⟨v, hv, u, hu, q, hq, rfl⟩ := e; exact triv fun h2 => by simp [Env.op, hv, hu, hq]
end
end Go.AM

set_option linter.unusedSimpArgs false
set_option linter.unusedVariables false
namespace Go.AM
open Go.RowKit
theorem fold_bits (A : Array Nat) (es : List Edge) : ∀ (s i : Nat), Nat.testBit (es.foldl (fun s e => if Region.binds .any e then s ||| 2 ^ e.on ||| A.getD e.on 0 else s) s) i = true →
    Nat.testBit s i = true ∨ ∃ e ∈ es, Region.binds .any e = true ∧ (e.on = i ∨ Nat.testBit (A.getD e.on 0) i = true) := by
  induction es with
  | nil => intro s i h; exact .inl h
  | cons e es ih =>
    intro s i h
    simp only [List.foldl_cons] at h
    rcases ih _ i h with h | ⟨e', he', hb, h⟩
    · by_cases hb : Region.binds .any e = true
      · rw [if_pos hb] at h
        simp only [Nat.testBit_or, Bool.or_eq_true] at h
        rcases h with (h | h) | h
        · exact .inl h
        · refine .inr ⟨e, by simp, hb, .inl ?_⟩
          rw [Nat.testBit_two_pow] at h
          simpa using h
        · exact .inr ⟨e, by simp, hb, .inr h⟩
      · rw [if_neg hb] at h; exact .inl h
    · exact .inr ⟨e', by simp [he'], hb, h⟩
/-- Each that is ahead is ahead by an edge, or ahead of one that is. -/
def Chained (ops : List Oper) (A : Array Nat) : Prop :=
  ∀ j, j < A.size → ∀ i, Nat.testBit (A.getD j 0) i = true → ∃ o, ops[j]? = some o ∧ ∃ e ∈ o.after.toList, Region.binds .any e = true ∧ (e.on = i ∨ (e.on < j ∧ Nat.testBit (A.getD e.on 0) i = true))
theorem chained_fold : ∀ (l done : List Oper) (A : Array Nat), A.size = done.length → Chained (done ++ l) A →
    Chained (done ++ l) (l.foldl (fun acc o => acc.push (o.after.foldl (fun s e => if Region.binds .any e then s ||| 2 ^ e.on ||| acc.getD e.on 0 else s) 0)) A) ∧
    (l.foldl (fun acc o => acc.push (o.after.foldl (fun s e => if Region.binds .any e then s ||| 2 ^ e.on ||| acc.getD e.on 0 else s) 0)) A).size = done.length + l.length
  | [], done, A, hs, h => ⟨by simpa using h, by simpa using hs⟩
  | o :: l, done, A, hs, h => by
    simp only [List.foldl_cons]
    have h2 : Chained ((done ++ [o]) ++ l) (A.push (o.after.foldl (fun s e => if Region.binds .any e then s ||| 2 ^ e.on ||| A.getD e.on 0 else s) 0)) := by
      rw [List.append_assoc]
      intro j hj i hb
      simp only [Array.size_push] at hj
      have hlow : ∀ k, k < A.size → (A.push (o.after.foldl (fun s e => if Region.binds .any e then s ||| 2 ^ e.on ||| A.getD e.on 0 else s) 0)).getD k 0 = A.getD k 0 := by
        intro k hk
        simp only [Array.getD_eq_getD_getElem?, Array.getElem?_push]
        rw [if_neg (by omega)]
      have hz : ∀ k, Nat.testBit (A.getD k 0) i = true → k < A.size := by
        intro k hk
        apply Nat.lt_of_not_le
        intro hle
        simp only [Array.getD_eq_getD_getElem?, Array.getElem?_eq_none hle, Option.getD_none, Nat.zero_testBit, reduceCtorEq] at hk
      by_cases hjk : j < A.size
      · rw [hlow j hjk] at hb
        obtain ⟨o', ho', e, he, hbi, hor⟩ := h j hjk i hb
        refine ⟨o', ho', e, he, hbi, hor.imp id fun ⟨q1, q2⟩ => ⟨q1, ?_⟩⟩
        rw [hlow e.on (by omega)]; exact q2
      · have hjeq : j = A.size := by omega
        subst hjeq
        have hv : (A.push (o.after.foldl (fun s e => if Region.binds .any e then s ||| 2 ^ e.on ||| A.getD e.on 0 else s) 0)).getD A.size 0 = o.after.foldl (fun s e => if Region.binds .any e then s ||| 2 ^ e.on ||| A.getD e.on 0 else s) 0 := by
          simp [Array.getD_eq_getD_getElem?]
        rw [hv, ← Array.foldl_toList] at hb
        rcases fold_bits A o.after.toList 0 i hb with hb | ⟨e, he, hbi, hor⟩
        · simp at hb
        · refine ⟨o, by simp [hs], e, he, hbi, hor.imp id fun q => ⟨hz _ q, ?_⟩⟩
          rw [hlow e.on (hz _ q)]; exact q
    obtain ⟨g1, g2⟩ := chained_fold l (done ++ [o]) _ (by simp [hs]) h2
    refine ⟨by simpa using g1, ?_⟩
    rw [g2]
    simp only [List.length_append, List.length_cons, List.length_nil]; omega
theorem before_chained (ops : Array Oper) : Chained ops.toList (Region.before ops) ∧ (Region.before ops).size = ops.size := by
  have := chained_fold ops.toList [] #[] rfl (fun j hj => by simp at hj)
  simp only [List.nil_append, List.length_nil, Nat.zero_add, Array.length_toList] at this
  have e : Region.before ops = ops.toList.foldl (fun acc o => acc.push (o.after.foldl (fun s e => if Region.binds .any e then s ||| 2 ^ e.on ||| acc.getD e.on 0 else s) 0)) #[] := by
    simp only [Region.before, ← Array.foldl_toList]
  rw [e]
  exact this
/-- Is the one ahead of the other? -/
def Ord (ops : Array Oper) (i j : Nat) : Prop := Nat.testBit ((Region.before ops).getD j 0) i = true
/-- What is listed is closed under the edges. -/
def Closed (ops : Array Oper) (L : Nat → Bool) : Prop := ∀ j o, ops[j]? = some o → L j = true → ∀ e ∈ o.after.toList, Region.binds .any e = true → L e.on = true
theorem closed_ord {ops : Array Oper} {L : Nat → Bool} (hL : Closed ops L) : ∀ (j : Nat), j < ops.size → ∀ i, Ord ops i j → (∀ o, ops[j]? = some o → ∀ e ∈ o.after.toList, Region.binds .any e = true → L e.on = true) → L i = true := by
  intro j
  induction j using Nat.strongRecOn with
  | _ j ih =>
    intro hj i hb hE
    obtain ⟨g1, g2⟩ := before_chained ops
    obtain ⟨o, ho, e, he, hbi, hor⟩ := g1 j (by rw [g2]; exact hj) i hb
    have ho' : ops[j]? = some o := by simpa using ho
    have hle := hE o ho' e he hbi
    rcases hor with rfl | ⟨hlt, hb'⟩
    · exact hle
    · exact ih e.on hlt (by omega) i hb' fun o' ho2 e' he' hbi' => hL e.on o' ho2 hle e' he' hbi'
theorem log_states {E : Env} {C : CallF} : ∀ (l : List AOper) (s s' : St) (log : List (AOper × St × Cls)), E.opsLog C l s = some (s', log) →
    ∃ S : Nat → St, S 0 = s ∧ S l.length = s' ∧ log.length = l.length ∧ ∀ k ao, l[k]? = some ao → ∃ c, log[k]? = some (ao, S k, c) ∧ E.one C ao (S k) = some (S (k + 1), c, none)
  | [], s, s', log, h => by
    simp only [Env.opsLog, Option.some.injEq, Prod.mk.injEq] at h
    obtain ⟨rfl, rfl⟩ := h
    exact ⟨fun _ => s, rfl, rfl, rfl, fun k ao h => by simp at h⟩
  | o :: l, s, s', log, h => by
    simp only [Env.opsLog, Option.bind_eq_some_iff] at h
    obtain ⟨⟨s1, c, p⟩, h1, h2⟩ := h
    cases p with
    | some v => cases h2
    | none =>
      simp only [Option.map_eq_some_iff] at h2
      obtain ⟨⟨r, lg⟩, h3, h4⟩ := h2
      simp only [Prod.mk.injEq] at h4
      obtain ⟨rfl, rfl⟩ := h4
      obtain ⟨S, g0, g1, g2, g3⟩ := log_states l s1 _ _ h3
      refine ⟨fun k => match k with | 0 => s | k + 1 => S k, rfl, g1, by simp [g2], fun k ao hk => ?_⟩
      cases k with
      | zero => simp at hk; subst hk; exact ⟨c, rfl, h1.trans (by show some (s1, c, none) = some (S 0, c, none); rw [g0])⟩
      | succ k => simp at hk; exact g3 k ao hk
/-- What a step of the text's run did. -/
structure Did (E : Env) (C : CallF) (ao : AOper) (s s' : St) (c : Cls) (v : AV) : Prop where
  put : s' = s.put ao.dst v s'.h
  how : (ao.wanted s.σ = true ∧ E.act C s.σ s.h ao.op = some (.ret ⟨v, s'.h, c⟩)) ∨ (ao.wanted s.σ = false ∧ v = .undef ∧ c = .none ∧ s'.h = s.h)
theorem one_did {E : Env} {C : CallF} {ao : AOper} {s s' : St} {c : Cls} (h : E.one C ao s = some (s', c, none)) : ∃ v, Did E C ao s s' c v := by
  unfold Env.one at h
  cases hw : ao.wanted s.σ with
  | true =>
    rw [hw] at h
    simp only [Option.map_eq_some_iff] at h
    obtain ⟨out, ho, h⟩ := h
    cases out with
    | panic v h' => simp only [Prod.mk.injEq, reduceCtorEq, and_false] at h
    | ret r =>
      simp only [Prod.mk.injEq, and_true] at h
      obtain ⟨rfl, rfl⟩ := h
      have hh : (s.put ao.dst r.v r.h).h = r.h := by cases hd : ao.dst <;> rfl
      exact ⟨r.v, by rw [hh], .inl ⟨hw, by rw [hh]; exact ho⟩⟩
  | false =>
    rw [hw] at h
    simp only [Option.some.injEq, Prod.mk.injEq, and_true] at h
    obtain ⟨rfl, rfl⟩ := h
    have hh : (s.put ao.dst .undef s.h).h = s.h := by cases hd : ao.dst <;> rfl
    exact ⟨.undef, by rw [hh], .inr ⟨hw, rfl, rfl, hh⟩⟩
section
variable (σ0 : Slots) (dst : Nat → Option Nat) (v : Nat → AV)
def slotsAt (L : Nat → Bool) : Nat → Slots
  | 0 => σ0
  | k + 1 => match L k, dst k with
    | true, some d => (slotsAt L k).put d (v k)
    | _, _ => slotsAt L k
variable {σ0 dst v}
theorem slotsAt_get (L : Nat → Bool) (k t : Nat) : (slotsAt σ0 dst v L (k + 1)).get t = if L k = true ∧ dst k = some t then v k else (slotsAt σ0 dst v L k).get t := by
  simp only [slotsAt]
  cases hL : L k with
  | false => simp
  | true =>
    cases hd : dst k with
    | none => simp
    | some d =>
      simp only [Slots.get_put, true_and, Option.some.injEq]
      by_cases h : t = d
      · subst h; simp
      · rw [if_neg h, if_neg (fun e => h e.symm)]
/-- two listings that agree on whoever writes the slot -/
theorem slotsAt_agree {L L' : Nat → Bool} {t : Nat} : ∀ (n : Nat), (∀ k, k < n → dst k = some t → L k = L' k) → (slotsAt σ0 dst v L n).get t = (slotsAt σ0 dst v L' n).get t
  | 0, _ => rfl
  | n + 1, h => by
    rw [slotsAt_get, slotsAt_get, slotsAt_agree n (fun k hk => h k (by omega))]
    by_cases hd : dst n = some t
    · rw [h n (by omega) hd]
    · simp [hd]
/-- nobody behind writes the slot -/
theorem slotsAt_stop {L : Nat → Bool} {t i : Nat} : ∀ (n : Nat), i ≤ n → (∀ k, i ≤ k → k < n → dst k = some t → L k = false) → (slotsAt σ0 dst v L n).get t = (slotsAt σ0 dst v L i).get t := by
  intro n hin
  induction n with
  | zero => intro _; have : i = 0 := by omega
            subst this; rfl
  | succ n ih =>
    intro h
    by_cases he : i = n + 1
    · subst he; rfl
    · rw [slotsAt_get, ih (by omega) (fun k h1 h2 => h k h1 (by omega))]
      rw [if_neg]
      rintro ⟨h1, h2⟩
      have := h n (by omega) (by omega) h2
      rw [h1] at this; cases this
end
/-- how many are not listed -/
def left (L : Nat → Bool) : Nat → Nat
  | 0 => 0
  | n + 1 => left L n + (match L n with | true => 0 | false => 1)
theorem left_set {L L' : Nat → Bool} {i : Nat} (hi : L i = false) (hi' : L' i = true) (ho : ∀ k, k ≠ i → L' k = L k) : ∀ n, (i < n → left L' n + 1 = left L n) ∧ (n ≤ i → left L' n = left L n)
  | 0 => ⟨fun h => by omega, fun _ => rfl⟩
  | n + 1 => by
    obtain ⟨g1, g2⟩ := left_set hi hi' ho n
    refine ⟨fun h => ?_, fun h => ?_⟩
    · by_cases he : i = n
      · subst he
        simp only [left, hi, hi', g2 (Nat.le_refl _)]
      · have h1 := g1 (by omega)
        simp only [left, ho n (Ne.symm he)]
        omega
    · simp only [left, ho n (by omega), g2 (by omega)]
theorem left_zero {L : Nat → Bool} : ∀ n, left L n = 0 → ∀ k, k < n → L k = true
  | 0, _, k, hk => by omega
  | n + 1, h, k, hk => by
    simp only [left] at h
    by_cases he : k = n
    · subst he
      cases hL : L k with
      | true => rfl
      | false => rw [hL] at h; simp at h
    · exact left_zero n (by omega) k (by omega)
theorem left_none : ∀ n, left (fun _ => false) n = n
  | 0 => rfl
  | n + 1 => by simp [left, left_none n]
end Go.AM

set_option linter.unusedSimpArgs false
set_option linter.unusedVariables false
namespace Go.AM
open Go.RowKit
theorem staticFrom_spec {x : AOper} {i : Nat} : ∀ {ys : List AOper} {ms : List Nat}, staticFrom x i ys ms = true → ∀ (k : Nat) {y : AOper} {m : Nat}, ys[k]? = some y → ms[k]? = some m → x.clash y = true → Nat.testBit m i = true
  | [], _, _, k, y, m, hy, _, _ => by simp at hy
  | _ :: _, [], _, k, y, m, _, hm, _ => by simp at hm
  | y0 :: ys, m0 :: ms, h, k, y, m, hy, hm, hc => by
    simp only [staticFrom, Bool.and_eq_true, Bool.or_eq_true, Bool.not_eq_true'] at h
    cases k with
    | zero =>
      simp at hy hm; subst hy; subst hm
      rcases h.1 with h | h
      · rw [hc] at h; cases h
      · exact h
    | succ k => simp at hy hm; exact staticFrom_spec h.2 k hy hm hc
theorem staticAll_spec : ∀ {l : List AOper} {ms : List Nat} {b : Nat}, staticAll b l ms = true → ∀ (i j : Nat) {x y : AOper} {m : Nat}, i < j → l[i]? = some x → l[j]? = some y → ms[j]? = some m → x.clash y = true → Nat.testBit m (b + i) = true
  | [], _, _, _, i, j, x, y, m, _, hx, _, _, _ => by simp at hx
  | _ :: _, [], _, _, i, j, x, y, m, _, _, _, hm, _ => by simp at hm
  | x0 :: l, m0 :: ms, b, h, i, j, x, y, m, hij, hx, hy, hm, hc => by
    simp only [staticAll, Bool.and_eq_true] at h
    cases j with
    | zero => omega
    | succ j =>
      simp at hy hm
      cases i with
      | zero => simp at hx; subst hx; exact staticFrom_spec h.1 j hy hm hc
      | succ i =>
        simp at hx
        have := staticAll_spec h.2 i j (by omega) hx hy hm hc
        rw [show b + (i + 1) = b + 1 + i by omega]; exact this
theorem apartAll_spec {E : Env} {hs : List Heap} {x : AOper × St × Cls} {i : Nat} : ∀ {ys : List (AOper × St × Cls)} {ms : List Nat}, E.apartAll hs x i ys ms = true → ∀ (k : Nat) {y : AOper × St × Cls} {m : Nat}, ys[k]? = some y → ms[k]? = some m →
    E.apart (Nat.testBit m i) hs x y = true
  | [], _, _, k, y, m, hy, _ => by simp at hy
  | _ :: _, [], _, k, y, m, _, hm => by simp at hm
  | y0 :: ys, m0 :: ms, h, k, y, m, hy, hm => by
    simp only [Env.apartAll, Bool.and_eq_true] at h
    cases k with
    | zero => simp at hy hm; subst hy; subst hm; exact h.1
    | succ k => simp at hy hm; exact apartAll_spec h.2 k hy hm
theorem drawOk_spec {E : Env} {hs : List Heap} : ∀ {l : List (AOper × St × Cls)} {ms : List Nat} {b : Nat}, E.drawOk hs b l ms = true → ∀ (i j : Nat) {x y : AOper × St × Cls} {m : Nat}, i < j → l[i]? = some x → l[j]? = some y → ms[j]? = some m →
    E.apart (Nat.testBit m (b + i)) hs x y = true
  | [], _, _, _, i, j, x, y, m, _, hx, _, _ => by simp at hx
  | _ :: _, [], _, _, i, j, x, y, m, _, _, _, hm => by simp at hm
  | x0 :: l, m0 :: ms, b, h, i, j, x, y, m, hij, hx, hy, hm => by
    simp only [Env.drawOk, Bool.and_eq_true] at h
    cases j with
    | zero => omega
    | succ j =>
      simp at hy hm
      cases i with
      | zero => simp at hx; subst hx; exact apartAll_spec h.1 j hy hm
      | succ i =>
        simp at hx
        have := drawOk_spec h.2 i j (by omega) hx hy hm
        rw [show b + (i + 1) = b + 1 + i by omega]; exact this
theorem steady_spec {E : Env} {o : AOper} {s : St} : ∀ {hs : List Heap}, E.steady o s hs = true → ∀ h ∈ hs, ∃ r r', E.op s.σ s.h o.op = some r ∧ E.op s.σ h o.op = some r' ∧ r.v = r'.v ∧ r'.c ≠ .write
  | [], _, h, hm => by cases hm
  | h0 :: hs, hst, h, hm => by
    simp only [Env.steady, Bool.and_eq_true] at hst
    cases hm with
    | tail _ hm => exact steady_spec hst.2 h hm
    | head =>
      have h1 := hst.1
      cases e1 : E.op s.σ s.h o.op with
      | none => rw [e1] at h1; simp at h1
      | some r =>
        cases e2 : E.op s.σ h0 o.op with
        | none => rw [e1, e2] at h1; simp at h1
        | some r' =>
          rw [e1, e2] at h1
          simp only [Bool.and_eq_true] at h1
          refine ⟨r, r', rfl, rfl, AV.same_eq h1.1, fun hc => ?_⟩
          rw [hc] at h1
          simp at h1
section
variable {B : Nat} {w0 : World} {E : Env} {P : Program}
/-- what a call answers that does not look at the heap -/
def Quiet (C : CallF) : Prop := (∀ f args h v h1, C f args h = some (.ret ⟨v, h1, .none⟩) → h1 = h ∧ ∀ h2, C f args h2 = some (.ret ⟨v, h2, .none⟩)) ∧ ∀ f args h v h1, C f args h ≠ some (.ret ⟨v, h1, .read⟩)
theorem act_class {C : CallF} (hq : Quiet C) {σ : Slots} {h : Heap} {op : AOp} {r : OpRes} (e : E.act C σ h op = some (.ret r)) :
    (r.c ≠ .write → r.h = h) ∧ (r.c = .none → ∀ h2, E.act C σ h2 op = some (.ret ⟨r.v, h2, .none⟩)) ∧ (r.c = .read → E.op σ h op = some r ∧ op.plain = true) := by
  by_cases hp : op.plain = true
  · rw [E_act_plain hp] at e
    simp only [Option.map_eq_some_iff, COut.ret.injEq] at e
    obtain ⟨r', hr, rfl⟩ := e
    obtain ⟨g1, g2⟩ := op_class hr
    exact ⟨g1, fun hc h2 => by rw [E_act_plain hp, g2 hc h2]; rfl, fun _ => ⟨hr, hp⟩⟩
  · have key : ∀ f l, (∀ h2, E.act C σ h2 op = C f l h2) → (r.c ≠ .write → r.h = h) ∧ (r.c = .none → ∀ h2, E.act C σ h2 op = some (.ret ⟨r.v, h2, .none⟩)) ∧ (r.c = .read → E.op σ h op = some r ∧ op.plain = true) := by
      intro f l hall
      rw [hall] at e
      obtain ⟨rv, rh, rc⟩ := r
      cases rc with
      | none =>
        obtain ⟨g1, g2⟩ := hq.1 _ _ _ _ _ e
        exact ⟨fun _ => g1, fun _ h2 => by rw [hall]; exact g2 h2, fun hc => by cases hc⟩
      | read => exact absurd e (hq.2 _ _ _ _ _)
      | write => exact ⟨(fun hc => absurd rfl hc), (fun hc => by cases hc), (fun hc => by cases hc)⟩
    cases op <;> simp only [AOp.plain, not_true_eq_false] at hp
    case call f args =>
      have e' := e
      simp only [Env.act, Option.bind_eq_some_iff] at e'
      obtain ⟨l, hl, _⟩ := e'
      exact key f l fun h2 => by simp only [Env.act, hl, Option.bind_some]
    case callv f args =>
      have e' := e
      simp only [Env.act, Option.bind_eq_some_iff] at e'
      obtain ⟨fv, hfv, e'⟩ := e'
      cases fv with
      | fn g a b =>
        cases g with
        | func g =>
          simp only [Option.bind_eq_some_iff] at e'
          obtain ⟨l, hl, _⟩ := e'
          exact key g (a ++ l ++ b) fun h2 => by simp only [Env.act, hfv, Option.bind_some, hl]
        | _ => cases e'
      | _ => cases e'
    case panic x =>
      simp only [Env.act, Option.bind_eq_some_iff] at e
      obtain ⟨v, _, e⟩ := e
      cases v <;> simp only [Option.some.injEq, reduceCtorEq] at e
/-- All that the text's run tells of a region. -/
structure Text (P : Program) (E : Env) (C : CallF) (n : Nat) (fz : TypeId → Bool) (thaw : Nat → Bool) (ops : Array Oper) (s s' : St) (S : Nat → St) (c : Nat → Cls) (v : Nat → AV) : Prop where
  first : S 0 = s
  last : S ops.size = s'
  did : ∀ k o, ops[k]? = some o → Did E C (trOper P n fz thaw ops o) (S k) (S (k + 1)) (c k) (v k)
  apart : ∀ i j oi oj, i < j → ops[i]? = some oi → ops[j]? = some oj → ¬ Ord ops i j →
    (c i = .none ∨ c j = .none ∨ (c i = .read ∧ c j = .read) ∨
      (c i = .read ∧ c j = .write ∧ ∀ k ≤ ops.size, ∃ r r', E.op (S i).σ (S i).h (trOper P n fz thaw ops oi).op = some r ∧ E.op (S i).σ (S k).h (trOper P n fz thaw ops oi).op = some r' ∧ r.v = r'.v ∧ r'.c ≠ .write) ∨
      (c i = .write ∧ c j = .read ∧ ∀ k ≤ ops.size, ∃ r r', E.op (S j).σ (S j).h (trOper P n fz thaw ops oj).op = some r ∧ E.op (S j).σ (S k).h (trOper P n fz thaw ops oj).op = some r' ∧ r.v = r'.v ∧ r'.c ≠ .write))
  clash : ∀ i j oi oj, i < j → ops[i]? = some oi → ops[j]? = some oj → (trOper P n fz thaw ops oi).clash (trOper P n fz thaw ops oj) = true → Ord ops i j
  back : ∀ i o, ops[i]? = some o → ∀ e ∈ o.after.toList, Region.binds .any e = true → e.on < i
theorem text_of {C : CallF} {n : Nat} {fz : TypeId → Bool} {thaw : Nat → Bool} {ops : Array Oper} {s s' : St} {e : AExit}
    (hst : drawStatic ops (ops.toList.map (trOper P n fz thaw ops)) (Region.before ops).toList = true)
    (h : E.draws C (ops.toList.map (trOper P n fz thaw ops)) (Region.before ops).toList s = some (e, s')) : e = .norm ∧ ∃ S c v, Text P E C n fz thaw ops s s' S c v := by
  simp only [Env.draws, Option.bind_eq_some_iff] at h
  obtain ⟨⟨s1, log⟩, hlog, h⟩ := h
  dsimp only at h
  split at h
  case isFalse => cases h
  rename_i hok
  simp only [Option.some.injEq, Prod.mk.injEq] at h
  obtain ⟨rfl, rfl⟩ := h
  refine ⟨rfl, ?_⟩
  obtain ⟨S, g0, g1, g2, g3⟩ := log_states _ _ _ _ hlog
  simp only [List.length_map, Array.length_toList] at g1 g2
  have hl : ∀ (k : Nat) (o : Oper), ops[k]? = some o → (ops.toList.map (trOper P n fz thaw ops))[k]? = some (trOper P n fz thaw ops o) := by
    intro k o ho; simp [ho]
  have hstep : ∀ (k : Nat), ∃ (c : Cls) (v : AV), ∀ (o : Oper), ops[k]? = some o → log[k]? = some (trOper P n fz thaw ops o, S k, c) ∧ Did E C (trOper P n fz thaw ops o) (S k) (S (k + 1)) c v := by
    intro k
    cases ho : ops[k]? with
    | none => exact ⟨.none, .undef, fun o h => by cases h⟩
    | some o =>
      obtain ⟨c, q1, q2⟩ := g3 k _ (hl k o ho)
      obtain ⟨v, hv⟩ := one_did q2
      exact ⟨c, v, fun o' h => by cases h; exact ⟨q1, hv⟩⟩
  obtain ⟨c, hc⟩ := Classical.skolem.1 hstep
  obtain ⟨v, hv⟩ := Classical.skolem.1 hc
  have hB : ∀ (j : Nat) (o : Oper), ops[j]? = some o → (Region.before ops).toList[j]? = some ((Region.before ops).getD j 0) := by
    intro j o ho
    obtain ⟨hj, _⟩ := Array.getElem?_eq_some_iff.1 ho
    have hsz := (before_chained ops).2
    have hj' : j < (Region.before ops).size := by omega
    simp [Array.getD_eq_getD_getElem?, hj']
  have hheap : ∀ k ≤ ops.size, (S k).h ∈ (s1.h :: log.map fun x => x.2.1.h) := by
    intro k hk
    by_cases he : k = ops.size
    · subst he; rw [g1]; simp
    · have hlt : k < ops.size := by omega
      have ho := Array.getElem?_eq_getElem hlt
      have := (hv k _ ho).1
      refine List.mem_cons_of_mem _ (List.mem_map.2 ⟨_, List.mem_of_getElem? this, rfl⟩)
  simp only [drawStatic, Bool.and_eq_true] at hst
  refine ⟨S, c, v, g0, g1, fun k o ho => (hv k o ho).2, ?_, ?_, ?_⟩
  · intro i j oi oj hij hi hj hno
    have ha := drawOk_spec hok i j hij (hv i oi hi).1 (hv j oj hj).1 (hB j oj hj)
    simp only [Nat.zero_add, Env.apart, Bool.or_eq_true] at ha
    rcases ha with ha | ha
    · exact absurd ha hno
    · cases hci : c i <;> rw [hci] at ha <;> cases hcj : c j <;> rw [hcj] at ha <;> simp only [reduceCtorEq] at ha
      · exact .inl rfl
      · exact .inl rfl
      · exact .inl rfl
      · exact .inr (.inl rfl)
      · exact .inr (.inr (.inl ⟨rfl, rfl⟩))
      · exact .inr (.inr (.inr (.inl ⟨rfl, rfl, fun k hk => steady_spec ha _ (hheap k hk)⟩)))
      · exact .inr (.inl rfl)
      · exact .inr (.inr (.inr (.inr ⟨rfl, rfl, fun k hk => steady_spec ha _ (hheap k hk)⟩)))
  · intro i j oi oj hij hi hj hcl
    have := staticAll_spec hst.1 i j hij (hl i oi hi) (hl j oj hj) (hB j oj hj) hcl
    simpa [Ord] using this
  · intro i o ho e he hb
    have := List.all_eq_true.1 hst.2 (o, i) (by
      rw [List.mem_iff_getElem?]
      exact ⟨i, by simp [ho]⟩)
    have := List.all_eq_true.1 this e he
    simp only [hb, Bool.not_true, Bool.false_or] at this
    simpa [Nat.blt_eq] using this
theorem heap_same {C : CallF} (hq : Quiet C) {n : Nat} {fz : TypeId → Bool} {thaw : Nat → Bool} {ops : Array Oper} {s s' : St} {S : Nat → St} {c : Nat → Cls} {v : Nat → AV}
    (hT : Text P E C n fz thaw ops s s' S c v) {a : Nat} : ∀ (b : Nat), a ≤ b → b ≤ ops.size → (∀ k, a ≤ k → k < b → c k ≠ .write) → (S b).h = (S a).h := by
  intro b
  induction b with
  | zero => intro h _ _; have : a = 0 := by omega
            subst this; rfl
  | succ b ih =>
    intro hab hb hw
    by_cases he : a = b + 1
    · subst he; rfl
    · rw [← ih (by omega) (by omega) fun k h1 h2 => hw k h1 (by omega)]
      have ho := Array.getElem?_eq_getElem (show b < ops.size by omega)
      rcases (hT.did b _ ho).how with ⟨_, h⟩ | ⟨_, _, _, h⟩
      · exact (act_class hq h).1 (hw b (by omega) (by omega))
      · exact h
theorem first_write (c : Nat → Cls) (N : Nat) : ∀ (d a : Nat), a + d = N → ∃ q, a ≤ q ∧ q ≤ N ∧ (q = N ∨ c q = .write) ∧ ∀ k, a ≤ k → k < q → c k ≠ .write
  | 0, a, h => ⟨a, Nat.le_refl _, by omega, .inl (by omega), fun k h1 h2 => by omega⟩
  | d + 1, a, h => by
    by_cases hw : c a = .write
    · exact ⟨a, Nat.le_refl _, by omega, .inr hw, fun k h1 h2 => by omega⟩
    · obtain ⟨q, q1, q2, q3, q4⟩ := first_write c N d (a + 1) (by omega)
      exact ⟨q, by omega, q2, q3, fun k h1 h2 => by
        by_cases he : k = a
        · subst he; exact hw
        · exact q4 k (by omega) h2⟩
theorem mem_looks_clash {x y : AOper} {d : Nat} (h : x.dst = some d) (hm : d ∈ y.looks) : x.clash y = true := by
  simp [AOper.clash, h, hm]
theorem mem_looks_clash' {x y : AOper} {d : Nat} (h : y.dst = some d) (hm : d ∈ x.looks) : x.clash y = true := by
  simp [AOper.clash, h, hm]
theorem dst_clash {x y : AOper} {d : Nat} (h : x.dst = some d) (h' : y.dst = some d) : x.clash y = true := by
  simp [AOper.clash, h, h']
end
end Go.AM

set_option linter.unusedSimpArgs false
set_option linter.unusedVariables false
namespace Go.AM
open Go.RowKit
section
variable {B : Nat} {w0 : World} {E : Env} {P : Program} {D : List Deferred}
theorem SRel.congr {X : RX} {n : Nat} {σ σ' : Slots} {tmps : Array Value} (k : SRel X n σ tmps) (h : ∀ t, σ.get t = σ'.get t) : SRel X n σ' tmps :=
  ⟨k.size, fun t => by rw [← h t]; exact k.get t⟩
theorem did_inv {C : CallF} {n : Nat} {fz : TypeId → Bool} {thaw : Nat → Bool} {ops : Array Oper} {o : Oper} {s s' : St} {c : Cls} {v : AV} (h : Did E C (trOper P n fz thaw ops o) s s' c v) :
    (trOper P n fz thaw ops o).dst = o.dst ∧ trGuard ops o.guard = some (trOper P n fz thaw ops o).guard ∧ (∀ d, o.dst = some d → d < n) ∧ ((trOper P n fz thaw ops o).wanted s.σ = true → ∃ fr, trOp P fr o.op = some (trOper P n fz thaw ops o).op) := by
  have hbad : (trOper P n fz thaw ops o).op ≠ .bad ∨ (trOper P n fz thaw ops o) = { dst := none, op := .bad, guard := none } ∨ (∃ g, (trOper P n fz thaw ops o) = { dst := o.dst, op := .bad, guard := g } ∧ trGuard ops o.guard = some g ∧ ∀ d, o.dst = some d → d < n) := by
    unfold trOper
    split
    · rename_i g hg hd
      cases ht : trOp P (still fz thaw ops o) o.op with
      | none => exact .inr (.inr ⟨g, by simp, hg, fun d e => by rw [e] at hd; simpa [Nat.blt_eq] using hd⟩)
      | some ao =>
        by_cases he : ao = .bad
        · exact .inr (.inr ⟨g, by simp [he], hg, fun d e => by rw [e] at hd; simpa [Nat.blt_eq] using hd⟩)
        · exact .inl (by simpa using he)
    · exact .inr (.inl rfl)
  rcases hbad with hbad | hbad | ⟨g, hbad, hgo, hdn⟩
  · obtain ⟨ht, hd, hg, hdn⟩ := trOper_inv hbad
    exact ⟨hd, hg, hdn, fun _ => ht⟩
  · exfalso
    rcases h.how with ⟨_, h⟩ | ⟨h, _⟩
    · rw [hbad] at h; simp [Env.act, Env.op] at h
    · rw [hbad] at h; simp [AOper.wanted] at h
  · refine ⟨by rw [hbad], by rw [hbad]; exact hgo, hdn, fun hw => ?_⟩
    exfalso
    rcases h.how with ⟨_, h⟩ | ⟨h, _⟩
    · rw [hbad] at h; simp [Env.act, Env.op] at h
    · rw [hw] at h; cases h
/-- where the operation's answer goes -/
def dstOf (P : Program) (n : Nat) (fz : TypeId → Bool) (thaw : Nat → Bool) (ops : Array Oper) (k : Nat) : Option Nat := (ops[k]?).bind fun o => (trOper P n fz thaw ops o).dst
variable {C : CallF} {n : Nat} {fz : TypeId → Bool} {thaw : Nat → Bool} {ops : Array Oper} {s s' : St} {S : Nat → St} {c : Nat → Cls} {v : Nat → AV}
theorem text_slots (hT : Text P E C n fz thaw ops s s' S c v) : ∀ k, k ≤ ops.size → ∀ t, (S k).σ.get t = (slotsAt s.σ (dstOf P n fz thaw ops) v (fun _ => true) k).get t
  | 0, _, t => by rw [hT.first]; rfl
  | k + 1, hk, t => by
    have ho := Array.getElem?_eq_getElem (show k < ops.size by omega)
    have hd := hT.did k _ ho
    have ih := text_slots hT k (by omega) t
    rw [slotsAt_get, ← ih, hd.put]
    have hdo : dstOf P n fz thaw ops k = (trOper P n fz thaw ops ops[k]).dst := by simp [dstOf, ho]
    rw [hdo]
    cases hds : (trOper P n fz thaw ops ops[k]).dst with
    | none => simp [St.put]
    | some d =>
      simp only [St.put, Slots.get_put, true_and, Option.some.injEq]
      by_cases h : t = d
      · subst h; simp
      · rw [if_neg h, if_neg (fun e => h e.symm)]
structure Inv (P : Program) (n : Nat) (fz : TypeId → Bool) (thaw : Nat → Bool) (ops : Array Oper) (s : St) (S : Nat → St) (c : Nat → Cls) (v : Nat → AV) (X : RX) (tmps : Array Value) (L : Nat → Bool) : Prop where
  slots : SRel X n (slotsAt s.σ (dstOf P n fz thaw ops) v L ops.size) tmps
  closed : Closed ops L
  heap : ∃ q, q ≤ ops.size ∧ X.h = (S q).h ∧ (q = ops.size ∨ (c q = .write ∧ L q = false)) ∧ ∀ k, k < q → c k = .write → L k = true
/-- What is ready. -/
structure Ready (ops : Array Oper) (L : Nat → Bool) (i : Nat) (o : Oper) : Prop where
  get : ops[i]? = some o
  off : L i = false
  edges : ∀ e ∈ o.after.toList, Region.binds .any e = true → L e.on = true
theorem ready_lt {L : Nat → Bool} {i : Nat} {o : Oper} (hr : Ready ops L i o) : i < ops.size := (Array.getElem?_eq_some_iff.1 hr.get).1
/-- who is ahead of a ready one is listed -/
theorem ready_before {L : Nat → Bool} {i : Nat} {o : Oper} (hL : Closed ops L) (hr : Ready ops L i o) {k : Nat} (hk : Ord ops k i) : L k = true :=
  closed_ord hL i (ready_lt hr) k hk fun o' ho' e he hb => by
    have := hr.get; rw [ho'] at this; cases this
    exact hr.edges e he hb
/-- who is behind one that is not listed is not listed -/
theorem unlisted_after {L : Nat → Bool} {i : Nat} (hL : Closed ops L) (hi : L i = false) {k : Nat} (hk : k < ops.size) (ho : Ord ops i k) : L k = false := by
  cases h : L k with
  | false => rfl
  | true =>
    have := closed_ord hL k hk i ho fun o' ho' e he hb => hL k o' ho' h e he hb
    rw [hi] at this; cases this
theorem ready_slots (hT : Text P E C n fz thaw ops s s' S c v) {L : Nat → Bool} (hL : Closed ops L) {i : Nat} {o : Oper} (hr : Ready ops L i o) {t : Nat}
    (ht : t ∈ (trOper P n fz thaw ops o).looks) : (slotsAt s.σ (dstOf P n fz thaw ops) v L ops.size).get t = (S i).σ.get t := by
  have hlt := ready_lt hr
  rw [text_slots hT i (by omega) t]
  have h1 : (slotsAt s.σ (dstOf P n fz thaw ops) v L ops.size).get t = (slotsAt s.σ (dstOf P n fz thaw ops) v L i).get t := by
    refine slotsAt_stop ops.size (by omega) fun k h1 h2 hd => ?_
    by_cases he : k = i
    · subst he; exact hr.off
    · have hk := Array.getElem?_eq_getElem h2
      simp only [dstOf, hk, Option.bind_some] at hd
      exact unlisted_after hL hr.off h2 (hT.clash i k _ _ (by omega) hr.get hk (mem_looks_clash' hd ht))
  rw [h1]
  refine slotsAt_agree i fun k hk hd => ?_
  have hko := Array.getElem?_eq_getElem (show k < ops.size by omega)
  simp only [dstOf, hko, Option.bind_some] at hd
  exact ready_before hL hr (hT.clash k i _ _ hk hko hr.get (mem_looks_clash hd ht))
theorem looks_reads {x : AOper} {t : Nat} (h : t ∈ x.op.reads) : t ∈ x.looks := by
  simp only [AOper.looks, List.mem_append]; exact .inr h
theorem wanted_congr {x : AOper} {σ σ' : Slots} (h : ∀ t ∈ x.looks, σ.get t = σ'.get t) : x.wanted σ = x.wanted σ' := by
  unfold AOper.wanted
  cases hg : x.guard with
  | none => rfl
  | some g =>
    obtain ⟨t, want⟩ := g
    dsimp only
    rw [h t (by simp [AOper.looks, hg])]
/-- What a ready one does, wherever it stands: as in the order of the text. -/
theorem ready_act (hq : Quiet C) (hT : Text P E C n fz thaw ops s s' S c v) {L : Nat → Bool} (hL : Closed ops L) {i : Nat} {o : Oper} (hr : Ready ops L i o) {h : Heap}
    (hh : ∃ q, q ≤ ops.size ∧ h = (S q).h ∧ (q = ops.size ∨ (c q = .write ∧ L q = false)) ∧ ∀ k, k < q → c k = .write → L k = true)
    (ha : E.act C (S i).σ (S i).h (trOper P n fz thaw ops o).op = some (.ret ⟨v i, (S (i + 1)).h, c i⟩)) :
    ∃ h' k', E.act C (S i).σ h (trOper P n fz thaw ops o).op = some (.ret ⟨v i, h', k'⟩) ∧
      ∃ q, q ≤ ops.size ∧ h' = (S q).h ∧ (q = ops.size ∨ (c q = .write ∧ (q ≠ i ∧ L q = false))) ∧ ∀ k, k < q → c k = .write → (k = i ∨ L k = true) := by
  have hlt := ready_lt hr
  obtain ⟨q, hq1, rfl, hq2, hq3⟩ := hh
  obtain ⟨a1, a2, a3⟩ := act_class hq ha
  cases hc : c i with
  | none =>
    rw [hc] at a1 a2 a3
    refine ⟨(S q).h, .none, a2 rfl _, q, hq1, rfl, ?_, fun k hk hw => .inr (hq3 k hk hw)⟩
    rcases hq2 with h | ⟨h1, h2⟩
    · exact .inl h
    · exact .inr ⟨h1, (fun e => by rw [e, hc] at h1; cases h1), h2⟩
  | write =>
    -- it is the first of those that write and are not listed
    have hqi : q = i := by
      apply Nat.le_antisymm
      · apply Nat.le_of_not_lt
        intro hiq
        have := hq3 i hiq hc
        rw [hr.off] at this; cases this
      · apply Nat.le_of_not_lt
        intro hqi
        rcases hq2 with h | ⟨h1, h2⟩
        · omega
        · have hqo := Array.getElem?_eq_getElem (show q < ops.size by omega)
          by_cases ho : Ord ops q i
          · have := ready_before hL hr ho
            rw [h2] at this; cases this
          · have := hT.apart q i _ _ hqi hqo hr.get ho
            rw [hc, h1] at this
            simp at this
    subst hqi
    rw [hc] at ha
    obtain ⟨q', g1, g2, g3, g4⟩ := first_write (fun k => if L k = true then .none else c k) ops.size (ops.size - (q + 1)) (q + 1) (by omega)
    have hheap : (S q').h = (S (q + 1)).h := by
      -- those between that write and are listed: there is none
      refine heap_same hq hT q' g1 g2 fun k h1 h2 hw => ?_
      have hko := Array.getElem?_eq_getElem (show k < ops.size by omega)
      have hno := g4 k h1 h2
      have hLk : L k = true := by
        cases hLk : L k with
        | true => rfl
        | false => rw [hLk] at hno; simp at hno; exact absurd hw hno
      by_cases ho : Ord ops q k
      · have := unlisted_after hL hr.off (by omega) ho
        rw [hLk] at this; cases this
      · have := hT.apart q k _ _ (by omega) hr.get hko ho
        rw [hc, hw] at this
        simp at this
    refine ⟨(S (q + 1)).h, .write, ha, q', g2, hheap.symm, ?_, ?_⟩
    · rcases g3 with h | h
      · exact .inl h
      · right
        cases hL' : L q' with
        | true => rw [hL'] at h; simp at h
        | false => rw [hL'] at h; simp at h; exact ⟨h, by omega, rfl⟩
    · intro k hk hw
      by_cases hkq : k < q
      · exact .inr (hq3 k hkq hw)
      · by_cases he : k = q
        · exact .inl he
        · right
          have hno := g4 k (by omega) hk
          cases hLk : L k with
          | true => rfl
          | false => rw [hLk] at hno; simp at hno; exact absurd hw hno
  | read =>
    rw [hc] at ha a1 a2 a3
    obtain ⟨e1, e2⟩ := a3 rfl
    have done : ∀ r', E.op (S i).σ (S q).h (trOper P n fz thaw ops o).op = some r' → r'.v = v i → r'.c ≠ .write →
        ∃ h' k', E.act C (S i).σ (S q).h (trOper P n fz thaw ops o).op = some (.ret ⟨v i, h', k'⟩) ∧
          ∃ q, q ≤ ops.size ∧ h' = (S q).h ∧ (q = ops.size ∨ (c q = .write ∧ (q ≠ i ∧ L q = false))) ∧ ∀ k, k < q → c k = .write → (k = i ∨ L k = true) := by
      intro r' h1 h2 h3
      obtain ⟨rv, rh, rc⟩ := r'
      dsimp only at h2 h3
      subst h2
      have hhh := (op_class h1).1 h3
      dsimp only at hhh
      subst hhh
      refine ⟨(S q).h, rc, by rw [E_act_plain e2, h1]; rfl, q, hq1, rfl, ?_, fun k hk hw => .inr (hq3 k hk hw)⟩
      rcases hq2 with h | ⟨h1, h2⟩
      · exact .inl h
      · exact .inr ⟨h1, (fun e => by rw [e, hc] at h1; cases h1), h2⟩
    have same : (S q).h = (S i).h → ∃ r', E.op (S i).σ (S q).h (trOper P n fz thaw ops o).op = some r' ∧ r'.v = v i ∧ r'.c ≠ .write := by
      intro hs
      exact ⟨_, by rw [hs]; exact e1, rfl, by simp⟩
    have steady : (∀ k ≤ ops.size, ∃ r r', E.op (S i).σ (S i).h (trOper P n fz thaw ops o).op = some r ∧ E.op (S i).σ (S k).h (trOper P n fz thaw ops o).op = some r' ∧ r.v = r'.v ∧ r'.c ≠ .write) →
        ∃ r', E.op (S i).σ (S q).h (trOper P n fz thaw ops o).op = some r' ∧ r'.v = v i ∧ r'.c ≠ .write := by
      intro hs
      obtain ⟨r, r', h1, h2, h3, h4⟩ := hs q hq1
      rw [e1] at h1
      cases h1
      exact ⟨r', h2, h3.symm, h4⟩
    suffices h : ∃ r', E.op (S i).σ (S q).h (trOper P n fz thaw ops o).op = some r' ∧ r'.v = v i ∧ r'.c ≠ .write by
      obtain ⟨r', h1, h2, h3⟩ := h
      exact done r' h1 h2 h3
    by_cases hiq : i ≤ q
    · by_cases hw : ∃ k, i ≤ k ∧ k < q ∧ c k = .write
      · obtain ⟨k, k1, k2, k3⟩ := hw
        have hki : i ≠ k := fun e => by rw [← e, hc] at k3; cases k3
        have hko := Array.getElem?_eq_getElem (show k < ops.size by omega)
        have hLk := hq3 k k2 k3
        by_cases ho : Ord ops i k
        · have := unlisted_after hL hr.off (by omega) ho
          rw [hLk] at this; cases this
        · have := hT.apart i k _ _ (by omega) hr.get hko ho
          rw [hc, k3] at this
          simp only [reduceCtorEq, false_and, and_false, false_or, true_and, or_false, and_self] at this
          exact steady this
      · exact same (heap_same hq hT q hiq hq1 fun k h1 h2 hw' => hw ⟨k, h1, h2, hw'⟩)
    · rcases hq2 with h | ⟨h1, h2⟩
      · omega
      · have hqo := Array.getElem?_eq_getElem (show q < ops.size by omega)
        by_cases ho : Ord ops q i
        · have := ready_before hL hr ho
          rw [h2] at this; cases this
        · have := hT.apart q i _ _ (by omega) hqo hr.get ho
          rw [hc, h1] at this
          simp only [reduceCtorEq, false_and, and_false, false_or, true_and, or_false, and_self] at this
          exact steady this
/-- the slots behind a ready one -/
theorem ready_put (hT : Text P E C n fz thaw ops s s' S c v) {L L' : Nat → Bool} (hL : Closed ops L) {i : Nat} {o : Oper} (hr : Ready ops L i o) (hi' : L' i = true) (ho : ∀ k, k ≠ i → L' k = L k) {d : Nat}
    (hd : (trOper P n fz thaw ops o).dst = some d) (t : Nat) :
    ((slotsAt s.σ (dstOf P n fz thaw ops) v L ops.size).put d (v i)).get t = (slotsAt s.σ (dstOf P n fz thaw ops) v L' ops.size).get t := by
  have hlt := ready_lt hr
  have hdi : dstOf P n fz thaw ops i = some d := by simp [dstOf, hr.get, hd]
  rw [Slots.get_put]
  by_cases h : t = d
  · subst h
    rw [if_pos rfl]
    rw [slotsAt_stop (i := i + 1) ops.size (by omega) fun k h1 h2 hk => ?_, slotsAt_get, if_pos ⟨hi', hdi⟩]
    have hko := Array.getElem?_eq_getElem h2
    simp only [dstOf, hko, Option.bind_some] at hk
    rw [ho k (by omega)]
    exact unlisted_after hL hr.off h2 (hT.clash i k _ _ (by omega) hr.get hko (dst_clash hd hk))
  · rw [if_neg h]
    refine slotsAt_agree ops.size fun k hk hdk => ?_
    have : k ≠ i := by
      rintro rfl
      rw [hdi] at hdk
      exact h (Option.some.inj hdk).symm
    exact (ho k this).symm
theorem ready_skip {L L' : Nat → Bool} {i : Nat} (ho : ∀ k, k ≠ i → L' k = L k) (hd : dstOf P n fz thaw ops i = none) (t : Nat) :
    (slotsAt s.σ (dstOf P n fz thaw ops) v L ops.size).get t = (slotsAt s.σ (dstOf P n fz thaw ops) v L' ops.size).get t := by
  refine slotsAt_agree ops.size fun k hk hdk => ?_
  have : k ≠ i := by
    rintro rfl
    rw [hd] at hdk; cases hdk
  exact (ho k this).symm
theorem ready_next (hT : Text P E C n fz thaw ops s s' S c v) {L L' : Nat → Bool} (hL : Closed ops L) {i : Nat} {o : Oper} (hr : Ready ops L i o) (hi' : L' i = true) (ho : ∀ k, k ≠ i → L' k = L k)
    {X X' : RX} (hE : Ext X X') {tmps : Array Value} (k : SRel X n (slotsAt s.σ (dstOf P n fz thaw ops) v L ops.size) tmps) (hdo : (trOper P n fz thaw ops o).dst = o.dst) (hdn : ∀ d, o.dst = some d → d < n)
    {v' : Value} (hv : VRel X' (v i) v') : SRel X' n (slotsAt s.σ (dstOf P n fz thaw ops) v L' ops.size) (match o.dst with | some d => tmps.setIfInBounds d v' | none => tmps) := by
  cases hd : o.dst with
  | none =>
    refine (k.ext hE).congr (ready_skip ho ?_)
    simp [dstOf, hr.get, hdo, hd]
  | some d =>
    refine ((k.ext hE).put (hdn d hd) hv).congr (ready_put hT hL hr hi' ho ?_)
    rw [hdo, hd]
theorem closed_next {L L' : Nat → Bool} (hL : Closed ops L) {i : Nat} {o : Oper} (hr : Ready ops L i o) (hi' : L' i = true) (ho : ∀ k, k ≠ i → L' k = L k) : Closed ops L' := by
  have hup : ∀ k, L k = true → L' k = true := fun k h => by
    by_cases he : k = i
    · subst he; exact hi'
    · rw [ho k he]; exact h
  intro j oj hj hLj e he hb
  by_cases hji : j = i
  · subst hji
    have := hr.get; rw [hj] at this; cases this
    exact hup _ (hr.edges e he hb)
  · rw [ho j hji] at hLj
    exact hup _ (hL j oj hj hLj e he hb)
theorem act_put_tmps (a : Act) (d : Option Nat) (v : Value) : (a.put d v).tmps = (match d with | some d => a.tmps.setIfInBounds d v | none => a.tmps) := by
  cases d <;> rfl
theorem act_put_defers (a : Act) (d : Option Nat) (v : Value) : (a.put d v).defers = a.defers := by
  cases d <;> rfl
theorem ready_step (hC : CallOk P E C) (hq : Quiet C) (hT : Text P E C n fz thaw ops s s' S c v) {L L' : Nat → Bool} {X : RX} (hR : Rel B w0 E X) {a : Act} (hI : Inv P n fz thaw ops s S c v X a.tmps L) {i : Nat} {o : Oper}
    (hr : Ready ops L i o) (hi' : L' i = true) (ho : ∀ k, k ≠ i → L' k = L k) {K : Act → World → Prop} {Q : Exit → Act → World → Prop}
    (hK : ∀ X' a', Rel B w0 E X' → Ext X X' → Inv P n fz thaw ops s S c v X' a'.tmps L' → a'.defers = a.defers → K a' X'.w) : wpOp P ops Q i K a X.w := by
  unfold wpOp
  simp only [hr.get]
  obtain ⟨hdo, hg, hdn, htr⟩ := did_inv (hT.did i o hr.get)
  have hwr := wanted_rel hI.slots hg (trOper P n fz thaw ops o) rfl
  have hwc : (trOper P n fz thaw ops o).wanted (slotsAt s.σ (dstOf P n fz thaw ops) v L ops.size) = (trOper P n fz thaw ops o).wanted (S i).σ := wanted_congr fun t ht => ready_slots hT hI.closed hr ht
  rw [hwc] at hwr
  rcases (hT.did i o hr.get).how with ⟨hw, hact⟩ | ⟨hw, hv, hcn, hh⟩
  · rw [hw] at hwr
    rw [if_pos hwr]
    left
    obtain ⟨fr, ht⟩ := htr hw
    obtain ⟨h', k', hact', hheap⟩ := ready_act hq hT hI.closed hr hI.heap hact
    have hact2 : E.act C (slotsAt s.σ (dstOf P n fz thaw ops) v L ops.size) X.h (trOper P n fz thaw ops o).op = some (.ret ⟨v i, h', k'⟩) := by
      rw [← hact']
      exact act_congr (fun t ht => ready_slots hT hI.closed hr (looks_reads ht)) C X.h
    refine act_wp (act_sim hC hR hI.slots ht hact2) hR ?_ ?_
    · rintro r hre X' v' g1 g2 g3 g4
      cases hre
      refine hK X' _ g1 g2 ⟨?_, closed_next hI.closed hr hi' ho, ?_⟩ (act_put_defers _ _ _)
      · rw [act_put_tmps]
        exact ready_next hT hI.closed hr hi' ho g2 hI.slots hdo hdn g4
      · obtain ⟨q, q1, q2, q3, q4⟩ := hheap
        refine ⟨q, q1, g3.trans q2, ?_, fun k hk hw => ?_⟩
        · rcases q3 with h | ⟨h1, h2, h3⟩
          · exact .inl h
          · exact .inr ⟨h1, by rw [ho q h2]; exact h3⟩
        · rcases q4 k hk hw with rfl | h
          · exact hi'
          · by_cases he : k = i
            · subst he; exact hi'
            · rw [ho k he]; exact h
    · rintro v h hre; cases hre
  · rw [hw] at hwr
    rw [if_neg (by simp [hwr])]
    refine hK X _ hR (Ext.refl X) ⟨?_, closed_next hI.closed hr hi' ho, ?_⟩ (act_put_defers _ _ _)
    · rw [act_put_tmps]
      refine ready_next hT hI.closed hr hi' ho (Ext.refl X) hI.slots hdo hdn ?_
      rw [hv]; exact VRel.undef
    · obtain ⟨q, q1, q2, q3, q4⟩ := hI.heap
      refine ⟨q, q1, q2, ?_, fun k hk hw => ?_⟩
      · rcases q3 with h | ⟨h1, h2⟩
        · exact .inl h
        · by_cases he : q = i
          · rw [he, hcn] at h1; cases h1
          · exact .inr ⟨h1, by rw [ho q he]; exact h2⟩
      · by_cases he : k = i
        · subst he; exact hi'
        · rw [ho k he]; exact q4 k hk hw
theorem mem_ready {listed : Array Bool} {i : Nat} (hsz : listed.size = ops.size) : i ∈ Region.ready .any ops listed ↔ ∃ o, Ready ops (fun k => listed.getD k false) i o := by
  simp only [Region.ready, List.mem_filter, List.mem_range, Bool.and_eq_true, Bool.not_eq_true']
  constructor
  · rintro ⟨hlt, h1, h2⟩
    have ho := Array.getElem?_eq_getElem hlt
    rw [ho] at h2
    simp only [Option.map_some, Option.getD_some] at h2
    refine ⟨_, ho, ?_, fun e he hb => ?_⟩
    · have hl : i < listed.size := by omega
      simp only [Array.getD_eq_getD_getElem?, Array.getElem?_eq_getElem hl, Option.getD_some] at h1 ⊢
      exact h1
    · rw [← Array.all_toList] at h2
      have := List.all_eq_true.1 h2 e he
      simpa [hb] using this
  · rintro ⟨o, ho, h1, h2⟩
    have hlt := (Array.getElem?_eq_some_iff.1 ho).1
    have hl : i < listed.size := by omega
    refine ⟨hlt, ?_, ?_⟩
    · simp only [Array.getD_eq_getD_getElem?, Array.getElem?_eq_getElem hl, Option.getD_some] at h1 ⊢
      exact h1
    · rw [ho]
      simp only [Option.map_some, Option.getD_some]
      rw [← Array.all_toList]
      refine List.all_eq_true.2 fun e he => ?_
      cases hb : Region.binds .any e with
      | false => simp
      | true => simp [h2 e he hb]
/-- while one is left, one is ready -/
theorem ready_exists (hT : Text P E C n fz thaw ops s s' S c v) {L : Nat → Bool} : ∀ (i : Nat), i < ops.size → L i = false → ∃ j o, Ready ops L j o := by
  intro i
  induction i using Nat.strongRecOn with
  | _ i ih =>
    intro hi hL
    have ho := Array.getElem?_eq_getElem hi
    by_cases h : ∃ e ∈ ops[i].after.toList, Region.binds .any e = true ∧ L e.on = false
    · obtain ⟨e, he, hb, hLe⟩ := h
      have hlt := hT.back i _ ho e he hb
      exact ih e.on hlt (by omega) hLe
    · exact ⟨i, _, ho, hL, fun e he hb => by
        cases hLe : L e.on with
        | true => rfl
        | false => exact absurd ⟨e, he, hb, hLe⟩ h⟩
theorem left_pos {L : Nat → Bool} : ∀ {N : Nat}, left L N ≠ 0 → ∃ i, i < N ∧ L i = false
  | 0, h => absurd rfl h
  | N + 1, h => by
    cases hL : L N with
    | false => exact ⟨N, by omega, hL⟩
    | true =>
      simp only [left, hL, Nat.add_zero] at h
      obtain ⟨i, h1, h2⟩ := left_pos h
      exact ⟨i, by omega, h2⟩
theorem any_sim (hC : CallOk P E C) (hq : Quiet C) (hT : Text P E C n fz thaw ops s s' S c v) {Q : Exit → Act → World → Prop} : ∀ (fuel : Nat) (listed : Array Bool), listed.size = ops.size → left (fun k => listed.getD k false) ops.size = fuel →
    ∀ {X : RX}, Rel B w0 E X → ∀ {a : Act}, Inv P n fz thaw ops s S c v X a.tmps (fun k => listed.getD k false) → a.defers = D → (∀ e' a' w', CPost D B w0 E X n .norm s' e' a' w' → Q e' a' w') → wpAny P .any ops Q fuel listed a X.w
  | 0, listed, hsz, hf, X, hR, a, hI, hde, hQ => by
    have hall := left_zero _ hf
    refine ⟨?_, ?_⟩
    · apply List.eq_nil_iff_forall_not_mem.2
      intro i hi
      obtain ⟨o, hr⟩ := (mem_ready hsz).1 hi
      have := hall i (ready_lt hr)
      rw [hr.off] at this; cases this
    · refine hQ _ _ _ ⟨X, rfl, hR, Ext.refl X, ⟨?_, ?_, hde⟩, .norm⟩
      · obtain ⟨q, q1, q2, q3, q4⟩ := hI.heap
        rcases q3 with rfl | ⟨h1, h2⟩
        · rw [q2, hT.last]
        · by_cases he : q = ops.size
          · rw [q2, he, hT.last]
          · have := hall q (by omega)
            rw [h2] at this; cases this
      · refine hI.slots.congr fun t => ?_
        rw [← hT.last, text_slots hT ops.size (Nat.le_refl _) t]
        exact slotsAt_agree ops.size fun k hk _ => hall k hk
  | fuel + 1, listed, hsz, hf, X, hR, a, hI, hde, hQ => by
    obtain ⟨i0, hi0, hL0⟩ := left_pos (L := fun k => listed.getD k false) (N := ops.size) (by omega)
    obtain ⟨j, oj, hj⟩ := ready_exists hT (L := fun k => listed.getD k false) i0 hi0 hL0
    refine ⟨fun h => ?_, fun i hi => ?_⟩
    · have := (mem_ready hsz).2 ⟨oj, hj⟩
      rw [h] at this; cases this
    · obtain ⟨o, hr⟩ := (mem_ready hsz).1 hi
      have hlt := ready_lt hr
      have hset : (fun k => (listed.setIfInBounds i true).getD k false) i = true := by
        simp [Array.getD_eq_getD_getElem?, Array.getElem?_setIfInBounds, hsz, hlt]
      have hoth : ∀ k, k ≠ i → (fun k => (listed.setIfInBounds i true).getD k false) k = (fun k => listed.getD k false) k := by
        intro k hk
        simp only [Array.getD_eq_getD_getElem?, Array.getElem?_setIfInBounds]
        rw [if_neg (fun e => hk e.symm)]
      refine ready_step hC hq hT hR hI hr hset hoth fun X' a' g1 g2 g3 g4 => ?_
      refine any_sim hC hq hT fuel _ (by simpa using hsz) ?_ g1 g3 (g4.trans hde) fun e' a' w' hp => hQ _ _ _ (CPost.trans g2 hp)
      have := (left_set hr.off hset hoth ops.size).1 hlt
      omega
theorem draw_sim (hC : CallOk P E C) (hq : Quiet C) (hm : P.follows .mixedOrders = true) : DrawOk P E C := by
  intro D B w0 n fz thaw ops id X s a e s' hR k hst h
  obtain ⟨rfl, S, c, v, hT⟩ := text_of hst h
  refine wp_region_any hm ?_
  have hb : Below X.w.heap.size X.w { X.w with drawn := X.w.drawn + 1 } := Below.drew (Below.refl _ X.w)
  have hR' := hR.grow hb
  have hE := Ext.grow X hb
  have hfalse : (fun k => (Array.replicate ops.size false).getD k false) = fun _ => false := by
    funext k
    simp only [Array.getD_eq_getD_getElem?, Array.getElem?_replicate]
    split <;> rfl
  refine any_sim hC hq hT ops.size (Array.replicate ops.size false) (by simp) ?_ hR' (X := { X with w := { X.w with drawn := X.w.drawn + 1 } }) ?_ k.defers fun e' a' w' hp => CPost.trans hE hp
  · rw [hfalse]; exact left_none _
  · rw [hfalse]
    refine ⟨?_, ?_, ?_⟩
    · refine (k.slots.ext hE).congr fun t => ?_
      rw [slotsAt_stop (i := 0) ops.size (by omega) fun _ _ _ _ => rfl]
      rfl
    · intro j o hj hL; cases hL
    · obtain ⟨q, q1, q2, q3, q4⟩ := first_write c ops.size ops.size 0 (by omega)
      refine ⟨q, q2, ?_, ?_, fun k hk hw => absurd hw (q4 k (by omega) hk)⟩
      · rw [heap_same hq hT q (by omega) q2 q4, hT.first]
        exact k.heap
      · rcases q3 with h | h
        · exact .inl h
        · exact .inr ⟨h, rfl⟩
end
end Go.AM
