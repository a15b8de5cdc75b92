/-
  Equal, True; the reference's Same.
-/
import Derived.Test.YtaielgjmhbjfhaaGreatDoorBfOrd2
set_option linter.unusedVariables false
set_option linter.unusedSimpArgs false
set_option maxRecDepth 20000
namespace Go.Bf
open Go.AM

/-- is it a term? -/
def isT (t : Tm) : Bool := match chkF t with | none => true | some _ => false
theorem eq_walk (x : WFlt) : aEq (.iface true) (walkAV x) .nili = some (match x with | none => true | some _ => false) := by
  rcases x with _ | ⟨a, c, u⟩ <;> rfl
theorem isT_wf {t : Tm} (h : isT t = true) : Wf t := by
  unfold isT at h
  split at h
  · rename_i e; exact wf_chk e
  · cases h
theorem eq_chk (t : Tm) : aEq (.iface true) (walkAV (chkF t)) .nili = some (isT t) := eq_walk _
def eqF (a b : Tm) : Bool := isT a && isT b && (ordF a b == 0)
theorem equal_spec (a b : Tm) (oka : a.Ok) (okb : b.Ok) (h : Heap) : WC env 33 [.agg (tc a), .agg (tc b)] h (fun o => o = .ret ⟨.bool (eqF a b), h, .none⟩) := by
  refine call_pure rfl rfl rfl (by simp only [AV.noRefs, AV.noRef, noRef_tc, Bool.and_self]) ?_
  obtain ⟨h1, eh1⟩ : ∃ h1, h1 = Heap.empty.new (tc a) := ⟨_, rfl⟩
  have ho1 : HeapOk h1 := by rw [eh1]; exact HeapOk.empty.new _
  have a1 : h1.at_ Heap.empty.next 0 = some (tc a) := by rw [eh1]; exact at_new _
  obtain ⟨h2, eh2⟩ : ∃ h2, h2 = h1.new (tc b) := ⟨_, rfl⟩
  have a2 : h2.at_ Heap.empty.next 0 = some (tc a) := by rw [eh2]; exact (le_new ho1 _).2 _ _ _ a1
  have b2 : h2.at_ h1.next 0 = some (tc b) := by rw [eh2]; exact at_new _
  have y1 : (AV.agg (tc a)).row = some (tc a) := rfl
  have y2 : (tc a).length = 6 := tc_length a
  have y3 : (AV.agg (tc b)).row = some (tc b) := rfl
  have y4 : (tc b).length = 6 := tc_length b
  have la := ld_t a2
  have lb := ld_t b2
  cases e1 : isT a with
  | false =>
    have e : eqF a b = false := by rw [eqF, e1]; rfl
    have q1 := eq_chk a
    rw [e1] at q1
    simp only [a33, a33_0, a33_1, Slots.ofList, wpc_skip, wpc_ops, wpc_draw, wpc_seq, wpc_cond, wpc_block, wpc_loop, wpc_exit, wpc_scope, wpc_ret, seqQ_norm, seqQ_ret, seqQ_exit, blockQ'_norm, blockQ'_ret, blockQ'_exit, roundQ_norm, roundQ_ret, roundQ_exit, condK_true, condK_false, wpo_nil', wpo_none, wpo_tt, wpo_ff, wpo_tf, wpo_ft, opsK_c, isC_none, isC_read, isC_write, wp1_call, callK_ret, wp1_mv', wp1_bin', wp1_un', wp1_eq', wp1_extract', wp1_pick', wp1_len', wp1_load', wp1_conv', wp1_store', wp1_idxAddr', wp1_append', wp1_mkIface', wp1_alloc', rd_t, rd_c, ok_t, ok_c, put_some, put_none, get_put, reduceIte, Nat.reduceEqDiff, AV.bool.injEq, Option.some.injEq, exists_eq_left', Option.map_some, Option.bind_some, opds_nil, opds_cons, opd_t, opd_c, aBin, aInt, decide_true, decide_false, negIf, wp1_nilCheck', wp1_fieldAddr', wp1_slice, op_slice, opdo_some, opdo_none, wp1_lit, op_lit, parts_nil, parts_cons, wp1_build, op_build, wp1_box, op_box, y1, y2, y3, y4, ← eh1, ← eh2, la, lb, wc_eq (check_spec a oka _), q1, aPick]
    exact finB (by simp only [get_put, reduceIte, Nat.reduceEqDiff]; rw [e]) rfl
  | true =>
  have q1 := eq_chk a
  rw [e1] at q1
  cases e2 : isT b with
  | false =>
    have e : eqF a b = false := by rw [eqF, e1, e2]; rfl
    have q2 := eq_chk b
    rw [e2] at q2
    simp only [a33, a33_0, a33_1, Slots.ofList, wpc_skip, wpc_ops, wpc_draw, wpc_seq, wpc_cond, wpc_block, wpc_loop, wpc_exit, wpc_scope, wpc_ret, seqQ_norm, seqQ_ret, seqQ_exit, blockQ'_norm, blockQ'_ret, blockQ'_exit, roundQ_norm, roundQ_ret, roundQ_exit, condK_true, condK_false, wpo_nil', wpo_none, wpo_tt, wpo_ff, wpo_tf, wpo_ft, opsK_c, isC_none, isC_read, isC_write, wp1_call, callK_ret, wp1_mv', wp1_bin', wp1_un', wp1_eq', wp1_extract', wp1_pick', wp1_len', wp1_load', wp1_conv', wp1_store', wp1_idxAddr', wp1_append', wp1_mkIface', wp1_alloc', rd_t, rd_c, ok_t, ok_c, put_some, put_none, get_put, reduceIte, Nat.reduceEqDiff, AV.bool.injEq, Option.some.injEq, exists_eq_left', Option.map_some, Option.bind_some, opds_nil, opds_cons, opd_t, opd_c, aBin, aInt, decide_true, decide_false, negIf, wp1_nilCheck', wp1_fieldAddr', wp1_slice, op_slice, opdo_some, opdo_none, wp1_lit, op_lit, parts_nil, parts_cons, wp1_build, op_build, wp1_box, op_box, y1, y2, y3, y4, ← eh1, ← eh2, la, lb, wc_eq (check_spec a oka _), wc_eq (check_spec b okb _), q1, q2, aPick]
    exact finB (by simp only [get_put, reduceIte, Nat.reduceEqDiff]; rw [e]) rfl
  | true =>
  have q2 := eq_chk b
  rw [e2] at q2
  have wo := ord_spec a oka (isT_wf e1) b okb (isT_wf e2)
  have e : eqF a b = (ordF a b == 0) := by rw [eqF, e1, e2]; rfl
  simp only [a33, a33_0, a33_1, Slots.ofList, wpc_skip, wpc_ops, wpc_draw, wpc_seq, wpc_cond, wpc_block, wpc_loop, wpc_exit, wpc_scope, wpc_ret, seqQ_norm, seqQ_ret, seqQ_exit, blockQ'_norm, blockQ'_ret, blockQ'_exit, roundQ_norm, roundQ_ret, roundQ_exit, condK_true, condK_false, wpo_nil', wpo_none, wpo_tt, wpo_ff, wpo_tf, wpo_ft, opsK_c, isC_none, isC_read, isC_write, wp1_call, callK_ret, wp1_mv', wp1_bin', wp1_un', wp1_eq', wp1_extract', wp1_pick', wp1_len', wp1_load', wp1_conv', wp1_store', wp1_idxAddr', wp1_append', wp1_mkIface', wp1_alloc', rd_t, rd_c, ok_t, ok_c, put_some, put_none, get_put, reduceIte, Nat.reduceEqDiff, AV.bool.injEq, Option.some.injEq, exists_eq_left', Option.map_some, Option.bind_some, opds_nil, opds_cons, opd_t, opd_c, aBin, aInt, decide_true, decide_false, negIf, wp1_nilCheck', wp1_fieldAddr', wp1_slice, op_slice, opdo_some, opdo_none, wp1_lit, op_lit, parts_nil, parts_cons, wp1_build, op_build, wp1_box, op_box, y1, y2, y3, y4, ← eh1, ← eh2, la, lb, wc_eq (check_spec a oka _), wc_eq (check_spec b okb _), q1, q2, aPick, wc_eq (wo _)]
  exact finB (by simp only [get_put, reduceIte, Nat.reduceEqDiff]; rw [e]) rfl

def trueT : Tm := .mk 2 0 [116, 114, 117, 101] 0 none [] none []
theorem trueT_ok : trueT.Ok := by
  rw [trueT, Tm.Ok, Oks]
  refine ⟨⟨by decide, by decide⟩, ⟨by decide, by decide⟩, ⟨by decide, by decide⟩, by simp, by decide, by decide, by decide, trivial⟩
def atomT (s : List UInt8) : Tm := .mk 2 0 s 0 none [] none []
theorem atom_spec (s : List UInt8) (h : Heap) : WC env 34 [.str s] h (fun o => o = .ret ⟨.agg (tc (atomT s)), h, .none⟩) := wc_run (n := 30) (by kernel_rfl)
theorem ratom_spec (s : List UInt8) (h : Heap) : WC env 31 [.str s] h (fun o => o = .ret ⟨.agg (tc (atomT s)), h, .none⟩) := wc_run (n := 30) (by kernel_rfl)
theorem true_spec (t : Tm) (ok : t.Ok) (h : Heap) : WC env 17 [.agg (tc t)] h (fun o => o = .ret ⟨.bool (eqF t trueT), h, .none⟩) := by
  refine call_pure rfl rfl rfl (by simp only [AV.noRefs, AV.noRef, noRef_tc, Bool.and_self]) ?_
  obtain ⟨h1, eh1⟩ : ∃ h1, h1 = Heap.empty.new (tc t) := ⟨_, rfl⟩
  have a1 : h1.at_ Heap.empty.next 0 = some (tc t) := by rw [eh1]; exact at_new _
  have y1 : (AV.agg (tc t)).row = some (tc t) := rfl
  have y2 : (tc t).length = 6 := tc_length t
  have l6 := ld_t a1
  have we : ∀ h, WC env 33 [.agg (tc t), .agg (tc (atomT [116, 114, 117, 101]))] h (fun o => o = .ret ⟨.bool (eqF t trueT), h, .none⟩) := fun h => equal_spec t trueT ok trueT_ok h
  simp only [a17, a17_0, Slots.ofList, wpc_skip, wpc_ops, wpc_seq, wpc_cond, wpc_block, wpc_loop, wpc_exit, wpc_scope, wpc_ret, seqQ_norm, seqQ_ret, seqQ_exit, blockQ'_norm, blockQ'_ret, blockQ'_exit, roundQ_norm, roundQ_ret, roundQ_exit, condK_true, condK_false, wpo_nil', wpo_none, wpo_tt, wpo_ff, wpo_tf, wpo_ft, opsK_c, isC_none, isC_read, isC_write, wp1_call, callK_ret, wp1_mv', wp1_bin', wp1_un', wp1_eq', wp1_extract', wp1_pick', wp1_len', wp1_load', wp1_conv', wp1_store', wp1_idxAddr', wp1_append', wp1_mkIface', wp1_alloc', rd_t, rd_c, ok_t, ok_c, put_some, put_none, get_put, reduceIte, Nat.reduceEqDiff, AV.bool.injEq, Option.some.injEq, exists_eq_left', Option.map_some, Option.bind_some, opds_nil, opds_cons, opd_t, opd_c, aBin, aInt, decide_true, decide_false, negIf, wp1_nilCheck', wp1_fieldAddr', wp1_slice, op_slice, opdo_some, opdo_none, wp1_lit, op_lit, parts_nil, parts_cons, wp1_build, op_build, wp1_box, op_box, y1, y2, ← eh1]
  refine wpc_draw_k ?_
  simp only [wpc_skip, wpc_ops, wpc_seq, wpc_cond, wpc_block, wpc_loop, wpc_exit, wpc_scope, wpc_ret, seqQ_norm, seqQ_ret, seqQ_exit, blockQ'_norm, blockQ'_ret, blockQ'_exit, roundQ_norm, roundQ_ret, roundQ_exit, condK_true, condK_false, wpo_nil', wpo_none, wpo_tt, wpo_ff, wpo_tf, wpo_ft, opsK_c, isC_none, isC_read, isC_write, wp1_call, callK_ret, wp1_mv', wp1_bin', wp1_un', wp1_eq', wp1_extract', wp1_pick', wp1_len', wp1_load', wp1_conv', wp1_store', wp1_idxAddr', wp1_append', wp1_mkIface', wp1_alloc', rd_t, rd_c, ok_t, ok_c, put_some, put_none, get_put, reduceIte, Nat.reduceEqDiff, AV.bool.injEq, Option.some.injEq, exists_eq_left', Option.map_some, Option.bind_some, opds_nil, opds_cons, opd_t, opd_c, aBin, aInt, decide_true, decide_false, negIf, wp1_nilCheck', wp1_fieldAddr', wp1_slice, op_slice, opdo_some, opdo_none, wp1_lit, op_lit, parts_nil, parts_cons, wp1_build, op_build, wp1_box, op_box, wpk_nil, wpk_none, wpk_tt, wpk_ff, wpk_tf, wpk_ft, clsK_c, logC_apply, drawC_apply, a17_1, l6, wc_eq (atom_spec _ _), wc_eq (we _)]
  refine ⟨rfl, ?_⟩
  exact finB (by simp only [get_put, reduceIte, Nat.reduceEqDiff]) rfl

mutual
def sameF : Tm → Tm → Bool
  | .mk k i s c nf ns af ar, .mk k' i' s' c' nf' ns' af' ar' => k == k' && i == i' && s == s' && c == c' && ns.length == ns'.length && ar.length == ar'.length && ns == ns' && sameFs ar ar'
def sameFs : List Tm → List Tm → Bool
  | [], [] => true
  | [], _ :: _ => false
  | _ :: _, [] => false
  | a :: l, b :: m => sameF a b && sameFs l m
end
def SameOk (a : Tm) : Prop := ∀ b, b.Ok → ∀ h, WC env 19 [.agg (tc a), .agg (tc b)] h (fun o => o = .ret ⟨.bool (sameF a b), h, .none⟩)

section
variable {h : Heap} {i2 i3 : Nat} {x0 x1 x2 x3 y0 y1 y2 y3 : AV} {nf nf' : Option Bool} {ns ns' : List Int} {av av2 : AV}
  (l4 : aLoad h false 1 (.ptr i2 0 4) = some ⟨slAV nf ns.length (u32s ns), h, .read⟩) (l4' : aLoad h false 1 (.ptr i3 0 4) = some ⟨slAV nf' ns'.length (u32s ns'), h, .read⟩)
include l4 l4'
theorem same_nums (hlen : ns.length = ns'.length) (hb : ns.length < 9223372036854775808) {Q : AExit → St → Prop} :
    ∀ (f i : Nat) (σ : Slots), ns.length - i < f → i ≤ ns.length → σ.get 2 = .ptr i2 0 0 → σ.get 3 = .ptr i3 0 0 → σ.get 5 = .int .i64 i →
    (∀ σ', (σ'.get 4 = .bool false → ns.drop i ≠ ns'.drop i → Q .ret ⟨σ', h⟩) ∧ (σ'.get 2 = .ptr i2 0 0 → σ'.get 3 = .ptr i3 0 0 → ns.drop i = ns'.drop i → Q (.exit 0) ⟨σ', h⟩)) →
    WPr env a19_l8 ⟨σ, h⟩ Q := by
  intro f
  induction f with
  | zero => intro i σ h1; omega
  | succ f ih =>
    intro i σ hf hi g2 g3 g5 hQ
    refine wpr_round' fun b hb => ?_
    have nl : ∀ h, aLenOp false h (slAV nf ns.length (u32s ns)) = some ⟨.int .i64 ns.length, h, .none⟩ := fun h => len_sl _ _ _ (fun _ => trivial) h
    by_cases c1 : i < ns.length
    · have c2 : i < ns'.length := by omega
      have z0 : ((i : Int) < (ns.length : Int)) = True := eq_true (by omega)
      have zi : IntKind.wrap .i64 ((i : Int) + 1) = ((i + 1 : Nat) : Int) := wrap_nat (by omega) (by omega)
      have lx := idx_nums (f := nf) c1
      have ld := ld_nums c1 h
      have lx2 := idx_nums (f := nf') c2
      have ld2 := ld_nums c2 h
      have hd1 : ns.drop i = ns[i] :: ns.drop (i + 1) := List.drop_eq_getElem_cons c1
      have hd2 : ns'.drop i = ns'[i] :: ns'.drop (i + 1) := List.drop_eq_getElem_cons c2
      rw [hd1, hd2] at hQ
      simp only [a19_l8, a19_4, wpc_skip, wpc_ops, wpc_seq, wpc_cond, wpc_block, wpc_loop, wpc_exit, wpc_scope, wpc_ret, seqQ_norm, seqQ_ret, seqQ_exit, blockQ'_norm, blockQ'_ret, blockQ'_exit, roundQ_norm, roundQ_ret, roundQ_exit, condK_true, condK_false, wpo_nil', wpo_none, wpo_tt, wpo_ff, wpo_tf, wpo_ft, opsK_c, isC_none, isC_read, isC_write, wp1_call, callK_ret, wp1_mv', wp1_bin', wp1_un', wp1_eq', wp1_extract', wp1_pick', wp1_len', wp1_load', wp1_conv', wp1_store', wp1_idxAddr', wp1_append', wp1_mkIface', wp1_alloc', rd_t, rd_c, ok_t, ok_c, put_some, put_none, get_put, reduceIte, Nat.reduceEqDiff, AV.bool.injEq, Option.some.injEq, exists_eq_left', Option.map_some, Option.bind_some, opds_nil, opds_cons, opd_t, opd_c, aBin, aInt, decide_true, decide_false, negIf, wp1_nilCheck', wp1_fieldAddr', wp1_slice, op_slice, opdo_some, opdo_none, wp1_lit, op_lit, parts_nil, parts_cons, wp1_build, op_build, wp1_box, op_box, g2, g3, g5, aFieldAddr, Nat.zero_add, l4, l4', nl, z0]
      refine wpc_draw_k ?_
      by_cases c3 : ns[i] = ns'[i]
      · have z3 : (ns[i] != ns'[i]) = false := by simpa using c3
        simp only [wpc_skip, wpc_ops, wpc_seq, wpc_cond, wpc_block, wpc_loop, wpc_exit, wpc_scope, wpc_ret, seqQ_norm, seqQ_ret, seqQ_exit, blockQ'_norm, blockQ'_ret, blockQ'_exit, roundQ_norm, roundQ_ret, roundQ_exit, condK_true, condK_false, wpo_nil', wpo_none, wpo_tt, wpo_ff, wpo_tf, wpo_ft, opsK_c, isC_none, isC_read, isC_write, wp1_call, callK_ret, wp1_mv', wp1_bin', wp1_un', wp1_eq', wp1_extract', wp1_pick', wp1_len', wp1_load', wp1_conv', wp1_store', wp1_idxAddr', wp1_append', wp1_mkIface', wp1_alloc', rd_t, rd_c, ok_t, ok_c, put_some, put_none, get_put, reduceIte, Nat.reduceEqDiff, AV.bool.injEq, Option.some.injEq, exists_eq_left', Option.map_some, Option.bind_some, opds_nil, opds_cons, opd_t, opd_c, aBin, aInt, decide_true, decide_false, negIf, wp1_nilCheck', wp1_fieldAddr', wp1_slice, op_slice, opdo_some, opdo_none, wp1_lit, op_lit, parts_nil, parts_cons, wp1_build, op_build, wp1_box, op_box, wpk_nil, wpk_none, wpk_tt, wpk_ff, wpk_tf, wpk_ft, clsK_c, logC_apply, drawC_apply, a19_5, a19_7, g2, g3, g5, aFieldAddr, Nat.zero_add, l4, l4', lx, ld, lx2, ld2, z3, zi]
        refine ⟨rfl, ?_⟩
        subst hb
        refine ih (i + 1) _ (by omega) (by omega) ?_ ?_ ?_ fun σ' => ⟨fun g e => (hQ σ').1 g (fun e2 => e (by injection e2)), fun e0 e1 e => (hQ σ').2 e0 e1 (by rw [c3, e])⟩
        · simp only [get_put, reduceIte, Nat.reduceEqDiff, g2]
        · simp only [get_put, reduceIte, Nat.reduceEqDiff, g3]
        · simp only [get_put, reduceIte, Nat.reduceEqDiff]
      · have z3 : (ns[i] != ns'[i]) = true := by simpa using c3
        simp only [wpc_skip, wpc_ops, wpc_seq, wpc_cond, wpc_block, wpc_loop, wpc_exit, wpc_scope, wpc_ret, seqQ_norm, seqQ_ret, seqQ_exit, blockQ'_norm, blockQ'_ret, blockQ'_exit, roundQ_norm, roundQ_ret, roundQ_exit, condK_true, condK_false, wpo_nil', wpo_none, wpo_tt, wpo_ff, wpo_tf, wpo_ft, opsK_c, isC_none, isC_read, isC_write, wp1_call, callK_ret, wp1_mv', wp1_bin', wp1_un', wp1_eq', wp1_extract', wp1_pick', wp1_len', wp1_load', wp1_conv', wp1_store', wp1_idxAddr', wp1_append', wp1_mkIface', wp1_alloc', rd_t, rd_c, ok_t, ok_c, put_some, put_none, get_put, reduceIte, Nat.reduceEqDiff, AV.bool.injEq, Option.some.injEq, exists_eq_left', Option.map_some, Option.bind_some, opds_nil, opds_cons, opd_t, opd_c, aBin, aInt, decide_true, decide_false, negIf, wp1_nilCheck', wp1_fieldAddr', wp1_slice, op_slice, opdo_some, opdo_none, wp1_lit, op_lit, parts_nil, parts_cons, wp1_build, op_build, wp1_box, op_box, wpk_nil, wpk_none, wpk_tt, wpk_ff, wpk_tf, wpk_ft, clsK_c, logC_apply, drawC_apply, a19_5, a19_6, g2, g3, g5, aFieldAddr, Nat.zero_add, l4, l4', lx, ld, lx2, ld2, z3, zi]
        refine ⟨rfl, ?_⟩
        exact (hQ _).1 (by simp only [get_put, reduceIte, Nat.reduceEqDiff]) (fun e => c3 (by injection e))
    · have z0 : ((i : Int) < (ns.length : Int)) = False := eq_false (by omega)
      simp only [a19_l8, a19_4, wpc_skip, wpc_ops, wpc_seq, wpc_cond, wpc_block, wpc_loop, wpc_exit, wpc_scope, wpc_ret, seqQ_norm, seqQ_ret, seqQ_exit, blockQ'_norm, blockQ'_ret, blockQ'_exit, roundQ_norm, roundQ_ret, roundQ_exit, condK_true, condK_false, wpo_nil', wpo_none, wpo_tt, wpo_ff, wpo_tf, wpo_ft, opsK_c, isC_none, isC_read, isC_write, wp1_call, callK_ret, wp1_mv', wp1_bin', wp1_un', wp1_eq', wp1_extract', wp1_pick', wp1_len', wp1_load', wp1_conv', wp1_store', wp1_idxAddr', wp1_append', wp1_mkIface', wp1_alloc', rd_t, rd_c, ok_t, ok_c, put_some, put_none, get_put, reduceIte, Nat.reduceEqDiff, AV.bool.injEq, Option.some.injEq, exists_eq_left', Option.map_some, Option.bind_some, opds_nil, opds_cons, opd_t, opd_c, aBin, aInt, decide_true, decide_false, negIf, wp1_nilCheck', wp1_fieldAddr', wp1_slice, op_slice, opdo_some, opdo_none, wp1_lit, op_lit, parts_nil, parts_cons, wp1_build, op_build, wp1_box, op_box, g2, g3, g5, aFieldAddr, Nat.zero_add, l4, l4', nl, z0]
      refine (hQ _).2 (by simp only [get_put, reduceIte, Nat.reduceEqDiff, g2]) (by simp only [get_put, reduceIte, Nat.reduceEqDiff, g3]) ?_
      rw [List.drop_of_length_le (by omega), List.drop_of_length_le (by omega)]
end
section
variable {h : Heap} {i2 i3 : Nat} {af af' : Option Bool} {ar ar' : List Tm}
  (l5 : aLoad h false 1 (.ptr i2 0 5) = some ⟨slAV af ar.length (tcs ar), h, .read⟩) (l5' : aLoad h false 1 (.ptr i3 0 5) = some ⟨slAV af' ar'.length (tcs ar'), h, .read⟩)
include l5 l5'
theorem same_args (hP : ∀ t, t ∈ ar → SameOk t) (okm : Oks ar') (hlen : ar.length = ar'.length) (hb : ar.length < 9223372036854775808) {Q : AExit → St → Prop} :
    ∀ (f i : Nat) (σ : Slots), ar.length - i < f → i ≤ ar.length → σ.get 2 = .ptr i2 0 0 → σ.get 3 = .ptr i3 0 0 → σ.get 6 = .int .i64 i →
    (∀ σ', (σ'.get 4 = .bool false → sameFs (ar.drop i) (ar'.drop i) = false → Q .ret ⟨σ', h⟩) ∧ (sameFs (ar.drop i) (ar'.drop i) = true → Q (.exit 2) ⟨σ', h⟩)) →
    WPr env a19_l14 ⟨σ, h⟩ Q := by
  intro f
  induction f with
  | zero => intro i σ h1; omega
  | succ f ih =>
    intro i σ hf hi g2 g3 g6 hQ
    refine wpr_round' fun b hb => ?_
    have nl : ∀ h, aLenOp false h (slAV af ar.length (tcs ar)) = some ⟨.int .i64 ar.length, h, .none⟩ := fun h => len_sl _ _ _ (fun _ => trivial) h
    by_cases c1 : i < ar.length
    · have c2 : i < ar'.length := by omega
      have z0 : ((i : Int) < (ar.length : Int)) = True := eq_true (by omega)
      have zi : IntKind.wrap .i64 ((i : Int) + 1) = ((i + 1 : Nat) : Int) := wrap_nat (by omega) (by omega)
      have lx := idx_args (f := af) c1
      have ld := ld_args c1 h
      have lx2 := idx_args (f := af') c2
      have ld2 := ld_args c2 h
      have hd1 : ar.drop i = ar[i] :: ar.drop (i + 1) := List.drop_eq_getElem_cons c1
      have hd2 : ar'.drop i = ar'[i] :: ar'.drop (i + 1) := List.drop_eq_getElem_cons c2
      have wo := hP ar[i] (List.getElem_mem c1) ar'[i] (okm.get (List.getElem_mem c2))
      rw [hd1, hd2, sameFs] at hQ
      simp only [a19_l14, a19_10, wpc_skip, wpc_ops, wpc_seq, wpc_cond, wpc_block, wpc_loop, wpc_exit, wpc_scope, wpc_ret, seqQ_norm, seqQ_ret, seqQ_exit, blockQ'_norm, blockQ'_ret, blockQ'_exit, roundQ_norm, roundQ_ret, roundQ_exit, condK_true, condK_false, wpo_nil', wpo_none, wpo_tt, wpo_ff, wpo_tf, wpo_ft, opsK_c, isC_none, isC_read, isC_write, wp1_call, callK_ret, wp1_mv', wp1_bin', wp1_un', wp1_eq', wp1_extract', wp1_pick', wp1_len', wp1_load', wp1_conv', wp1_store', wp1_idxAddr', wp1_append', wp1_mkIface', wp1_alloc', rd_t, rd_c, ok_t, ok_c, put_some, put_none, get_put, reduceIte, Nat.reduceEqDiff, AV.bool.injEq, Option.some.injEq, exists_eq_left', Option.map_some, Option.bind_some, opds_nil, opds_cons, opd_t, opd_c, aBin, aInt, decide_true, decide_false, negIf, wp1_nilCheck', wp1_fieldAddr', wp1_slice, op_slice, opdo_some, opdo_none, wp1_lit, op_lit, parts_nil, parts_cons, wp1_build, op_build, wp1_box, op_box, g2, g3, g6, aFieldAddr, Nat.zero_add, l5, l5', nl, z0]
      refine wpc_draw_k ?_
      cases z3 : sameF ar[i] ar'[i] with
      | true =>
        rw [z3, Bool.true_and] at hQ
        rw [z3] at wo
        simp only [wpc_skip, wpc_ops, wpc_seq, wpc_cond, wpc_block, wpc_loop, wpc_exit, wpc_scope, wpc_ret, seqQ_norm, seqQ_ret, seqQ_exit, blockQ'_norm, blockQ'_ret, blockQ'_exit, roundQ_norm, roundQ_ret, roundQ_exit, condK_true, condK_false, wpo_nil', wpo_none, wpo_tt, wpo_ff, wpo_tf, wpo_ft, opsK_c, isC_none, isC_read, isC_write, wp1_call, callK_ret, wp1_mv', wp1_bin', wp1_un', wp1_eq', wp1_extract', wp1_pick', wp1_len', wp1_load', wp1_conv', wp1_store', wp1_idxAddr', wp1_append', wp1_mkIface', wp1_alloc', rd_t, rd_c, ok_t, ok_c, put_some, put_none, get_put, reduceIte, Nat.reduceEqDiff, AV.bool.injEq, Option.some.injEq, exists_eq_left', Option.map_some, Option.bind_some, opds_nil, opds_cons, opd_t, opd_c, aBin, aInt, decide_true, decide_false, negIf, wp1_nilCheck', wp1_fieldAddr', wp1_slice, op_slice, opdo_some, opdo_none, wp1_lit, op_lit, parts_nil, parts_cons, wp1_build, op_build, wp1_box, op_box, wpk_nil, wpk_none, wpk_tt, wpk_ff, wpk_tf, wpk_ft, clsK_c, logC_apply, drawC_apply, a19_11, a19_13, g2, g3, g6, aFieldAddr, Nat.zero_add, l5, l5', lx, ld, lx2, ld2, wc_eq (wo _), aUn, Bool.not_true, zi]
        refine ⟨rfl, ?_⟩
        subst hb
        refine ih (i + 1) _ (by omega) (by omega) ?_ ?_ ?_ hQ
        · simp only [get_put, reduceIte, Nat.reduceEqDiff, g2]
        · simp only [get_put, reduceIte, Nat.reduceEqDiff, g3]
        · simp only [get_put, reduceIte, Nat.reduceEqDiff]
      | false =>
        rw [z3, Bool.false_and] at hQ
        rw [z3] at wo
        simp only [wpc_skip, wpc_ops, wpc_seq, wpc_cond, wpc_block, wpc_loop, wpc_exit, wpc_scope, wpc_ret, seqQ_norm, seqQ_ret, seqQ_exit, blockQ'_norm, blockQ'_ret, blockQ'_exit, roundQ_norm, roundQ_ret, roundQ_exit, condK_true, condK_false, wpo_nil', wpo_none, wpo_tt, wpo_ff, wpo_tf, wpo_ft, opsK_c, isC_none, isC_read, isC_write, wp1_call, callK_ret, wp1_mv', wp1_bin', wp1_un', wp1_eq', wp1_extract', wp1_pick', wp1_len', wp1_load', wp1_conv', wp1_store', wp1_idxAddr', wp1_append', wp1_mkIface', wp1_alloc', rd_t, rd_c, ok_t, ok_c, put_some, put_none, get_put, reduceIte, Nat.reduceEqDiff, AV.bool.injEq, Option.some.injEq, exists_eq_left', Option.map_some, Option.bind_some, opds_nil, opds_cons, opd_t, opd_c, aBin, aInt, decide_true, decide_false, negIf, wp1_nilCheck', wp1_fieldAddr', wp1_slice, op_slice, opdo_some, opdo_none, wp1_lit, op_lit, parts_nil, parts_cons, wp1_build, op_build, wp1_box, op_box, wpk_nil, wpk_none, wpk_tt, wpk_ff, wpk_tf, wpk_ft, clsK_c, logC_apply, drawC_apply, a19_11, a19_12, g2, g3, g6, aFieldAddr, Nat.zero_add, l5, l5', lx, ld, lx2, ld2, wc_eq (wo _), aUn, Bool.not_false, zi]
        refine ⟨rfl, ?_⟩
        exact (hQ _).1 (by simp only [get_put, reduceIte, Nat.reduceEqDiff]) rfl
    · have z0 : ((i : Int) < (ar.length : Int)) = False := eq_false (by omega)
      simp only [a19_l14, a19_10, wpc_skip, wpc_ops, wpc_seq, wpc_cond, wpc_block, wpc_loop, wpc_exit, wpc_scope, wpc_ret, seqQ_norm, seqQ_ret, seqQ_exit, blockQ'_norm, blockQ'_ret, blockQ'_exit, roundQ_norm, roundQ_ret, roundQ_exit, condK_true, condK_false, wpo_nil', wpo_none, wpo_tt, wpo_ff, wpo_tf, wpo_ft, opsK_c, isC_none, isC_read, isC_write, wp1_call, callK_ret, wp1_mv', wp1_bin', wp1_un', wp1_eq', wp1_extract', wp1_pick', wp1_len', wp1_load', wp1_conv', wp1_store', wp1_idxAddr', wp1_append', wp1_mkIface', wp1_alloc', rd_t, rd_c, ok_t, ok_c, put_some, put_none, get_put, reduceIte, Nat.reduceEqDiff, AV.bool.injEq, Option.some.injEq, exists_eq_left', Option.map_some, Option.bind_some, opds_nil, opds_cons, opd_t, opd_c, aBin, aInt, decide_true, decide_false, negIf, wp1_nilCheck', wp1_fieldAddr', wp1_slice, op_slice, opdo_some, opdo_none, wp1_lit, op_lit, parts_nil, parts_cons, wp1_build, op_build, wp1_box, op_box, g2, g3, g6, aFieldAddr, Nat.zero_add, l5, l5', nl, z0]
      refine (hQ _).2 ?_
      rw [List.drop_of_length_le (by omega), List.drop_of_length_le (by omega), sameFs]
end
end Go.Bf
