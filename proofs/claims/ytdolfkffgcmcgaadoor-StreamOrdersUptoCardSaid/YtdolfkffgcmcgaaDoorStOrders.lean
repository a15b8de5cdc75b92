/-
  StreamOrders answers true.
-/
import Derived.Test.YtdolfkffgcmcgaaDoorStOrd2
set_option linter.unusedVariables false
set_option linter.unusedSimpArgs false
set_option maxRecDepth 20000
namespace Go.St
open Go.AM

def swi : AC := (.seq (.ops a6_10) (.cond (.t 34) (.seq (.ops a6_11) (.cond (.t 42) (.draw a6_12 a6_12b) .skip)) (.seq (.ops a6_13) (.cond (.t 53) (.ops a6_14) (.seq (.ops a6_15) (.cond (.t 61) (.ops a6_16) (.seq (.ops a6_17) (.cond (.t 69) (.seq (.ops a6_18) (.draw a6_19 a6_19b)) (.seq (.ops a6_20) (.cond (.t 89) (.ops a6_21) (.seq (.ops a6_22) (.cond (.t 93) (.ops a6_23) .skip))))))))))))

theorem same_int (k : IntKind) (x : Int) : (AV.int k x).same (.int k x) = true := by simp [AV.same]
theorem f1_ptr (id : Nat) : aFieldAddr 1 (.ptr id 0 0) = some (.ptr id 0 1) := rfl

theorem orders_op {h : Heap} {σ : Slots} {id i4 i5 i7 e m : Nat} {o : Op5} (k : Ore h id i4 i5 i7 0 (m + o.b.length) o.cells) (hoe : o.e = (e : Int)) (he : e = 0 ∨ e = 1) (hb : ∀ h, Bytes h o.v o.b)
    (g3 : σ.get 3 = .ptr id 0 0) (g4 : σ.get 4 = .ptr i4 0 0) (g5 : σ.get 5 = .ptr i5 0 0) (g7 : σ.get 7 = .ptr i7 0 0) (g33 : σ.get 33 = .int .i64 o.kind) {Q : AExit → St → Prop}
    (hQ : ∀ σ' h', Ore h' id i4 i5 i7 0 m o.cells → (∀ n, n < 8 → σ'.get n = σ.get n) → Q .norm ⟨σ', h'⟩) : wpc env swi ⟨σ, h⟩ Q := by
  have le : Ore h id i4 i5 i7 0 m o.cells := by
    obtain ⟨cl, t, oo, tu, tc, ou, oc, s, s', r, r', S, S', R, R', k, l⟩ := k
    exact ⟨_, _, _, _, _, _, _, _, _, _, _, _, _, _, _, k, l.le (by omega)⟩
  have a7 : h.at_ i7 0 = some o.cells := by
    obtain ⟨cl, t, oo, tu, tc, ou, oc, s, s', r, r', S, S', R, R', k, l⟩ := k
    exact k.a7
  have fin : ∀ {h' : Heap} {σ' : Slots}, Ore h' id i4 i5 i7 e m o.cells → (∀ n, n < 8 → σ'.get n = σ.get n) → Q .norm ⟨σ', h'⟩ := fun x y => hQ _ _ (x.to he (.inl rfl)) y
  have le' := le.to (.inl rfl) he
  have ke := k.to (.inl rfl) he
  have le_ : ∀ {h : Heap}, h.at_ i7 0 = some o.cells → aLoad h false 1 (.ptr i7 0 1) = some ⟨.int .i64 (e : Int), h, .read⟩ := fun {h} x => by rw [← hoe]; exact op5_e x
  have l1 := le_ a7
  have l2 := op5_n a7
  have l3 := op5_y a7
  have l4 := op5_v a7
  by_cases c1 : o.kind = 1
  · have z1 : (o.kind == 1) = true := by simp [c1]
    obtain ⟨cl, t, oo, tu, tc, ou, oc, s, s', r, r', S, S', R, R', km, l⟩ := ke
    rcases ord_send km l he hb with ⟨c, h1, w, k1⟩ | ⟨s, s', s2, h1, h2, h3, c, w, x1, x2, x3, x4, x5, k1⟩
    · simp only [swi, a6_10, a6_11, wpc_skip, wpc_ops, wpc_draw, wpc_seq, wpc_cond, wpc_block, wpc_loop, wpc_exit, wpc_scope, wpc_ret, seqQ_norm, seqQ_ret, seqQ_exit, blockQ'_norm, blockQ'_ret, blockQ'_exit, roundQ_norm, roundQ_ret, roundQ_exit, condK_true, condK_false, wpo_nil', wpo_none, wpo_some, opsK_apply, guardK_tt, guardK_ff, guardK_tf, guardK_ft, wp1_call, callK_ret, wp1_mv', wp1_bin', wp1_un', wp1_eq', wp1_extract', wp1_pick', wp1_len', wp1_load', wp1_conv', wp1_store', wp1_idxAddr', wp1_append', wp1_mkIface', wp1_alloc', rd_t, rd_c, ok_t, ok_c, put_some, put_none, get_put, reduceIte, Nat.reduceEqDiff, AV.bool.injEq, Option.some.injEq, exists_eq_left', Option.map_some, Option.bind_some, opds_nil, opds_cons, opd_t, opd_c, aBin, aInt, decide_true, decide_false, negIf, wp1_nilCheck', wp1_fieldAddr', wp1_slice, op_slice, opdo_some, opdo_none, wp1_lit, op_lit, parts_nil, parts_cons, wp1_build, op_build, wp1_box, op_box, wp1_idxAddrArr, op_idxAddrArr, g3, g4, g5, g7, g33, z1, aFieldAddr, Nat.zero_add, l1, l2, l3, l4, wc_eq w, eq_ref]
      refine fin k1 fun n hn => ?_
      simp only [get_put]
      repeat rw [if_neg (by omega)]
    · have p1 := p2_this he x1
      have q1 := le_ x2
      have q2 := op5_v x2
      have q3 := le_ x4
      have x6 : h3.at_ i7 0 = some o.cells := by
        obtain ⟨cl, t, oo, tu, tc, ou, oc, s, s', r, r', S, S', R, R', km, l⟩ := k1
        exact km.a7
      have q4 := le_ x6
      simp only [swi, a6_10, a6_11, a6_12, wpc_skip, wpc_ops, wpc_draw, wpc_seq, wpc_cond, wpc_block, wpc_loop, wpc_exit, wpc_scope, wpc_ret, seqQ_norm, seqQ_ret, seqQ_exit, blockQ'_norm, blockQ'_ret, blockQ'_exit, roundQ_norm, roundQ_ret, roundQ_exit, condK_true, condK_false, wpo_nil', wpo_none, wpo_some, opsK_apply, guardK_tt, guardK_ff, guardK_tf, guardK_ft, wp1_call, callK_ret, wp1_mv', wp1_bin', wp1_un', wp1_eq', wp1_extract', wp1_pick', wp1_len', wp1_load', wp1_conv', wp1_store', wp1_idxAddr', wp1_append', wp1_mkIface', wp1_alloc', rd_t, rd_c, ok_t, ok_c, put_some, put_none, get_put, reduceIte, Nat.reduceEqDiff, AV.bool.injEq, Option.some.injEq, exists_eq_left', Option.map_some, Option.bind_some, opds_nil, opds_cons, opd_t, opd_c, aBin, aInt, decide_true, decide_false, negIf, wp1_nilCheck', wp1_fieldAddr', wp1_slice, op_slice, opdo_some, opdo_none, wp1_lit, op_lit, parts_nil, parts_cons, wp1_build, op_build, wp1_box, op_box, wpl_nil', wpl_none, wpl_some, logK_apply, logQ_apply, guardL_tt, guardL_ff, guardL_tf, guardL_ft, drawQ_apply, wp1_idxAddrArr, op_idxAddrArr, g3, g4, g5, g7, g33, z1, aFieldAddr, Nat.zero_add, l1, l2, l3, l4, wc_eq w, eq_nil, q1, q2, ri_this he, p1, x3, x5]
      refine ⟨draw_of_cls3 [1] (by cases c <;> rfl) ⟨?_, trivial⟩, fin k1 fun n hn => ?_⟩
      · show Env.steady _ _ _ _ = true
        simp only [Env.steady, List.map_cons, List.map_nil, op_loadT, opd_t, get_put, reduceIte, Nat.reduceEqDiff, Option.bind_some, q1, q3, q4, same_int, Bool.and_self, Bool.true_and, Bool.and_true]
      · simp only [get_put]
        repeat rw [if_neg (by omega)]
  have z1 : (o.kind == 1) = false := by simpa using c1
  by_cases c2 : o.kind = 2
  · have z2 : (o.kind == 2) = true := by simp [c2]
    obtain ⟨cl, t, oo, tu, tc, ou, oc, s, s', r, r', S, S', R, R', km, l⟩ := le'
    obtain ⟨v, h1, w, k1⟩ := ord_move (n := o.n) km l he
    simp only [swi, a6_10, a6_13, a6_14, wpc_skip, wpc_ops, wpc_draw, wpc_seq, wpc_cond, wpc_block, wpc_loop, wpc_exit, wpc_scope, wpc_ret, seqQ_norm, seqQ_ret, seqQ_exit, blockQ'_norm, blockQ'_ret, blockQ'_exit, roundQ_norm, roundQ_ret, roundQ_exit, condK_true, condK_false, wpo_nil', wpo_none, wpo_some, opsK_apply, guardK_tt, guardK_ff, guardK_tf, guardK_ft, wp1_call, callK_ret, wp1_mv', wp1_bin', wp1_un', wp1_eq', wp1_extract', wp1_pick', wp1_len', wp1_load', wp1_conv', wp1_store', wp1_idxAddr', wp1_append', wp1_mkIface', wp1_alloc', rd_t, rd_c, ok_t, ok_c, put_some, put_none, get_put, reduceIte, Nat.reduceEqDiff, AV.bool.injEq, Option.some.injEq, exists_eq_left', Option.map_some, Option.bind_some, opds_nil, opds_cons, opd_t, opd_c, aBin, aInt, decide_true, decide_false, negIf, wp1_nilCheck', wp1_fieldAddr', wp1_slice, op_slice, opdo_some, opdo_none, wp1_lit, op_lit, parts_nil, parts_cons, wp1_build, op_build, wp1_box, op_box, g3, g4, g5, g7, g33, z1, z2, aFieldAddr, Nat.zero_add, l1, l2, l3, l4, wc_eq w]
    refine fin k1 fun n hn => ?_
    simp only [get_put]
    repeat rw [if_neg (by omega)]
  have z2 : (o.kind == 2) = false := by simpa using c2
  by_cases c3 : o.kind = 3
  · have z3 : (o.kind == 3) = true := by simp [c3]
    obtain ⟨cl, t, oo, tu, tc, ou, oc, s, s', r, r', S, S', R, R', km, l⟩ := le'
    obtain ⟨v, h1, w, k1⟩ := ord_stall (y := o.yes) km l he
    simp only [swi, a6_10, a6_13, a6_15, a6_16, wpc_skip, wpc_ops, wpc_draw, wpc_seq, wpc_cond, wpc_block, wpc_loop, wpc_exit, wpc_scope, wpc_ret, seqQ_norm, seqQ_ret, seqQ_exit, blockQ'_norm, blockQ'_ret, blockQ'_exit, roundQ_norm, roundQ_ret, roundQ_exit, condK_true, condK_false, wpo_nil', wpo_none, wpo_some, opsK_apply, guardK_tt, guardK_ff, guardK_tf, guardK_ft, wp1_call, callK_ret, wp1_mv', wp1_bin', wp1_un', wp1_eq', wp1_extract', wp1_pick', wp1_len', wp1_load', wp1_conv', wp1_store', wp1_idxAddr', wp1_append', wp1_mkIface', wp1_alloc', rd_t, rd_c, ok_t, ok_c, put_some, put_none, get_put, reduceIte, Nat.reduceEqDiff, AV.bool.injEq, Option.some.injEq, exists_eq_left', Option.map_some, Option.bind_some, opds_nil, opds_cons, opd_t, opd_c, aBin, aInt, decide_true, decide_false, negIf, wp1_nilCheck', wp1_fieldAddr', wp1_slice, op_slice, opdo_some, opdo_none, wp1_lit, op_lit, parts_nil, parts_cons, wp1_build, op_build, wp1_box, op_box, g3, g4, g5, g7, g33, z1, z2, z3, aFieldAddr, Nat.zero_add, l1, l2, l3, l4, wc_eq w]
    refine fin k1 fun n hn => ?_
    simp only [get_put]
    repeat rw [if_neg (by omega)]
  have z3 : (o.kind == 3) = false := by simpa using c3
  by_cases c4 : o.kind = 4
  · have z4 : (o.kind == 4) = true := by simp [c4]
    obtain ⟨cl, t, oo, tu, tc, ou, oc, s, s', r, r', S, S', R, R', km, l⟩ := le'
    obtain ⟨x, y, r, r', r2, h1, h2, h3, c, w, x1, x2, x3, x4, x5, k1⟩ := ord_read (n := o.n) km l he
    have p1 := p2_this he x1
    have q1 := le_ x2
    have q3 := le_ x4
    have x6 : h3.at_ i7 0 = some o.cells := by
      obtain ⟨cl, t, oo, tu, tc, ou, oc, s, s', r, r', S, S', R, R', km, l⟩ := k1
      exact km.a7
    have q4 := le_ x6
    simp only [swi, a6_10, a6_13, a6_15, a6_17, a6_18, a6_19, wpc_skip, wpc_ops, wpc_draw, wpc_seq, wpc_cond, wpc_block, wpc_loop, wpc_exit, wpc_scope, wpc_ret, seqQ_norm, seqQ_ret, seqQ_exit, blockQ'_norm, blockQ'_ret, blockQ'_exit, roundQ_norm, roundQ_ret, roundQ_exit, condK_true, condK_false, wpo_nil', wpo_none, wpo_some, opsK_apply, guardK_tt, guardK_ff, guardK_tf, guardK_ft, wp1_call, callK_ret, wp1_mv', wp1_bin', wp1_un', wp1_eq', wp1_extract', wp1_pick', wp1_len', wp1_load', wp1_conv', wp1_store', wp1_idxAddr', wp1_append', wp1_mkIface', wp1_alloc', rd_t, rd_c, ok_t, ok_c, put_some, put_none, get_put, reduceIte, Nat.reduceEqDiff, AV.bool.injEq, Option.some.injEq, exists_eq_left', Option.map_some, Option.bind_some, opds_nil, opds_cons, opd_t, opd_c, aBin, aInt, decide_true, decide_false, negIf, wp1_nilCheck', wp1_fieldAddr', wp1_slice, op_slice, opdo_some, opdo_none, wp1_lit, op_lit, parts_nil, parts_cons, wp1_build, op_build, wp1_box, op_box, wpl_nil', wpl_none, wpl_some, logK_apply, logQ_apply, guardL_tt, guardL_ff, guardL_tf, guardL_ft, drawQ_apply, wp1_idxAddrArr, op_idxAddrArr, g3, g4, g5, g7, g33, z1, z2, z3, z4, aFieldAddr, Nat.zero_add, l1, l2, l3, l4, wc_eq w, aExtract, ex0, ex1, q1, ri_this he, p1, x3, x5]
    refine ⟨draw_of_cls3 [1] (by cases c <;> rfl) ⟨?_, trivial⟩, fin k1 fun n hn => ?_⟩
    · show Env.steady _ _ _ _ = true
      simp only [Env.steady, List.map_cons, List.map_nil, op_loadT, opd_t, get_put, reduceIte, Nat.reduceEqDiff, Option.bind_some, q1, q3, q4, same_int, Bool.and_self, Bool.true_and, Bool.and_true]
    · simp only [get_put]
      repeat rw [if_neg (by omega)]
  have z4 : (o.kind == 4) = false := by simpa using c4
  by_cases c5 : o.kind = 5
  · have z5 : (o.kind == 5) = true := by simp [c5]
    obtain ⟨cl, t, oo, tu, tc, ou, oc, s, s', r, r', S, S', R, R', km, l⟩ := le
    obtain ⟨v, h1, w, k1⟩ := ord_break km l
    simp only [swi, a6_10, a6_13, a6_15, a6_17, a6_20, a6_21, wpc_skip, wpc_ops, wpc_draw, wpc_seq, wpc_cond, wpc_block, wpc_loop, wpc_exit, wpc_scope, wpc_ret, seqQ_norm, seqQ_ret, seqQ_exit, blockQ'_norm, blockQ'_ret, blockQ'_exit, roundQ_norm, roundQ_ret, roundQ_exit, condK_true, condK_false, wpo_nil', wpo_none, wpo_some, opsK_apply, guardK_tt, guardK_ff, guardK_tf, guardK_ft, wp1_call, callK_ret, wp1_mv', wp1_bin', wp1_un', wp1_eq', wp1_extract', wp1_pick', wp1_len', wp1_load', wp1_conv', wp1_store', wp1_idxAddr', wp1_append', wp1_mkIface', wp1_alloc', rd_t, rd_c, ok_t, ok_c, put_some, put_none, get_put, reduceIte, Nat.reduceEqDiff, AV.bool.injEq, Option.some.injEq, exists_eq_left', Option.map_some, Option.bind_some, opds_nil, opds_cons, opd_t, opd_c, aBin, aInt, decide_true, decide_false, negIf, wp1_nilCheck', wp1_fieldAddr', wp1_slice, op_slice, opdo_some, opdo_none, wp1_lit, op_lit, parts_nil, parts_cons, wp1_build, op_build, wp1_box, op_box, g3, g4, g5, g7, g33, z1, z2, z3, z4, z5, aFieldAddr, Nat.zero_add, l1, l2, l3, l4, wc_eq w]
    refine hQ _ _ k1 fun n hn => ?_
    simp only [get_put]
    repeat rw [if_neg (by omega)]
  have z5 : (o.kind == 5) = false := by simpa using c5
  by_cases c6 : o.kind = 6
  · have z6 : (o.kind == 6) = true := by simp [c6]
    obtain ⟨cl, t, oo, tu, tc, ou, oc, s, s', r, r', S, S', R, R', km, l⟩ := le'
    obtain ⟨v, h1, w, k1⟩ := ord_close km l he
    simp only [swi, a6_10, a6_13, a6_15, a6_17, a6_20, a6_22, a6_23, wpc_skip, wpc_ops, wpc_draw, wpc_seq, wpc_cond, wpc_block, wpc_loop, wpc_exit, wpc_scope, wpc_ret, seqQ_norm, seqQ_ret, seqQ_exit, blockQ'_norm, blockQ'_ret, blockQ'_exit, roundQ_norm, roundQ_ret, roundQ_exit, condK_true, condK_false, wpo_nil', wpo_none, wpo_some, opsK_apply, guardK_tt, guardK_ff, guardK_tf, guardK_ft, wp1_call, callK_ret, wp1_mv', wp1_bin', wp1_un', wp1_eq', wp1_extract', wp1_pick', wp1_len', wp1_load', wp1_conv', wp1_store', wp1_idxAddr', wp1_append', wp1_mkIface', wp1_alloc', rd_t, rd_c, ok_t, ok_c, put_some, put_none, get_put, reduceIte, Nat.reduceEqDiff, AV.bool.injEq, Option.some.injEq, exists_eq_left', Option.map_some, Option.bind_some, opds_nil, opds_cons, opd_t, opd_c, aBin, aInt, decide_true, decide_false, negIf, wp1_nilCheck', wp1_fieldAddr', wp1_slice, op_slice, opdo_some, opdo_none, wp1_lit, op_lit, parts_nil, parts_cons, wp1_build, op_build, wp1_box, op_box, g3, g4, g5, g7, g33, z1, z2, z3, z4, z5, z6, aFieldAddr, Nat.zero_add, l1, l2, l3, l4, wc_eq w]
    refine fin k1 fun n hn => ?_
    simp only [get_put]
    repeat rw [if_neg (by omega)]
  have z6 : (o.kind == 6) = false := by simpa using c6
  simp only [swi, a6_10, a6_13, a6_15, a6_17, a6_20, a6_22, wpc_skip, wpc_ops, wpc_draw, wpc_seq, wpc_cond, wpc_block, wpc_loop, wpc_exit, wpc_scope, wpc_ret, seqQ_norm, seqQ_ret, seqQ_exit, blockQ'_norm, blockQ'_ret, blockQ'_exit, roundQ_norm, roundQ_ret, roundQ_exit, condK_true, condK_false, wpo_nil', wpo_none, wpo_some, opsK_apply, guardK_tt, guardK_ff, guardK_tf, guardK_ft, wp1_call, callK_ret, wp1_mv', wp1_bin', wp1_un', wp1_eq', wp1_extract', wp1_pick', wp1_len', wp1_load', wp1_conv', wp1_store', wp1_idxAddr', wp1_append', wp1_mkIface', wp1_alloc', rd_t, rd_c, ok_t, ok_c, put_some, put_none, get_put, reduceIte, Nat.reduceEqDiff, AV.bool.injEq, Option.some.injEq, exists_eq_left', Option.map_some, Option.bind_some, opds_nil, opds_cons, opd_t, opd_c, aBin, aInt, decide_true, decide_false, negIf, wp1_nilCheck', wp1_fieldAddr', wp1_slice, op_slice, opdo_some, opdo_none, wp1_lit, op_lit, parts_nil, parts_cons, wp1_build, op_build, wp1_box, op_box, g3, g4, g5, g7, g33, z1, z2, z3, z4, z5, z6]
  refine hQ _ _ le fun n hn => ?_
  simp only [get_put]
  repeat rw [if_neg (by omega)]

end Go.St
