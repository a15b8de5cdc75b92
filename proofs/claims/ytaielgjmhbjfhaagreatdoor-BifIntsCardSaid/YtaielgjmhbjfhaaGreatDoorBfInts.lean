/-
  Sums, products, quotients and rests, as the package's calls give them.
-/
import Derived.Test.YtaielgjmhbjfhaaGreatDoorBfInt
set_option linter.unusedVariables false
set_option linter.unusedSimpArgs false
set_option maxRecDepth 20000
namespace Go.Bf
open Go.AM

theorem wrap_id {v : Int} (h : -9223372036854775808 ≤ v ∧ v < 9223372036854775808) : IntKind.wrap .i64 v = v := by
  show (if (true && decide (v % 18446744073709551616 ≥ 9223372036854775808)) = true then v % 18446744073709551616 - 18446744073709551616 else v % 18446744073709551616) = v
  split
  · rename_i c
    simp only [Bool.true_and, decide_eq_true_eq] at c
    omega
  · rename_i c
    simp only [Bool.true_and, decide_eq_true_eq] at c
    omega
theorem wrap_Small {v : Int} (h : Small v) : IntKind.wrap .i64 v = v := wrap_id (by have := h.1; have := h.2; omega)

theorem product_spec {a b : Int} (ha : Small a) (hb : b ≠ 0) (hab : Small (a * b)) (h : Heap) : WC env 100 [.int .i64 a, .int .i64 b] h (fun o => o = .ret ⟨.tup [.int .i64 (a * b), .bool true], h, .none⟩) := by
  refine call_pure rfl rfl rfl rfl ?_
  have z1 : (b == 0) = false := by simpa using hb
  have z2 : (b = 0) = False := eq_false hb
  have z3 := wrap_Small hab
  have z4 : (a * b).tdiv b = a := Int.mul_tdiv_cancel a hb
  have z5 := wrap_Small ha
  have z6 : (a * b).tmod b = 0 := Int.mul_tmod_left a b
  have z7 : ((0 : Int) == 0) = true := rfl
  have z8 : (a == a) = true := by simp
  by_cases c : a = 0
  · subst c
    have z9 : ((0 : Int) * b) = 0 := by omega
    simp only [a100, a100_0, a100_1, a100_2, Slots.ofList, wpc_skip, wpc_ops, wpc_draw, wpc_seq, wpc_cond, wpc_block, wpc_loop, wpc_exit, wpc_scope, wpc_ret, seqQ_norm, seqQ_ret, seqQ_exit, blockQ'_norm, blockQ'_ret, blockQ'_exit, roundQ_norm, roundQ_ret, roundQ_exit, condK_true, condK_false, wpo_nil', wpo_none, wpo_tt, wpo_ff, wpo_tf, wpo_ft, opsK_c, isC_none, isC_read, isC_write, wp1_call, callK_ret, wp1_mv', wp1_bin', wp1_un', wp1_eq', wp1_extract', wp1_pick', wp1_len', wp1_load', wp1_conv', wp1_store', wp1_idxAddr', wp1_append', wp1_mkIface', wp1_alloc', rd_t, rd_c, ok_t, ok_c, put_some, put_none, get_put, reduceIte, Nat.reduceEqDiff, AV.bool.injEq, Option.some.injEq, exists_eq_left', Option.map_some, Option.bind_some, opds_nil, opds_cons, opd_t, opd_c, aBin, aInt, decide_true, decide_false, negIf, wp1_nilCheck', wp1_fieldAddr', wp1_slice, op_slice, opdo_some, opdo_none, wp1_lit, op_lit, parts_nil, parts_cons, wp1_build, op_build, wp1_box, op_box, z7, aPick]
    refine ⟨[.int .i64 0, .bool true], _, by simp only [Env.results, Option.map_some, get_put, reduceIte, Nat.reduceEqDiff], (frz_noRef (v := .tup [.int .i64 0, .bool true]) rfl).2 rfl, ?_⟩
    rw [z9]
  · have z0 : (a == 0) = false := by simpa using c
    simp only [a100, a100_0, a100_1, a100_3, a100_4, Slots.ofList, wpc_skip, wpc_ops, wpc_seq, wpc_cond, wpc_block, wpc_loop, wpc_exit, wpc_scope, wpc_ret, seqQ_norm, seqQ_ret, seqQ_exit, blockQ'_norm, blockQ'_ret, blockQ'_exit, roundQ_norm, roundQ_ret, roundQ_exit, condK_true, condK_false, wpo_nil', wpo_none, wpo_tt, wpo_ff, wpo_tf, wpo_ft, opsK_c, isC_none, isC_read, isC_write, wp1_call, callK_ret, wp1_mv', wp1_bin', wp1_un', wp1_eq', wp1_extract', wp1_pick', wp1_len', wp1_load', wp1_conv', wp1_store', wp1_idxAddr', wp1_append', wp1_mkIface', wp1_alloc', rd_t, rd_c, ok_t, ok_c, put_some, put_none, get_put, reduceIte, Nat.reduceEqDiff, AV.bool.injEq, Option.some.injEq, exists_eq_left', Option.map_some, Option.bind_some, opds_nil, opds_cons, opd_t, opd_c, aBin, aInt, decide_true, decide_false, negIf, wp1_nilCheck', wp1_fieldAddr', wp1_slice, op_slice, opdo_some, opdo_none, wp1_lit, op_lit, parts_nil, parts_cons, wp1_build, op_build, wp1_box, op_box, z0, z1, aPick, z3]
    refine wpc_draw_k ?_
    simp only [wpc_skip, wpc_ops, wpc_seq, wpc_cond, wpc_block, wpc_loop, wpc_exit, wpc_scope, wpc_ret, seqQ_norm, seqQ_ret, seqQ_exit, blockQ'_norm, blockQ'_ret, blockQ'_exit, roundQ_norm, roundQ_ret, roundQ_exit, condK_true, condK_false, wpo_nil', wpo_none, wpo_tt, wpo_ff, wpo_tf, wpo_ft, opsK_c, isC_none, isC_read, isC_write, wp1_call, callK_ret, wp1_mv', wp1_bin', wp1_un', wp1_eq', wp1_extract', wp1_pick', wp1_len', wp1_load', wp1_conv', wp1_store', wp1_idxAddr', wp1_append', wp1_mkIface', wp1_alloc', rd_t, rd_c, ok_t, ok_c, put_some, put_none, get_put, reduceIte, Nat.reduceEqDiff, AV.bool.injEq, Option.some.injEq, exists_eq_left', Option.map_some, Option.bind_some, opds_nil, opds_cons, opd_t, opd_c, aBin, aInt, decide_true, decide_false, negIf, wp1_nilCheck', wp1_fieldAddr', wp1_slice, op_slice, opdo_some, opdo_none, wp1_lit, op_lit, parts_nil, parts_cons, wp1_build, op_build, wp1_box, op_box, wpk_nil, wpk_none, wpk_tt, wpk_ff, wpk_tf, wpk_ft, clsK_c, logC_apply, drawC_apply, z2, if_false, z4, z5, z6, z7, z8, aPick]
    refine ⟨rfl, ?_⟩
    exact ⟨[.int .i64 (a * b), .bool true], _, by simp only [Env.results, Option.map_some, get_put, reduceIte, Nat.reduceEqDiff], (frz_noRef (v := .tup [.int .i64 (a * b), .bool true]) rfl).2 rfl, rfl⟩

theorem tdiv_bound {x y : Int} (h : Small x) : -9223372036854775808 ≤ x.tdiv y ∧ x.tdiv y < 9223372036854775808 := by
  have := Int.natAbs_tdiv_le_natAbs x y
  obtain ⟨p, q⟩ := h
  omega
theorem reckon_add {x y : Int} (hx : Small x) (hy : Small y) (hv : Small (x + y)) (h : Heap) : WC env 60 [.str [43], .agg (ti x), .agg (ti y)] h (fun o => o = .ret ⟨.tup [.agg (ti (x + y)), .int .i64 0], h, .none⟩) := by
  refine call_pure rfl rfl rfl rfl ?_
  obtain ⟨h1, eh1⟩ : ∃ h1, h1 = Heap.empty.new (ti x) := ⟨_, rfl⟩
  have ho1 : HeapOk h1 := by rw [eh1]; exact HeapOk.empty.new _
  have a1 : h1.at_ Heap.empty.next 0 = some (ti x) := by rw [eh1]; exact at_new _
  obtain ⟨h2, eh2⟩ : ∃ h2, h2 = h1.new (ti y) := ⟨_, rfl⟩
  have ho2 : HeapOk h2 := by rw [eh2]; exact ho1.new _
  have a2 : h2.at_ Heap.empty.next 0 = some (ti x) := by rw [eh2]; exact (le_new ho1 _).2 _ _ _ a1
  have b2 : h2.at_ h1.next 0 = some (ti y) := by rw [eh2]; exact at_new _
  obtain ⟨h3, eh3⟩ : ∃ h3, h3 = h2.new [.int .i64 0, .int .i64 0, .str [], .int .u32 0, .nils, .nils] := ⟨_, rfl⟩
  have a3 : h3.at_ Heap.empty.next 0 = some (ti x) := by rw [eh3]; exact (le_new ho2 _).2 _ _ _ a2
  have b3 : h3.at_ h1.next 0 = some (ti y) := by rw [eh3]; exact (le_new ho2 _).2 _ _ _ b2
  have c3 : h3.at_ h2.next 0 = some zero6 := by rw [eh3]; exact at_new _
  have y1 : (AV.agg (ti x)).row = some (ti x) := rfl
  have y2 : (AV.agg (ti y)).row = some (ti y) := rfl
  have y3 : (ti x).length = 6 := rfl
  have y4 : (ti y).length = 6 := rfl
  have l0 := ld60 a3
  have l1 := ld61 a3
  have m0 := ld60 b3
  have m1 := ld61 b3
  have u0 : ((1 : Int) != 1) = false := rfl
  have n0 : (([43] : List UInt8) == [43]) = true := by decide
  have w : IntKind.wrap .i64 (x + y) = (x + y) := wrap_id (by obtain ⟨p, q⟩ := hx; obtain ⟨r, s⟩ := hy; omega)
  have z1 : ((x + y) < -576460752303423488) = False := eq_false (by have := hv.1; omega)
  have z2 : ((x + y) > 576460752303423487) = False := eq_false (by have := hv.2; omega)
  have s1 : aStore h3 6 (.ptr h2.next 0 0) (.agg (ti (x + y))) = some ⟨.undef, h3.upd h2.next 0 (ti (x + y)), .write⟩ := st6 c3
  have l6 : aLoad (h3.upd h2.next 0 (ti (x + y))) true 6 (.ptr h2.next 0 0) = some ⟨.agg (ti (x + y)), h3.upd h2.next 0 (ti (x + y)), .read⟩ := ld6 at_upd
  simp only [a60, a60_0, a60_1, a60_3, a60_4, a60_5, a60_6, a60_16, a60_18, Slots.ofList, wpc_skip, wpc_ops, wpc_seq, wpc_cond, wpc_block, wpc_loop, wpc_exit, wpc_scope, wpc_ret, seqQ_norm, seqQ_ret, seqQ_exit, blockQ'_norm, blockQ'_ret, blockQ'_exit, roundQ_norm, roundQ_ret, roundQ_exit, condK_true, condK_false, wpo_nil', wpo_none, wpo_tt, wpo_ff, wpo_tf, wpo_ft, opsK_c, isC_none, isC_read, isC_write, wp1_call, callK_ret, wp1_mv', wp1_bin', wp1_un', wp1_eq', wp1_extract', wp1_pick', wp1_len', wp1_load', wp1_conv', wp1_store', wp1_idxAddr', wp1_append', wp1_mkIface', wp1_alloc', rd_t, rd_c, ok_t, ok_c, put_some, put_none, get_put, reduceIte, Nat.reduceEqDiff, AV.bool.injEq, Option.some.injEq, exists_eq_left', Option.map_some, Option.bind_some, opds_nil, opds_cons, opd_t, opd_c, aBin, aInt, decide_true, decide_false, negIf, wp1_nilCheck', wp1_fieldAddr', wp1_slice, op_slice, opdo_some, opdo_none, wp1_lit, op_lit, parts_nil, parts_cons, wp1_build, op_build, wp1_box, op_box, y1, y2, y3, y4, ← eh1, ← eh2, ← eh3, aFieldAddr, Nat.zero_add, l0, m0, u0, aPick]
  refine wpc_draw_k ?_
  simp only [wpc_skip, wpc_ops, wpc_seq, wpc_cond, wpc_block, wpc_loop, wpc_exit, wpc_scope, wpc_ret, seqQ_norm, seqQ_ret, seqQ_exit, blockQ'_norm, blockQ'_ret, blockQ'_exit, roundQ_norm, roundQ_ret, roundQ_exit, condK_true, condK_false, wpo_nil', wpo_none, wpo_tt, wpo_ff, wpo_tf, wpo_ft, opsK_c, isC_none, isC_read, isC_write, wp1_call, callK_ret, wp1_mv', wp1_bin', wp1_un', wp1_eq', wp1_extract', wp1_pick', wp1_len', wp1_load', wp1_conv', wp1_store', wp1_idxAddr', wp1_append', wp1_mkIface', wp1_alloc', rd_t, rd_c, ok_t, ok_c, put_some, put_none, get_put, reduceIte, Nat.reduceEqDiff, AV.bool.injEq, Option.some.injEq, exists_eq_left', Option.map_some, Option.bind_some, opds_nil, opds_cons, opd_t, opd_c, aBin, aInt, decide_true, decide_false, negIf, wp1_nilCheck', wp1_fieldAddr', wp1_slice, op_slice, opdo_some, opdo_none, wp1_lit, op_lit, parts_nil, parts_cons, wp1_build, op_build, wp1_box, op_box, wpk_nil, wpk_none, wpk_tt, wpk_ff, wpk_tf, wpk_ft, clsK_c, logC_apply, drawC_apply, aFieldAddr, Nat.zero_add, l1, m1]
  refine ⟨rfl, ?_⟩
  simp only [wpc_skip, wpc_ops, wpc_draw, wpc_seq, wpc_cond, wpc_block, wpc_loop, wpc_exit, wpc_scope, wpc_ret, seqQ_norm, seqQ_ret, seqQ_exit, blockQ'_norm, blockQ'_ret, blockQ'_exit, roundQ_norm, roundQ_ret, roundQ_exit, condK_true, condK_false, wpo_nil', wpo_none, wpo_tt, wpo_ff, wpo_tf, wpo_ft, opsK_c, isC_none, isC_read, isC_write, wp1_call, callK_ret, wp1_mv', wp1_bin', wp1_un', wp1_eq', wp1_extract', wp1_pick', wp1_len', wp1_load', wp1_conv', wp1_store', wp1_idxAddr', wp1_append', wp1_mkIface', wp1_alloc', rd_t, rd_c, ok_t, ok_c, put_some, put_none, get_put, reduceIte, Nat.reduceEqDiff, AV.bool.injEq, Option.some.injEq, exists_eq_left', Option.map_some, Option.bind_some, opds_nil, opds_cons, opd_t, opd_c, aBin, aInt, decide_true, decide_false, negIf, wp1_nilCheck', wp1_fieldAddr', wp1_slice, op_slice, opdo_some, opdo_none, wp1_lit, op_lit, parts_nil, parts_cons, wp1_build, op_build, wp1_box, op_box, aStr, aUn, Bool.not_true, n0, w, z1, z2, s1, wc_eq (num_spec _ _), aPick]
  exact ⟨[.agg (ti (x + y)), .int .i64 0], _, by simp only [Env.results, Option.map_some, get_put, reduceIte, Nat.reduceEqDiff, l6, Option.bind_some] <;> rfl, (frz_noRef (v := .tup [.agg (ti (x + y)), .int .i64 0]) rfl).2 rfl, rfl⟩

theorem reckon_mul {x y : Int} (hx : Small x) (hy : Small y) (hy0 : y ≠ 0) (hv : Small (x * y)) (h : Heap) : WC env 60 [.str [42], .agg (ti x), .agg (ti y)] h (fun o => o = .ret ⟨.tup [.agg (ti (x * y)), .int .i64 0], h, .none⟩) := by
  refine call_pure rfl rfl rfl rfl ?_
  obtain ⟨h1, eh1⟩ : ∃ h1, h1 = Heap.empty.new (ti x) := ⟨_, rfl⟩
  have ho1 : HeapOk h1 := by rw [eh1]; exact HeapOk.empty.new _
  have a1 : h1.at_ Heap.empty.next 0 = some (ti x) := by rw [eh1]; exact at_new _
  obtain ⟨h2, eh2⟩ : ∃ h2, h2 = h1.new (ti y) := ⟨_, rfl⟩
  have ho2 : HeapOk h2 := by rw [eh2]; exact ho1.new _
  have a2 : h2.at_ Heap.empty.next 0 = some (ti x) := by rw [eh2]; exact (le_new ho1 _).2 _ _ _ a1
  have b2 : h2.at_ h1.next 0 = some (ti y) := by rw [eh2]; exact at_new _
  obtain ⟨h3, eh3⟩ : ∃ h3, h3 = h2.new [.int .i64 0, .int .i64 0, .str [], .int .u32 0, .nils, .nils] := ⟨_, rfl⟩
  have a3 : h3.at_ Heap.empty.next 0 = some (ti x) := by rw [eh3]; exact (le_new ho2 _).2 _ _ _ a2
  have b3 : h3.at_ h1.next 0 = some (ti y) := by rw [eh3]; exact (le_new ho2 _).2 _ _ _ b2
  have c3 : h3.at_ h2.next 0 = some zero6 := by rw [eh3]; exact at_new _
  have y1 : (AV.agg (ti x)).row = some (ti x) := rfl
  have y2 : (AV.agg (ti y)).row = some (ti y) := rfl
  have y3 : (ti x).length = 6 := rfl
  have y4 : (ti y).length = 6 := rfl
  have l0 := ld60 a3
  have l1 := ld61 a3
  have m0 := ld60 b3
  have m1 := ld61 b3
  have u0 : ((1 : Int) != 1) = false := rfl
  have n0 : (([42] : List UInt8) == [43]) = false := by decide
  have n1 : (([42] : List UInt8) == [45]) = false := by decide
  have n2 : (([42] : List UInt8) == [42]) = true := by decide
  have z1 : ((x * y) < -576460752303423488) = False := eq_false (by have := hv.1; omega)
  have z2 : ((x * y) > 576460752303423487) = False := eq_false (by have := hv.2; omega)
  have s1 : aStore h3 6 (.ptr h2.next 0 0) (.agg (ti (x * y))) = some ⟨.undef, h3.upd h2.next 0 (ti (x * y)), .write⟩ := st6 c3
  have l6 : aLoad (h3.upd h2.next 0 (ti (x * y))) true 6 (.ptr h2.next 0 0) = some ⟨.agg (ti (x * y)), h3.upd h2.next 0 (ti (x * y)), .read⟩ := ld6 at_upd
  simp only [a60, a60_0, a60_1, a60_3, a60_4, a60_5, a60_7, a60_9, a60_10, a60_16, a60_18, Slots.ofList, wpc_skip, wpc_ops, wpc_seq, wpc_cond, wpc_block, wpc_loop, wpc_exit, wpc_scope, wpc_ret, seqQ_norm, seqQ_ret, seqQ_exit, blockQ'_norm, blockQ'_ret, blockQ'_exit, roundQ_norm, roundQ_ret, roundQ_exit, condK_true, condK_false, wpo_nil', wpo_none, wpo_tt, wpo_ff, wpo_tf, wpo_ft, opsK_c, isC_none, isC_read, isC_write, wp1_call, callK_ret, wp1_mv', wp1_bin', wp1_un', wp1_eq', wp1_extract', wp1_pick', wp1_len', wp1_load', wp1_conv', wp1_store', wp1_idxAddr', wp1_append', wp1_mkIface', wp1_alloc', rd_t, rd_c, ok_t, ok_c, put_some, put_none, get_put, reduceIte, Nat.reduceEqDiff, AV.bool.injEq, Option.some.injEq, exists_eq_left', Option.map_some, Option.bind_some, opds_nil, opds_cons, opd_t, opd_c, aBin, aInt, decide_true, decide_false, negIf, wp1_nilCheck', wp1_fieldAddr', wp1_slice, op_slice, opdo_some, opdo_none, wp1_lit, op_lit, parts_nil, parts_cons, wp1_build, op_build, wp1_box, op_box, y1, y2, y3, y4, ← eh1, ← eh2, ← eh3, aFieldAddr, Nat.zero_add, l0, m0, u0, aPick]
  refine wpc_draw_k ?_
  simp only [wpc_skip, wpc_ops, wpc_seq, wpc_cond, wpc_block, wpc_loop, wpc_exit, wpc_scope, wpc_ret, seqQ_norm, seqQ_ret, seqQ_exit, blockQ'_norm, blockQ'_ret, blockQ'_exit, roundQ_norm, roundQ_ret, roundQ_exit, condK_true, condK_false, wpo_nil', wpo_none, wpo_tt, wpo_ff, wpo_tf, wpo_ft, opsK_c, isC_none, isC_read, isC_write, wp1_call, callK_ret, wp1_mv', wp1_bin', wp1_un', wp1_eq', wp1_extract', wp1_pick', wp1_len', wp1_load', wp1_conv', wp1_store', wp1_idxAddr', wp1_append', wp1_mkIface', wp1_alloc', rd_t, rd_c, ok_t, ok_c, put_some, put_none, get_put, reduceIte, Nat.reduceEqDiff, AV.bool.injEq, Option.some.injEq, exists_eq_left', Option.map_some, Option.bind_some, opds_nil, opds_cons, opd_t, opd_c, aBin, aInt, decide_true, decide_false, negIf, wp1_nilCheck', wp1_fieldAddr', wp1_slice, op_slice, opdo_some, opdo_none, wp1_lit, op_lit, parts_nil, parts_cons, wp1_build, op_build, wp1_box, op_box, wpk_nil, wpk_none, wpk_tt, wpk_ff, wpk_tf, wpk_ft, clsK_c, logC_apply, drawC_apply, aFieldAddr, Nat.zero_add, l1, m1]
  refine ⟨rfl, ?_⟩
  simp only [wpc_skip, wpc_ops, wpc_draw, wpc_seq, wpc_cond, wpc_block, wpc_loop, wpc_exit, wpc_scope, wpc_ret, seqQ_norm, seqQ_ret, seqQ_exit, blockQ'_norm, blockQ'_ret, blockQ'_exit, roundQ_norm, roundQ_ret, roundQ_exit, condK_true, condK_false, wpo_nil', wpo_none, wpo_tt, wpo_ff, wpo_tf, wpo_ft, opsK_c, isC_none, isC_read, isC_write, wp1_call, callK_ret, wp1_mv', wp1_bin', wp1_un', wp1_eq', wp1_extract', wp1_pick', wp1_len', wp1_load', wp1_conv', wp1_store', wp1_idxAddr', wp1_append', wp1_mkIface', wp1_alloc', rd_t, rd_c, ok_t, ok_c, put_some, put_none, get_put, reduceIte, Nat.reduceEqDiff, AV.bool.injEq, Option.some.injEq, exists_eq_left', Option.map_some, Option.bind_some, opds_nil, opds_cons, opd_t, opd_c, aBin, aInt, decide_true, decide_false, negIf, wp1_nilCheck', wp1_fieldAddr', wp1_slice, op_slice, opdo_some, opdo_none, wp1_lit, op_lit, parts_nil, parts_cons, wp1_build, op_build, wp1_box, op_box, aStr, aUn, Bool.not_true, n0, n1, n2, wc_eq (product_spec hx hy0 hv _), aExtract, ex0, ex1, z1, z2, s1, wc_eq (num_spec _ _), aPick]
  exact ⟨[.agg (ti (x * y)), .int .i64 0], _, by simp only [Env.results, Option.map_some, get_put, reduceIte, Nat.reduceEqDiff, l6, Option.bind_some] <;> rfl, (frz_noRef (v := .tup [.agg (ti (x * y)), .int .i64 0]) rfl).2 rfl, rfl⟩

theorem reckon_div {x y : Int} (hx : Small x) (hy : Small y) (hy0 : y ≠ 0) (hv : Small (x.tdiv y)) (h : Heap) : WC env 60 [.str [100, 105, 118], .agg (ti x), .agg (ti y)] h (fun o => o = .ret ⟨.tup [.agg (ti (x.tdiv y)), .int .i64 0], h, .none⟩) := by
  refine call_pure rfl rfl rfl rfl ?_
  obtain ⟨h1, eh1⟩ : ∃ h1, h1 = Heap.empty.new (ti x) := ⟨_, rfl⟩
  have ho1 : HeapOk h1 := by rw [eh1]; exact HeapOk.empty.new _
  have a1 : h1.at_ Heap.empty.next 0 = some (ti x) := by rw [eh1]; exact at_new _
  obtain ⟨h2, eh2⟩ : ∃ h2, h2 = h1.new (ti y) := ⟨_, rfl⟩
  have ho2 : HeapOk h2 := by rw [eh2]; exact ho1.new _
  have a2 : h2.at_ Heap.empty.next 0 = some (ti x) := by rw [eh2]; exact (le_new ho1 _).2 _ _ _ a1
  have b2 : h2.at_ h1.next 0 = some (ti y) := by rw [eh2]; exact at_new _
  obtain ⟨h3, eh3⟩ : ∃ h3, h3 = h2.new [.int .i64 0, .int .i64 0, .str [], .int .u32 0, .nils, .nils] := ⟨_, rfl⟩
  have a3 : h3.at_ Heap.empty.next 0 = some (ti x) := by rw [eh3]; exact (le_new ho2 _).2 _ _ _ a2
  have b3 : h3.at_ h1.next 0 = some (ti y) := by rw [eh3]; exact (le_new ho2 _).2 _ _ _ b2
  have c3 : h3.at_ h2.next 0 = some zero6 := by rw [eh3]; exact at_new _
  have y1 : (AV.agg (ti x)).row = some (ti x) := rfl
  have y2 : (AV.agg (ti y)).row = some (ti y) := rfl
  have y3 : (ti x).length = 6 := rfl
  have y4 : (ti y).length = 6 := rfl
  have l0 := ld60 a3
  have l1 := ld61 a3
  have m0 := ld60 b3
  have m1 := ld61 b3
  have u0 : ((1 : Int) != 1) = false := rfl
  have n0 : (([100, 105, 118] : List UInt8) == [43]) = false := by decide
  have n1 : (([100, 105, 118] : List UInt8) == [45]) = false := by decide
  have n2 : (([100, 105, 118] : List UInt8) == [42]) = false := by decide
  have n3 : (([100, 105, 118] : List UInt8) == [114, 101, 109]) = false := by decide
  have z0 : (y == 0) = false := by simpa using hy0
  have z00 : (y = 0) = False := eq_false hy0
  have w : IntKind.wrap .i64 (x.tdiv y) = (x.tdiv y) := wrap_id (by obtain ⟨p, q⟩ := hx; obtain ⟨r, s⟩ := hy; exact tdiv_bound ⟨p, q⟩)
  have z1 : ((x.tdiv y) < -576460752303423488) = False := eq_false (by have := hv.1; omega)
  have z2 : ((x.tdiv y) > 576460752303423487) = False := eq_false (by have := hv.2; omega)
  have s1 : aStore h3 6 (.ptr h2.next 0 0) (.agg (ti (x.tdiv y))) = some ⟨.undef, h3.upd h2.next 0 (ti (x.tdiv y)), .write⟩ := st6 c3
  have l6 : aLoad (h3.upd h2.next 0 (ti (x.tdiv y))) true 6 (.ptr h2.next 0 0) = some ⟨.agg (ti (x.tdiv y)), h3.upd h2.next 0 (ti (x.tdiv y)), .read⟩ := ld6 at_upd
  simp only [a60, a60_0, a60_1, a60_3, a60_4, a60_5, a60_7, a60_9, a60_11, a60_13, a60_15, a60_16, a60_18, Slots.ofList, wpc_skip, wpc_ops, wpc_seq, wpc_cond, wpc_block, wpc_loop, wpc_exit, wpc_scope, wpc_ret, seqQ_norm, seqQ_ret, seqQ_exit, blockQ'_norm, blockQ'_ret, blockQ'_exit, roundQ_norm, roundQ_ret, roundQ_exit, condK_true, condK_false, wpo_nil', wpo_none, wpo_tt, wpo_ff, wpo_tf, wpo_ft, opsK_c, isC_none, isC_read, isC_write, wp1_call, callK_ret, wp1_mv', wp1_bin', wp1_un', wp1_eq', wp1_extract', wp1_pick', wp1_len', wp1_load', wp1_conv', wp1_store', wp1_idxAddr', wp1_append', wp1_mkIface', wp1_alloc', rd_t, rd_c, ok_t, ok_c, put_some, put_none, get_put, reduceIte, Nat.reduceEqDiff, AV.bool.injEq, Option.some.injEq, exists_eq_left', Option.map_some, Option.bind_some, opds_nil, opds_cons, opd_t, opd_c, aBin, aInt, decide_true, decide_false, negIf, wp1_nilCheck', wp1_fieldAddr', wp1_slice, op_slice, opdo_some, opdo_none, wp1_lit, op_lit, parts_nil, parts_cons, wp1_build, op_build, wp1_box, op_box, y1, y2, y3, y4, ← eh1, ← eh2, ← eh3, aFieldAddr, Nat.zero_add, l0, m0, u0, aPick]
  refine wpc_draw_k ?_
  simp only [wpc_skip, wpc_ops, wpc_seq, wpc_cond, wpc_block, wpc_loop, wpc_exit, wpc_scope, wpc_ret, seqQ_norm, seqQ_ret, seqQ_exit, blockQ'_norm, blockQ'_ret, blockQ'_exit, roundQ_norm, roundQ_ret, roundQ_exit, condK_true, condK_false, wpo_nil', wpo_none, wpo_tt, wpo_ff, wpo_tf, wpo_ft, opsK_c, isC_none, isC_read, isC_write, wp1_call, callK_ret, wp1_mv', wp1_bin', wp1_un', wp1_eq', wp1_extract', wp1_pick', wp1_len', wp1_load', wp1_conv', wp1_store', wp1_idxAddr', wp1_append', wp1_mkIface', wp1_alloc', rd_t, rd_c, ok_t, ok_c, put_some, put_none, get_put, reduceIte, Nat.reduceEqDiff, AV.bool.injEq, Option.some.injEq, exists_eq_left', Option.map_some, Option.bind_some, opds_nil, opds_cons, opd_t, opd_c, aBin, aInt, decide_true, decide_false, negIf, wp1_nilCheck', wp1_fieldAddr', wp1_slice, op_slice, opdo_some, opdo_none, wp1_lit, op_lit, parts_nil, parts_cons, wp1_build, op_build, wp1_box, op_box, wpk_nil, wpk_none, wpk_tt, wpk_ff, wpk_tf, wpk_ft, clsK_c, logC_apply, drawC_apply, aFieldAddr, Nat.zero_add, l1, m1]
  refine ⟨rfl, ?_⟩
  simp only [wpc_skip, wpc_ops, wpc_draw, wpc_seq, wpc_cond, wpc_block, wpc_loop, wpc_exit, wpc_scope, wpc_ret, seqQ_norm, seqQ_ret, seqQ_exit, blockQ'_norm, blockQ'_ret, blockQ'_exit, roundQ_norm, roundQ_ret, roundQ_exit, condK_true, condK_false, wpo_nil', wpo_none, wpo_tt, wpo_ff, wpo_tf, wpo_ft, opsK_c, isC_none, isC_read, isC_write, wp1_call, callK_ret, wp1_mv', wp1_bin', wp1_un', wp1_eq', wp1_extract', wp1_pick', wp1_len', wp1_load', wp1_conv', wp1_store', wp1_idxAddr', wp1_append', wp1_mkIface', wp1_alloc', rd_t, rd_c, ok_t, ok_c, put_some, put_none, get_put, reduceIte, Nat.reduceEqDiff, AV.bool.injEq, Option.some.injEq, exists_eq_left', Option.map_some, Option.bind_some, opds_nil, opds_cons, opd_t, opd_c, aBin, aInt, decide_true, decide_false, negIf, wp1_nilCheck', wp1_fieldAddr', wp1_slice, op_slice, opdo_some, opdo_none, wp1_lit, op_lit, parts_nil, parts_cons, wp1_build, op_build, wp1_box, op_box, aStr, aUn, Bool.not_true, n0, n1, n2, n3, z0, z00, if_false, w, z1, z2, s1, wc_eq (num_spec _ _), aPick]
  exact ⟨[.agg (ti (x.tdiv y)), .int .i64 0], _, by simp only [Env.results, Option.map_some, get_put, reduceIte, Nat.reduceEqDiff, l6, Option.bind_some] <;> rfl, (frz_noRef (v := .tup [.agg (ti (x.tdiv y)), .int .i64 0]) rfl).2 rfl, rfl⟩

theorem reckon_div_bad {x y : Int} (hx : Small x) (hy : Small y) (hy0 : y ≠ 0) (hv : ¬ Small (x.tdiv y)) (h : Heap) : WC env 60 [.str [100, 105, 118], .agg (ti x), .agg (ti y)] h (fun o => o = .ret ⟨.tup [.agg zero6, .int .i64 262], h, .none⟩) := by
  refine call_pure rfl rfl rfl rfl ?_
  obtain ⟨h1, eh1⟩ : ∃ h1, h1 = Heap.empty.new (ti x) := ⟨_, rfl⟩
  have ho1 : HeapOk h1 := by rw [eh1]; exact HeapOk.empty.new _
  have a1 : h1.at_ Heap.empty.next 0 = some (ti x) := by rw [eh1]; exact at_new _
  obtain ⟨h2, eh2⟩ : ∃ h2, h2 = h1.new (ti y) := ⟨_, rfl⟩
  have ho2 : HeapOk h2 := by rw [eh2]; exact ho1.new _
  have a2 : h2.at_ Heap.empty.next 0 = some (ti x) := by rw [eh2]; exact (le_new ho1 _).2 _ _ _ a1
  have b2 : h2.at_ h1.next 0 = some (ti y) := by rw [eh2]; exact at_new _
  obtain ⟨h3, eh3⟩ : ∃ h3, h3 = h2.new [.int .i64 0, .int .i64 0, .str [], .int .u32 0, .nils, .nils] := ⟨_, rfl⟩
  have a3 : h3.at_ Heap.empty.next 0 = some (ti x) := by rw [eh3]; exact (le_new ho2 _).2 _ _ _ a2
  have b3 : h3.at_ h1.next 0 = some (ti y) := by rw [eh3]; exact (le_new ho2 _).2 _ _ _ b2
  have c3 : h3.at_ h2.next 0 = some zero6 := by rw [eh3]; exact at_new _
  have y1 : (AV.agg (ti x)).row = some (ti x) := rfl
  have y2 : (AV.agg (ti y)).row = some (ti y) := rfl
  have y3 : (ti x).length = 6 := rfl
  have y4 : (ti y).length = 6 := rfl
  have l0 := ld60 a3
  have l1 := ld61 a3
  have m0 := ld60 b3
  have m1 := ld61 b3
  have u0 : ((1 : Int) != 1) = false := rfl
  have n0 : (([100, 105, 118] : List UInt8) == [43]) = false := by decide
  have n1 : (([100, 105, 118] : List UInt8) == [45]) = false := by decide
  have n2 : (([100, 105, 118] : List UInt8) == [42]) = false := by decide
  have n3 : (([100, 105, 118] : List UInt8) == [114, 101, 109]) = false := by decide
  have z0 : (y == 0) = false := by simpa using hy0
  have z00 : (y = 0) = False := eq_false hy0
  have w : IntKind.wrap .i64 (x.tdiv y) = (x.tdiv y) := wrap_id (by obtain ⟨p, q⟩ := hx; obtain ⟨r, s⟩ := hy; exact tdiv_bound ⟨p, q⟩)
  have s1 : aStore h3 6 (.ptr h2.next 0 0) (.agg zero6) = some ⟨.undef, h3.upd h2.next 0 zero6, .write⟩ := st6 c3
  have y5 : aFill [.int .i64 0, .int .i64 0, .str [], .int .u32 0, .nils, .nils] [] = some zero6 := rfl
  have l6 : aLoad (h3.upd h2.next 0 zero6) true 6 (.ptr h2.next 0 0) = some ⟨.agg zero6, h3.upd h2.next 0 zero6, .read⟩ := ld6 at_upd
  simp only [a60, a60_0, a60_1, a60_3, a60_4, a60_5, a60_7, a60_9, a60_11, a60_13, a60_15, a60_16, a60_17, Slots.ofList, wpc_skip, wpc_ops, wpc_seq, wpc_cond, wpc_block, wpc_loop, wpc_exit, wpc_scope, wpc_ret, seqQ_norm, seqQ_ret, seqQ_exit, blockQ'_norm, blockQ'_ret, blockQ'_exit, roundQ_norm, roundQ_ret, roundQ_exit, condK_true, condK_false, wpo_nil', wpo_none, wpo_tt, wpo_ff, wpo_tf, wpo_ft, opsK_c, isC_none, isC_read, isC_write, wp1_call, callK_ret, wp1_mv', wp1_bin', wp1_un', wp1_eq', wp1_extract', wp1_pick', wp1_len', wp1_load', wp1_conv', wp1_store', wp1_idxAddr', wp1_append', wp1_mkIface', wp1_alloc', rd_t, rd_c, ok_t, ok_c, put_some, put_none, get_put, reduceIte, Nat.reduceEqDiff, AV.bool.injEq, Option.some.injEq, exists_eq_left', Option.map_some, Option.bind_some, opds_nil, opds_cons, opd_t, opd_c, aBin, aInt, decide_true, decide_false, negIf, wp1_nilCheck', wp1_fieldAddr', wp1_slice, op_slice, opdo_some, opdo_none, wp1_lit, op_lit, parts_nil, parts_cons, wp1_build, op_build, wp1_box, op_box, y1, y2, y3, y4, ← eh1, ← eh2, ← eh3, aFieldAddr, Nat.zero_add, l0, m0, u0, aPick]
  refine wpc_draw_k ?_
  simp only [wpc_skip, wpc_ops, wpc_seq, wpc_cond, wpc_block, wpc_loop, wpc_exit, wpc_scope, wpc_ret, seqQ_norm, seqQ_ret, seqQ_exit, blockQ'_norm, blockQ'_ret, blockQ'_exit, roundQ_norm, roundQ_ret, roundQ_exit, condK_true, condK_false, wpo_nil', wpo_none, wpo_tt, wpo_ff, wpo_tf, wpo_ft, opsK_c, isC_none, isC_read, isC_write, wp1_call, callK_ret, wp1_mv', wp1_bin', wp1_un', wp1_eq', wp1_extract', wp1_pick', wp1_len', wp1_load', wp1_conv', wp1_store', wp1_idxAddr', wp1_append', wp1_mkIface', wp1_alloc', rd_t, rd_c, ok_t, ok_c, put_some, put_none, get_put, reduceIte, Nat.reduceEqDiff, AV.bool.injEq, Option.some.injEq, exists_eq_left', Option.map_some, Option.bind_some, opds_nil, opds_cons, opd_t, opd_c, aBin, aInt, decide_true, decide_false, negIf, wp1_nilCheck', wp1_fieldAddr', wp1_slice, op_slice, opdo_some, opdo_none, wp1_lit, op_lit, parts_nil, parts_cons, wp1_build, op_build, wp1_box, op_box, wpk_nil, wpk_none, wpk_tt, wpk_ff, wpk_tf, wpk_ft, clsK_c, logC_apply, drawC_apply, aFieldAddr, Nat.zero_add, l1, m1]
  refine ⟨rfl, ?_⟩
  by_cases c : (x.tdiv y) < -576460752303423488
  · have z1 : ((x.tdiv y) < -576460752303423488) = True := eq_true c
    simp only [wpc_skip, wpc_ops, wpc_draw, wpc_seq, wpc_cond, wpc_block, wpc_loop, wpc_exit, wpc_scope, wpc_ret, seqQ_norm, seqQ_ret, seqQ_exit, blockQ'_norm, blockQ'_ret, blockQ'_exit, roundQ_norm, roundQ_ret, roundQ_exit, condK_true, condK_false, wpo_nil', wpo_none, wpo_tt, wpo_ff, wpo_tf, wpo_ft, opsK_c, isC_none, isC_read, isC_write, wp1_call, callK_ret, wp1_mv', wp1_bin', wp1_un', wp1_eq', wp1_extract', wp1_pick', wp1_len', wp1_load', wp1_conv', wp1_store', wp1_idxAddr', wp1_append', wp1_mkIface', wp1_alloc', rd_t, rd_c, ok_t, ok_c, put_some, put_none, get_put, reduceIte, Nat.reduceEqDiff, AV.bool.injEq, Option.some.injEq, exists_eq_left', Option.map_some, Option.bind_some, opds_nil, opds_cons, opd_t, opd_c, aBin, aInt, decide_true, decide_false, negIf, wp1_nilCheck', wp1_fieldAddr', wp1_slice, op_slice, opdo_some, opdo_none, wp1_lit, op_lit, parts_nil, parts_cons, wp1_build, op_build, wp1_box, op_box, aStr, aUn, Bool.not_true, n0, n1, n2, n3, z0, z00, if_false, w, z1, s1, y5, aPick]
    exact ⟨[.agg zero6, .int .i64 262], _, by simp only [Env.results, Option.map_some, get_put, reduceIte, Nat.reduceEqDiff, l6, Option.bind_some] <;> rfl, (frz_noRef (v := .tup [.agg zero6, .int .i64 262]) rfl).2 rfl, rfl⟩
  · have z1 : ((x.tdiv y) < -576460752303423488) = False := eq_false c
    have z2 : ((x.tdiv y) > 576460752303423487) = True := eq_true (by have : ¬ (-576460752303423488 ≤ (x.tdiv y) ∧ (x.tdiv y) ≤ 576460752303423487) := hv; omega)
    simp only [wpc_skip, wpc_ops, wpc_draw, wpc_seq, wpc_cond, wpc_block, wpc_loop, wpc_exit, wpc_scope, wpc_ret, seqQ_norm, seqQ_ret, seqQ_exit, blockQ'_norm, blockQ'_ret, blockQ'_exit, roundQ_norm, roundQ_ret, roundQ_exit, condK_true, condK_false, wpo_nil', wpo_none, wpo_tt, wpo_ff, wpo_tf, wpo_ft, opsK_c, isC_none, isC_read, isC_write, wp1_call, callK_ret, wp1_mv', wp1_bin', wp1_un', wp1_eq', wp1_extract', wp1_pick', wp1_len', wp1_load', wp1_conv', wp1_store', wp1_idxAddr', wp1_append', wp1_mkIface', wp1_alloc', rd_t, rd_c, ok_t, ok_c, put_some, put_none, get_put, reduceIte, Nat.reduceEqDiff, AV.bool.injEq, Option.some.injEq, exists_eq_left', Option.map_some, Option.bind_some, opds_nil, opds_cons, opd_t, opd_c, aBin, aInt, decide_true, decide_false, negIf, wp1_nilCheck', wp1_fieldAddr', wp1_slice, op_slice, opdo_some, opdo_none, wp1_lit, op_lit, parts_nil, parts_cons, wp1_build, op_build, wp1_box, op_box, aStr, aUn, Bool.not_true, n0, n1, n2, n3, z0, z00, if_false, w, z1, z2, s1, y5, aPick]
    exact ⟨[.agg zero6, .int .i64 262], _, by simp only [Env.results, Option.map_some, get_put, reduceIte, Nat.reduceEqDiff, l6, Option.bind_some] <;> rfl, (frz_noRef (v := .tup [.agg zero6, .int .i64 262]) rfl).2 rfl, rfl⟩

theorem reckon_rem {x y : Int} (hx : Small x) (hy : Small y) (hy0 : y ≠ 0) (hv : Small (x.tmod y)) (h : Heap) : WC env 60 [.str [114, 101, 109], .agg (ti x), .agg (ti y)] h (fun o => o = .ret ⟨.tup [.agg (ti (x.tmod y)), .int .i64 0], h, .none⟩) := by
  refine call_pure rfl rfl rfl rfl ?_
  obtain ⟨h1, eh1⟩ : ∃ h1, h1 = Heap.empty.new (ti x) := ⟨_, rfl⟩
  have ho1 : HeapOk h1 := by rw [eh1]; exact HeapOk.empty.new _
  have a1 : h1.at_ Heap.empty.next 0 = some (ti x) := by rw [eh1]; exact at_new _
  obtain ⟨h2, eh2⟩ : ∃ h2, h2 = h1.new (ti y) := ⟨_, rfl⟩
  have ho2 : HeapOk h2 := by rw [eh2]; exact ho1.new _
  have a2 : h2.at_ Heap.empty.next 0 = some (ti x) := by rw [eh2]; exact (le_new ho1 _).2 _ _ _ a1
  have b2 : h2.at_ h1.next 0 = some (ti y) := by rw [eh2]; exact at_new _
  obtain ⟨h3, eh3⟩ : ∃ h3, h3 = h2.new [.int .i64 0, .int .i64 0, .str [], .int .u32 0, .nils, .nils] := ⟨_, rfl⟩
  have a3 : h3.at_ Heap.empty.next 0 = some (ti x) := by rw [eh3]; exact (le_new ho2 _).2 _ _ _ a2
  have b3 : h3.at_ h1.next 0 = some (ti y) := by rw [eh3]; exact (le_new ho2 _).2 _ _ _ b2
  have c3 : h3.at_ h2.next 0 = some zero6 := by rw [eh3]; exact at_new _
  have y1 : (AV.agg (ti x)).row = some (ti x) := rfl
  have y2 : (AV.agg (ti y)).row = some (ti y) := rfl
  have y3 : (ti x).length = 6 := rfl
  have y4 : (ti y).length = 6 := rfl
  have l0 := ld60 a3
  have l1 := ld61 a3
  have m0 := ld60 b3
  have m1 := ld61 b3
  have u0 : ((1 : Int) != 1) = false := rfl
  have n0 : (([114, 101, 109] : List UInt8) == [43]) = false := by decide
  have n1 : (([114, 101, 109] : List UInt8) == [45]) = false := by decide
  have n2 : (([114, 101, 109] : List UInt8) == [42]) = false := by decide
  have n3 : (([114, 101, 109] : List UInt8) == [114, 101, 109]) = true := by decide
  have z0 : (y == 0) = false := by simpa using hy0
  have z00 : (y = 0) = False := eq_false hy0
  have z1 : ((x.tmod y) < -576460752303423488) = False := eq_false (by have := hv.1; omega)
  have z2 : ((x.tmod y) > 576460752303423487) = False := eq_false (by have := hv.2; omega)
  have s1 : aStore h3 6 (.ptr h2.next 0 0) (.agg (ti (x.tmod y))) = some ⟨.undef, h3.upd h2.next 0 (ti (x.tmod y)), .write⟩ := st6 c3
  have l6 : aLoad (h3.upd h2.next 0 (ti (x.tmod y))) true 6 (.ptr h2.next 0 0) = some ⟨.agg (ti (x.tmod y)), h3.upd h2.next 0 (ti (x.tmod y)), .read⟩ := ld6 at_upd
  simp only [a60, a60_0, a60_1, a60_3, a60_4, a60_5, a60_7, a60_9, a60_11, a60_13, a60_14, a60_16, a60_18, Slots.ofList, wpc_skip, wpc_ops, wpc_seq, wpc_cond, wpc_block, wpc_loop, wpc_exit, wpc_scope, wpc_ret, seqQ_norm, seqQ_ret, seqQ_exit, blockQ'_norm, blockQ'_ret, blockQ'_exit, roundQ_norm, roundQ_ret, roundQ_exit, condK_true, condK_false, wpo_nil', wpo_none, wpo_tt, wpo_ff, wpo_tf, wpo_ft, opsK_c, isC_none, isC_read, isC_write, wp1_call, callK_ret, wp1_mv', wp1_bin', wp1_un', wp1_eq', wp1_extract', wp1_pick', wp1_len', wp1_load', wp1_conv', wp1_store', wp1_idxAddr', wp1_append', wp1_mkIface', wp1_alloc', rd_t, rd_c, ok_t, ok_c, put_some, put_none, get_put, reduceIte, Nat.reduceEqDiff, AV.bool.injEq, Option.some.injEq, exists_eq_left', Option.map_some, Option.bind_some, opds_nil, opds_cons, opd_t, opd_c, aBin, aInt, decide_true, decide_false, negIf, wp1_nilCheck', wp1_fieldAddr', wp1_slice, op_slice, opdo_some, opdo_none, wp1_lit, op_lit, parts_nil, parts_cons, wp1_build, op_build, wp1_box, op_box, y1, y2, y3, y4, ← eh1, ← eh2, ← eh3, aFieldAddr, Nat.zero_add, l0, m0, u0, aPick]
  refine wpc_draw_k ?_
  simp only [wpc_skip, wpc_ops, wpc_seq, wpc_cond, wpc_block, wpc_loop, wpc_exit, wpc_scope, wpc_ret, seqQ_norm, seqQ_ret, seqQ_exit, blockQ'_norm, blockQ'_ret, blockQ'_exit, roundQ_norm, roundQ_ret, roundQ_exit, condK_true, condK_false, wpo_nil', wpo_none, wpo_tt, wpo_ff, wpo_tf, wpo_ft, opsK_c, isC_none, isC_read, isC_write, wp1_call, callK_ret, wp1_mv', wp1_bin', wp1_un', wp1_eq', wp1_extract', wp1_pick', wp1_len', wp1_load', wp1_conv', wp1_store', wp1_idxAddr', wp1_append', wp1_mkIface', wp1_alloc', rd_t, rd_c, ok_t, ok_c, put_some, put_none, get_put, reduceIte, Nat.reduceEqDiff, AV.bool.injEq, Option.some.injEq, exists_eq_left', Option.map_some, Option.bind_some, opds_nil, opds_cons, opd_t, opd_c, aBin, aInt, decide_true, decide_false, negIf, wp1_nilCheck', wp1_fieldAddr', wp1_slice, op_slice, opdo_some, opdo_none, wp1_lit, op_lit, parts_nil, parts_cons, wp1_build, op_build, wp1_box, op_box, wpk_nil, wpk_none, wpk_tt, wpk_ff, wpk_tf, wpk_ft, clsK_c, logC_apply, drawC_apply, aFieldAddr, Nat.zero_add, l1, m1]
  refine ⟨rfl, ?_⟩
  simp only [wpc_skip, wpc_ops, wpc_draw, wpc_seq, wpc_cond, wpc_block, wpc_loop, wpc_exit, wpc_scope, wpc_ret, seqQ_norm, seqQ_ret, seqQ_exit, blockQ'_norm, blockQ'_ret, blockQ'_exit, roundQ_norm, roundQ_ret, roundQ_exit, condK_true, condK_false, wpo_nil', wpo_none, wpo_tt, wpo_ff, wpo_tf, wpo_ft, opsK_c, isC_none, isC_read, isC_write, wp1_call, callK_ret, wp1_mv', wp1_bin', wp1_un', wp1_eq', wp1_extract', wp1_pick', wp1_len', wp1_load', wp1_conv', wp1_store', wp1_idxAddr', wp1_append', wp1_mkIface', wp1_alloc', rd_t, rd_c, ok_t, ok_c, put_some, put_none, get_put, reduceIte, Nat.reduceEqDiff, AV.bool.injEq, Option.some.injEq, exists_eq_left', Option.map_some, Option.bind_some, opds_nil, opds_cons, opd_t, opd_c, aBin, aInt, decide_true, decide_false, negIf, wp1_nilCheck', wp1_fieldAddr', wp1_slice, op_slice, opdo_some, opdo_none, wp1_lit, op_lit, parts_nil, parts_cons, wp1_build, op_build, wp1_box, op_box, aStr, aUn, Bool.not_true, n0, n1, n2, n3, z0, z00, if_false, z1, z2, s1, wc_eq (num_spec _ _), aPick]
  exact ⟨[.agg (ti (x.tmod y)), .int .i64 0], _, by simp only [Env.results, Option.map_some, get_put, reduceIte, Nat.reduceEqDiff, l6, Option.bind_some] <;> rfl, (frz_noRef (v := .tup [.agg (ti (x.tmod y)), .int .i64 0]) rfl).2 rfl, rfl⟩

def two (x y : Int) : AV := .fs true 2 (ti x ++ ti y)
theorem two_0 (x y : Int) : aIdxAddr 6 (two x y) (.int .i64 0) = some (.fp (ti x ++ ti y)) := rfl
theorem two_1 (x y : Int) : aIdxAddr 6 (two x y) (.int .i64 1) = some (.fp (ti y ++ [])) := rfl
theorem two_ld (x : Int) (r : List AV) (h : Heap) : aLoad h true 6 (.fp (ti x ++ r)) = some ⟨.agg (ti x), h, .none⟩ := rfl
theorem two_len (x y : Int) (h : Heap) : aLenOp false h (two x y) = some ⟨.int .i64 2, h, .none⟩ := rfl
theorem call_add {x y : Int} {t0 t1 t2 t3 t4 t5 : AV} {c : Int} (hr : ∀ h, WC env 60 [.str [43], .agg (ti x), .agg (ti y)] h (fun o => o = .ret ⟨.tup [.agg [t0, t1, t2, t3, t4, t5], .int .i64 c], h, .none⟩)) (hn : AV.noRefs [t0, t1, t2, t3, t4, t5] = true) (h : Heap) :
    WC env 38 [.str [43], two x y] h (fun o => o = .ret ⟨.tup [.agg [t0, t1, t2, t3, t4, t5], .int .i64 c], h, .none⟩) := by
  refine call_pure rfl rfl rfl rfl ?_
  obtain ⟨h1, eh1⟩ : ∃ h1, h1 = Heap.empty.new [.int .i64 0, .int .i64 0, .str [], .int .u32 0, .nils, .nils] := ⟨_, rfl⟩
  have a1 : h1.at_ Heap.empty.next 0 = some zero6 := by rw [eh1]; exact at_new _
  have n0 : (([43] : List UInt8) == [43]) = true := by decide
  have u1 : ((2 : Int) == 1) = false := rfl
  have s1 : aStore h1 6 (.ptr Heap.empty.next 0 0) (.agg [t0, t1, t2, t3, t4, t5]) = some ⟨.undef, h1.upd Heap.empty.next 0 [t0, t1, t2, t3, t4, t5], .write⟩ := st6 a1
  have l6 : aLoad (h1.upd Heap.empty.next 0 [t0, t1, t2, t3, t4, t5]) true 6 (.ptr Heap.empty.next 0 0) = some ⟨.agg [t0, t1, t2, t3, t4, t5], h1.upd Heap.empty.next 0 [t0, t1, t2, t3, t4, t5], .read⟩ := ld6 at_upd
  simp only [a38, a38_0, a38_1, a38_2, a38_7, a38_9, Slots.ofList, wpc_skip, wpc_ops, wpc_seq, wpc_cond, wpc_block, wpc_loop, wpc_exit, wpc_scope, wpc_ret, seqQ_norm, seqQ_ret, seqQ_exit, blockQ'_norm, blockQ'_ret, blockQ'_exit, roundQ_norm, roundQ_ret, roundQ_exit, condK_true, condK_false, wpo_nil', wpo_none, wpo_tt, wpo_ff, wpo_tf, wpo_ft, opsK_c, isC_none, isC_read, isC_write, wp1_call, callK_ret, wp1_mv', wp1_bin', wp1_un', wp1_eq', wp1_extract', wp1_pick', wp1_len', wp1_load', wp1_conv', wp1_store', wp1_idxAddr', wp1_append', wp1_mkIface', wp1_alloc', rd_t, rd_c, ok_t, ok_c, put_some, put_none, get_put, reduceIte, Nat.reduceEqDiff, AV.bool.injEq, Option.some.injEq, exists_eq_left', Option.map_some, Option.bind_some, opds_nil, opds_cons, opd_t, opd_c, aBin, aInt, decide_true, decide_false, negIf, wp1_nilCheck', wp1_fieldAddr', wp1_slice, op_slice, opdo_some, opdo_none, wp1_lit, op_lit, parts_nil, parts_cons, wp1_build, op_build, wp1_box, op_box, ← eh1, aStr, n0, two_len, u1]
  refine wpc_draw_k ?_
  simp only [wpc_skip, wpc_ops, wpc_seq, wpc_cond, wpc_block, wpc_loop, wpc_exit, wpc_scope, wpc_ret, seqQ_norm, seqQ_ret, seqQ_exit, blockQ'_norm, blockQ'_ret, blockQ'_exit, roundQ_norm, roundQ_ret, roundQ_exit, condK_true, condK_false, wpo_nil', wpo_none, wpo_tt, wpo_ff, wpo_tf, wpo_ft, opsK_c, isC_none, isC_read, isC_write, wp1_call, callK_ret, wp1_mv', wp1_bin', wp1_un', wp1_eq', wp1_extract', wp1_pick', wp1_len', wp1_load', wp1_conv', wp1_store', wp1_idxAddr', wp1_append', wp1_mkIface', wp1_alloc', rd_t, rd_c, ok_t, ok_c, put_some, put_none, get_put, reduceIte, Nat.reduceEqDiff, AV.bool.injEq, Option.some.injEq, exists_eq_left', Option.map_some, Option.bind_some, opds_nil, opds_cons, opd_t, opd_c, aBin, aInt, decide_true, decide_false, negIf, wp1_nilCheck', wp1_fieldAddr', wp1_slice, op_slice, opdo_some, opdo_none, wp1_lit, op_lit, parts_nil, parts_cons, wp1_build, op_build, wp1_box, op_box, wpk_nil, wpk_none, wpk_tt, wpk_ff, wpk_tf, wpk_ft, clsK_c, logC_apply, drawC_apply, two_0, two_1, two_ld, wc_eq (hr _), aExtract, ex0, ex1, s1]
  refine ⟨rfl, ?_⟩
  refine ⟨[.agg [t0, t1, t2, t3, t4, t5], .int .i64 c], .tup [.agg [t0, t1, t2, t3, t4, t5], .int .i64 c], by simp only [Env.results, Option.map_some, get_put, reduceIte, Nat.reduceEqDiff, l6, Option.bind_some] <;> rfl, (frz_noRef (v := .tup [.agg [t0, t1, t2, t3, t4, t5], .int .i64 c]) ?_).2 rfl, rfl⟩
  simpa [AV.noRef, AV.noRefs] using hn

theorem call_mul {x y : Int} {t0 t1 t2 t3 t4 t5 : AV} {c : Int} (hr : ∀ h, WC env 60 [.str [42], .agg (ti x), .agg (ti y)] h (fun o => o = .ret ⟨.tup [.agg [t0, t1, t2, t3, t4, t5], .int .i64 c], h, .none⟩)) (hn : AV.noRefs [t0, t1, t2, t3, t4, t5] = true) (h : Heap) :
    WC env 38 [.str [42], two x y] h (fun o => o = .ret ⟨.tup [.agg [t0, t1, t2, t3, t4, t5], .int .i64 c], h, .none⟩) := by
  refine call_pure rfl rfl rfl rfl ?_
  obtain ⟨h1, eh1⟩ : ∃ h1, h1 = Heap.empty.new [.int .i64 0, .int .i64 0, .str [], .int .u32 0, .nils, .nils] := ⟨_, rfl⟩
  have a1 : h1.at_ Heap.empty.next 0 = some zero6 := by rw [eh1]; exact at_new _
  have n0 : (([42] : List UInt8) == [43]) = false := by decide
  have n1 : (([42] : List UInt8) == [45]) = false := by decide
  have n2 : (([42] : List UInt8) == [42]) = true := by decide
  have u1 : ((2 : Int) == 1) = false := rfl
  have s1 : aStore h1 6 (.ptr Heap.empty.next 0 0) (.agg [t0, t1, t2, t3, t4, t5]) = some ⟨.undef, h1.upd Heap.empty.next 0 [t0, t1, t2, t3, t4, t5], .write⟩ := st6 a1
  have l6 : aLoad (h1.upd Heap.empty.next 0 [t0, t1, t2, t3, t4, t5]) true 6 (.ptr Heap.empty.next 0 0) = some ⟨.agg [t0, t1, t2, t3, t4, t5], h1.upd Heap.empty.next 0 [t0, t1, t2, t3, t4, t5], .read⟩ := ld6 at_upd
  simp only [a38, a38_0, a38_1, a38_2, a38_3, a38_4, a38_7, a38_9, Slots.ofList, wpc_skip, wpc_ops, wpc_seq, wpc_cond, wpc_block, wpc_loop, wpc_exit, wpc_scope, wpc_ret, seqQ_norm, seqQ_ret, seqQ_exit, blockQ'_norm, blockQ'_ret, blockQ'_exit, roundQ_norm, roundQ_ret, roundQ_exit, condK_true, condK_false, wpo_nil', wpo_none, wpo_tt, wpo_ff, wpo_tf, wpo_ft, opsK_c, isC_none, isC_read, isC_write, wp1_call, callK_ret, wp1_mv', wp1_bin', wp1_un', wp1_eq', wp1_extract', wp1_pick', wp1_len', wp1_load', wp1_conv', wp1_store', wp1_idxAddr', wp1_append', wp1_mkIface', wp1_alloc', rd_t, rd_c, ok_t, ok_c, put_some, put_none, get_put, reduceIte, Nat.reduceEqDiff, AV.bool.injEq, Option.some.injEq, exists_eq_left', Option.map_some, Option.bind_some, opds_nil, opds_cons, opd_t, opd_c, aBin, aInt, decide_true, decide_false, negIf, wp1_nilCheck', wp1_fieldAddr', wp1_slice, op_slice, opdo_some, opdo_none, wp1_lit, op_lit, parts_nil, parts_cons, wp1_build, op_build, wp1_box, op_box, ← eh1, aStr, n0, n1, n2, two_len, u1]
  refine wpc_draw_k ?_
  simp only [wpc_skip, wpc_ops, wpc_seq, wpc_cond, wpc_block, wpc_loop, wpc_exit, wpc_scope, wpc_ret, seqQ_norm, seqQ_ret, seqQ_exit, blockQ'_norm, blockQ'_ret, blockQ'_exit, roundQ_norm, roundQ_ret, roundQ_exit, condK_true, condK_false, wpo_nil', wpo_none, wpo_tt, wpo_ff, wpo_tf, wpo_ft, opsK_c, isC_none, isC_read, isC_write, wp1_call, callK_ret, wp1_mv', wp1_bin', wp1_un', wp1_eq', wp1_extract', wp1_pick', wp1_len', wp1_load', wp1_conv', wp1_store', wp1_idxAddr', wp1_append', wp1_mkIface', wp1_alloc', rd_t, rd_c, ok_t, ok_c, put_some, put_none, get_put, reduceIte, Nat.reduceEqDiff, AV.bool.injEq, Option.some.injEq, exists_eq_left', Option.map_some, Option.bind_some, opds_nil, opds_cons, opd_t, opd_c, aBin, aInt, decide_true, decide_false, negIf, wp1_nilCheck', wp1_fieldAddr', wp1_slice, op_slice, opdo_some, opdo_none, wp1_lit, op_lit, parts_nil, parts_cons, wp1_build, op_build, wp1_box, op_box, wpk_nil, wpk_none, wpk_tt, wpk_ff, wpk_tf, wpk_ft, clsK_c, logC_apply, drawC_apply, two_0, two_1, two_ld, wc_eq (hr _), aExtract, ex0, ex1, s1]
  refine ⟨rfl, ?_⟩
  refine ⟨[.agg [t0, t1, t2, t3, t4, t5], .int .i64 c], .tup [.agg [t0, t1, t2, t3, t4, t5], .int .i64 c], by simp only [Env.results, Option.map_some, get_put, reduceIte, Nat.reduceEqDiff, l6, Option.bind_some] <;> rfl, (frz_noRef (v := .tup [.agg [t0, t1, t2, t3, t4, t5], .int .i64 c]) ?_).2 rfl, rfl⟩
  simpa [AV.noRef, AV.noRefs] using hn

theorem call_div {x y : Int} {t0 t1 t2 t3 t4 t5 : AV} {c : Int} (hr : ∀ h, WC env 60 [.str [100, 105, 118], .agg (ti x), .agg (ti y)] h (fun o => o = .ret ⟨.tup [.agg [t0, t1, t2, t3, t4, t5], .int .i64 c], h, .none⟩)) (hn : AV.noRefs [t0, t1, t2, t3, t4, t5] = true) (h : Heap) :
    WC env 38 [.str [100, 105, 118], two x y] h (fun o => o = .ret ⟨.tup [.agg [t0, t1, t2, t3, t4, t5], .int .i64 c], h, .none⟩) := by
  refine call_pure rfl rfl rfl rfl ?_
  obtain ⟨h1, eh1⟩ : ∃ h1, h1 = Heap.empty.new [.int .i64 0, .int .i64 0, .str [], .int .u32 0, .nils, .nils] := ⟨_, rfl⟩
  have a1 : h1.at_ Heap.empty.next 0 = some zero6 := by rw [eh1]; exact at_new _
  have n0 : (([100, 105, 118] : List UInt8) == [43]) = false := by decide
  have n1 : (([100, 105, 118] : List UInt8) == [45]) = false := by decide
  have n2 : (([100, 105, 118] : List UInt8) == [42]) = false := by decide
  have n3 : (([100, 105, 118] : List UInt8) == [100, 105, 118]) = true := by decide
  have u1 : ((2 : Int) == 1) = false := rfl
  have s1 : aStore h1 6 (.ptr Heap.empty.next 0 0) (.agg [t0, t1, t2, t3, t4, t5]) = some ⟨.undef, h1.upd Heap.empty.next 0 [t0, t1, t2, t3, t4, t5], .write⟩ := st6 a1
  have l6 : aLoad (h1.upd Heap.empty.next 0 [t0, t1, t2, t3, t4, t5]) true 6 (.ptr Heap.empty.next 0 0) = some ⟨.agg [t0, t1, t2, t3, t4, t5], h1.upd Heap.empty.next 0 [t0, t1, t2, t3, t4, t5], .read⟩ := ld6 at_upd
  simp only [a38, a38_0, a38_1, a38_2, a38_3, a38_4, a38_5, a38_7, a38_9, Slots.ofList, wpc_skip, wpc_ops, wpc_seq, wpc_cond, wpc_block, wpc_loop, wpc_exit, wpc_scope, wpc_ret, seqQ_norm, seqQ_ret, seqQ_exit, blockQ'_norm, blockQ'_ret, blockQ'_exit, roundQ_norm, roundQ_ret, roundQ_exit, condK_true, condK_false, wpo_nil', wpo_none, wpo_tt, wpo_ff, wpo_tf, wpo_ft, opsK_c, isC_none, isC_read, isC_write, wp1_call, callK_ret, wp1_mv', wp1_bin', wp1_un', wp1_eq', wp1_extract', wp1_pick', wp1_len', wp1_load', wp1_conv', wp1_store', wp1_idxAddr', wp1_append', wp1_mkIface', wp1_alloc', rd_t, rd_c, ok_t, ok_c, put_some, put_none, get_put, reduceIte, Nat.reduceEqDiff, AV.bool.injEq, Option.some.injEq, exists_eq_left', Option.map_some, Option.bind_some, opds_nil, opds_cons, opd_t, opd_c, aBin, aInt, decide_true, decide_false, negIf, wp1_nilCheck', wp1_fieldAddr', wp1_slice, op_slice, opdo_some, opdo_none, wp1_lit, op_lit, parts_nil, parts_cons, wp1_build, op_build, wp1_box, op_box, ← eh1, aStr, n0, n1, n2, n3, two_len, u1]
  refine wpc_draw_k ?_
  simp only [wpc_skip, wpc_ops, wpc_seq, wpc_cond, wpc_block, wpc_loop, wpc_exit, wpc_scope, wpc_ret, seqQ_norm, seqQ_ret, seqQ_exit, blockQ'_norm, blockQ'_ret, blockQ'_exit, roundQ_norm, roundQ_ret, roundQ_exit, condK_true, condK_false, wpo_nil', wpo_none, wpo_tt, wpo_ff, wpo_tf, wpo_ft, opsK_c, isC_none, isC_read, isC_write, wp1_call, callK_ret, wp1_mv', wp1_bin', wp1_un', wp1_eq', wp1_extract', wp1_pick', wp1_len', wp1_load', wp1_conv', wp1_store', wp1_idxAddr', wp1_append', wp1_mkIface', wp1_alloc', rd_t, rd_c, ok_t, ok_c, put_some, put_none, get_put, reduceIte, Nat.reduceEqDiff, AV.bool.injEq, Option.some.injEq, exists_eq_left', Option.map_some, Option.bind_some, opds_nil, opds_cons, opd_t, opd_c, aBin, aInt, decide_true, decide_false, negIf, wp1_nilCheck', wp1_fieldAddr', wp1_slice, op_slice, opdo_some, opdo_none, wp1_lit, op_lit, parts_nil, parts_cons, wp1_build, op_build, wp1_box, op_box, wpk_nil, wpk_none, wpk_tt, wpk_ff, wpk_tf, wpk_ft, clsK_c, logC_apply, drawC_apply, two_0, two_1, two_ld, wc_eq (hr _), aExtract, ex0, ex1, s1]
  refine ⟨rfl, ?_⟩
  refine ⟨[.agg [t0, t1, t2, t3, t4, t5], .int .i64 c], .tup [.agg [t0, t1, t2, t3, t4, t5], .int .i64 c], by simp only [Env.results, Option.map_some, get_put, reduceIte, Nat.reduceEqDiff, l6, Option.bind_some] <;> rfl, (frz_noRef (v := .tup [.agg [t0, t1, t2, t3, t4, t5], .int .i64 c]) ?_).2 rfl, rfl⟩
  simpa [AV.noRef, AV.noRefs] using hn

theorem call_rem {x y : Int} {t0 t1 t2 t3 t4 t5 : AV} {c : Int} (hr : ∀ h, WC env 60 [.str [114, 101, 109], .agg (ti x), .agg (ti y)] h (fun o => o = .ret ⟨.tup [.agg [t0, t1, t2, t3, t4, t5], .int .i64 c], h, .none⟩)) (hn : AV.noRefs [t0, t1, t2, t3, t4, t5] = true) (h : Heap) :
    WC env 38 [.str [114, 101, 109], two x y] h (fun o => o = .ret ⟨.tup [.agg [t0, t1, t2, t3, t4, t5], .int .i64 c], h, .none⟩) := by
  refine call_pure rfl rfl rfl rfl ?_
  obtain ⟨h1, eh1⟩ : ∃ h1, h1 = Heap.empty.new [.int .i64 0, .int .i64 0, .str [], .int .u32 0, .nils, .nils] := ⟨_, rfl⟩
  have a1 : h1.at_ Heap.empty.next 0 = some zero6 := by rw [eh1]; exact at_new _
  have n0 : (([114, 101, 109] : List UInt8) == [43]) = false := by decide
  have n1 : (([114, 101, 109] : List UInt8) == [45]) = false := by decide
  have n2 : (([114, 101, 109] : List UInt8) == [42]) = false := by decide
  have n3 : (([114, 101, 109] : List UInt8) == [100, 105, 118]) = false := by decide
  have n4 : (([114, 101, 109] : List UInt8) == [114, 101, 109]) = true := by decide
  have u1 : ((2 : Int) == 1) = false := rfl
  have s1 : aStore h1 6 (.ptr Heap.empty.next 0 0) (.agg [t0, t1, t2, t3, t4, t5]) = some ⟨.undef, h1.upd Heap.empty.next 0 [t0, t1, t2, t3, t4, t5], .write⟩ := st6 a1
  have l6 : aLoad (h1.upd Heap.empty.next 0 [t0, t1, t2, t3, t4, t5]) true 6 (.ptr Heap.empty.next 0 0) = some ⟨.agg [t0, t1, t2, t3, t4, t5], h1.upd Heap.empty.next 0 [t0, t1, t2, t3, t4, t5], .read⟩ := ld6 at_upd
  simp only [a38, a38_0, a38_1, a38_2, a38_3, a38_4, a38_5, a38_6, a38_7, a38_9, Slots.ofList, wpc_skip, wpc_ops, wpc_seq, wpc_cond, wpc_block, wpc_loop, wpc_exit, wpc_scope, wpc_ret, seqQ_norm, seqQ_ret, seqQ_exit, blockQ'_norm, blockQ'_ret, blockQ'_exit, roundQ_norm, roundQ_ret, roundQ_exit, condK_true, condK_false, wpo_nil', wpo_none, wpo_tt, wpo_ff, wpo_tf, wpo_ft, opsK_c, isC_none, isC_read, isC_write, wp1_call, callK_ret, wp1_mv', wp1_bin', wp1_un', wp1_eq', wp1_extract', wp1_pick', wp1_len', wp1_load', wp1_conv', wp1_store', wp1_idxAddr', wp1_append', wp1_mkIface', wp1_alloc', rd_t, rd_c, ok_t, ok_c, put_some, put_none, get_put, reduceIte, Nat.reduceEqDiff, AV.bool.injEq, Option.some.injEq, exists_eq_left', Option.map_some, Option.bind_some, opds_nil, opds_cons, opd_t, opd_c, aBin, aInt, decide_true, decide_false, negIf, wp1_nilCheck', wp1_fieldAddr', wp1_slice, op_slice, opdo_some, opdo_none, wp1_lit, op_lit, parts_nil, parts_cons, wp1_build, op_build, wp1_box, op_box, ← eh1, aStr, n0, n1, n2, n3, n4, two_len, u1]
  refine wpc_draw_k ?_
  simp only [wpc_skip, wpc_ops, wpc_seq, wpc_cond, wpc_block, wpc_loop, wpc_exit, wpc_scope, wpc_ret, seqQ_norm, seqQ_ret, seqQ_exit, blockQ'_norm, blockQ'_ret, blockQ'_exit, roundQ_norm, roundQ_ret, roundQ_exit, condK_true, condK_false, wpo_nil', wpo_none, wpo_tt, wpo_ff, wpo_tf, wpo_ft, opsK_c, isC_none, isC_read, isC_write, wp1_call, callK_ret, wp1_mv', wp1_bin', wp1_un', wp1_eq', wp1_extract', wp1_pick', wp1_len', wp1_load', wp1_conv', wp1_store', wp1_idxAddr', wp1_append', wp1_mkIface', wp1_alloc', rd_t, rd_c, ok_t, ok_c, put_some, put_none, get_put, reduceIte, Nat.reduceEqDiff, AV.bool.injEq, Option.some.injEq, exists_eq_left', Option.map_some, Option.bind_some, opds_nil, opds_cons, opd_t, opd_c, aBin, aInt, decide_true, decide_false, negIf, wp1_nilCheck', wp1_fieldAddr', wp1_slice, op_slice, opdo_some, opdo_none, wp1_lit, op_lit, parts_nil, parts_cons, wp1_build, op_build, wp1_box, op_box, wpk_nil, wpk_none, wpk_tt, wpk_ff, wpk_tf, wpk_ft, clsK_c, logC_apply, drawC_apply, two_0, two_1, two_ld, wc_eq (hr _), aExtract, ex0, ex1, s1]
  refine ⟨rfl, ?_⟩
  refine ⟨[.agg [t0, t1, t2, t3, t4, t5], .int .i64 c], .tup [.agg [t0, t1, t2, t3, t4, t5], .int .i64 c], by simp only [Env.results, Option.map_some, get_put, reduceIte, Nat.reduceEqDiff, l6, Option.bind_some] <;> rfl, (frz_noRef (v := .tup [.agg [t0, t1, t2, t3, t4, t5], .int .i64 c]) ?_).2 rfl, rfl⟩
  simpa [AV.noRef, AV.noRefs] using hn

end Go.Bf
