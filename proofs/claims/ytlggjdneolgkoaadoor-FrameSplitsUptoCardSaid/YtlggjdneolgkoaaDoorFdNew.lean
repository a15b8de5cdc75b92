/-
  Package frame and its reference: New.
-/
import Derived.Test.YtlggjdneolgkoaaDoorFdReader
set_option linter.unusedVariables false
set_option linter.unusedSimpArgs false
set_option maxRecDepth 20000
namespace Go.Fd
open Go.AM

theorem new_bad {w : Int} (h2 : w ≠ 2) (h4 : w ≠ 4) (h : Heap) : WC env 10 [.int .i64 w] h (fun o => o = .ret ⟨.tup [.nilp, faultV 0 1], h, .write⟩) := by
  refine call_body rfl rfl (.inl rfl) ?_
  have z0 : (maxOf w == 0) = true := by simp [maxOf, h2, h4]
  simp only [a10, a10_0, a10_1, a10_2, Slots.ofList, wpc_skip, wpc_ops, wpc_draw, wpc_seq, wpc_cond, wpc_block, wpc_loop, wpc_exit, wpc_scope, wpc_ret, seqQ_norm, seqQ_ret, seqQ_exit, blockQ'_norm, blockQ'_ret, blockQ'_exit, roundQ_norm, roundQ_ret, roundQ_exit, condK_true, condK_false, wpo_nil', wpo_none, wpo_some, opsK_apply, guardK_tt, guardK_ff, guardK_tf, guardK_ft, wp1_call, callK_ret, wp1_mv', wp1_bin', wp1_un', wp1_eq', wp1_extract', wp1_pick', wp1_len', wp1_load', wp1_conv', wp1_store', wp1_idxAddr', wp1_append', wp1_mkIface', wp1_alloc', rd_t, rd_c, ok_t, ok_c, put_some, put_none, get_put, reduceIte, Nat.reduceEqDiff, AV.bool.injEq, Option.some.injEq, exists_eq_left', Option.map_some, Option.bind_some, opds_nil, opds_cons, opd_t, opd_c, aBin, aInt, decide_true, decide_false, negIf, wp1_nilCheck', wp1_fieldAddr', wp1_slice, op_slice, opdo_some, opdo_none, wp1_lit, op_lit, parts_nil, parts_cons, wp1_build, op_build, wp1_box, op_box, wc_eq (greatest_spec _ _), wc_eq (fault_spec _ _ _), z0]
  exact ⟨[.nilp, faultV 0 1], by simp only [Env.results, Option.map_some, get_put, reduceIte, Nat.reduceEqDiff], rfl⟩

theorem new_spec {w : Nat} (hw : w = 2 ∨ w = 4) (h : Heap) : WC env 10 [.int .i64 w] h (fun o => o = .ret ⟨.tup [.ptr h.next 0 0, .nili], h.new ((Rs.mk w 0 0 0 0 false).cells .nils), .write⟩) := by
  refine call_body rfl rfl (.inl rfl) ?_
  have z0 : (maxOf (w : Int) == 0) = false := by rcases hw with rfl | rfl <;> simp [maxOf]
  have y1 : aFill [.int .i64 0, .int .i64 0, .int .i64 0, .int .i64 0, .int .i64 0, .bool false] [(0, 1, AV.int .i64 w)] = some [.int .i64 w, .int .i64 0, .int .i64 0, .int .i64 0, .int .i64 0, .bool false] := rfl
  have y2 : aFill [.int .i64 0, .int .i64 0, .int .i64 0, .int .i64 0, .int .i64 0, .bool false, .nils] [(0, 6, AV.agg [.int .i64 w, .int .i64 0, .int .i64 0, .int .i64 0, .int .i64 0, .bool false])] = some [.int .i64 w, .int .i64 0, .int .i64 0, .int .i64 0, .int .i64 0, .bool false, .nils] := rfl
  have y3 : [AV.int .i64 w, .int .i64 0, .int .i64 0, .int .i64 0, .int .i64 0, .bool false, .nils].length = 7 := rfl
  simp only [a10, a10_0, a10_1, a10_3, Slots.ofList, wpc_skip, wpc_ops, wpc_draw, wpc_seq, wpc_cond, wpc_block, wpc_loop, wpc_exit, wpc_scope, wpc_ret, seqQ_norm, seqQ_ret, seqQ_exit, blockQ'_norm, blockQ'_ret, blockQ'_exit, roundQ_norm, roundQ_ret, roundQ_exit, condK_true, condK_false, wpo_nil', wpo_none, wpo_some, opsK_apply, guardK_tt, guardK_ff, guardK_tf, guardK_ft, wp1_call, callK_ret, wp1_mv', wp1_bin', wp1_un', wp1_eq', wp1_extract', wp1_pick', wp1_len', wp1_load', wp1_conv', wp1_store', wp1_idxAddr', wp1_append', wp1_mkIface', wp1_alloc', rd_t, rd_c, ok_t, ok_c, put_some, put_none, get_put, reduceIte, Nat.reduceEqDiff, AV.bool.injEq, Option.some.injEq, exists_eq_left', Option.map_some, Option.bind_some, opds_nil, opds_cons, opd_t, opd_c, aBin, aInt, decide_true, decide_false, negIf, wp1_nilCheck', wp1_fieldAddr', wp1_slice, op_slice, opdo_some, opdo_none, wp1_lit, op_lit, parts_nil, parts_cons, wp1_build, op_build, wp1_box, op_box, wc_eq (greatest_spec _ _), z0, y1, y2, row_agg, if_pos y3]
  exact ⟨[.ptr h.next 0 0, .nili], by simp only [Env.results, Option.map_some, get_put, reduceIte, Nat.reduceEqDiff], rfl⟩

theorem rnew_bad {w : Int} (h2 : w ≠ 2) (h4 : w ≠ 4) (h : Heap) : WC env 11 [.int .i64 w] h (fun o => o = .ret ⟨.tup [.nilp, linkV [102, 114, 97, 109, 101] 0 1], h, .write⟩) := by
  refine call_body rfl rfl (.inl rfl) ?_
  have z0 : (rmaxOf w < 0) = True := by simp [rmaxOf, h2, h4]
  simp only [a11, a11_0, a11_1, a11_2, Slots.ofList, wpc_skip, wpc_ops, wpc_draw, wpc_seq, wpc_cond, wpc_block, wpc_loop, wpc_exit, wpc_scope, wpc_ret, seqQ_norm, seqQ_ret, seqQ_exit, blockQ'_norm, blockQ'_ret, blockQ'_exit, roundQ_norm, roundQ_ret, roundQ_exit, condK_true, condK_false, wpo_nil', wpo_none, wpo_some, opsK_apply, guardK_tt, guardK_ff, guardK_tf, guardK_ft, wp1_call, callK_ret, wp1_mv', wp1_bin', wp1_un', wp1_eq', wp1_extract', wp1_pick', wp1_len', wp1_load', wp1_conv', wp1_store', wp1_idxAddr', wp1_append', wp1_mkIface', wp1_alloc', rd_t, rd_c, ok_t, ok_c, put_some, put_none, get_put, reduceIte, Nat.reduceEqDiff, AV.bool.injEq, Option.some.injEq, exists_eq_left', Option.map_some, Option.bind_some, opds_nil, opds_cons, opd_t, opd_c, aBin, aInt, decide_true, decide_false, negIf, wp1_nilCheck', wp1_fieldAddr', wp1_slice, op_slice, opdo_some, opdo_none, wp1_lit, op_lit, parts_nil, parts_cons, wp1_build, op_build, wp1_box, op_box, wc_eq (rgreatest_spec _ _), wc_eq (no_spec _ _ _), z0]
  exact ⟨[.nilp, linkV [102, 114, 97, 109, 101] 0 1], by simp only [Env.results, Option.map_some, get_put, reduceIte, Nat.reduceEqDiff], rfl⟩

theorem rnew_spec {w : Nat} (hw : w = 2 ∨ w = 4) (h : Heap) : WC env 11 [.int .i64 w] h (fun o => o = .ret ⟨.tup [.ptr h.next 0 0, .nils], h.new ((Rs.mk w 0 0 0 0 false).cells .nils), .write⟩) := by
  refine call_body rfl rfl (.inl rfl) ?_
  have z0 : (rmaxOf (w : Int) < 0) = False := by rcases hw with rfl | rfl <;> simp [rmaxOf]
  have y1 : aFill [.int .i64 0, .int .i64 0, .int .i64 0, .int .i64 0, .int .i64 0, .bool false] [(0, 1, AV.int .i64 w)] = some [.int .i64 w, .int .i64 0, .int .i64 0, .int .i64 0, .int .i64 0, .bool false] := rfl
  have y2 : aFill [.int .i64 0, .int .i64 0, .int .i64 0, .int .i64 0, .int .i64 0, .bool false, .nils] [(0, 6, AV.agg [.int .i64 w, .int .i64 0, .int .i64 0, .int .i64 0, .int .i64 0, .bool false])] = some [.int .i64 w, .int .i64 0, .int .i64 0, .int .i64 0, .int .i64 0, .bool false, .nils] := rfl
  have y3 : [AV.int .i64 w, .int .i64 0, .int .i64 0, .int .i64 0, .int .i64 0, .bool false, .nils].length = 7 := rfl
  simp only [a11, a11_0, a11_1, a11_3, Slots.ofList, wpc_skip, wpc_ops, wpc_draw, wpc_seq, wpc_cond, wpc_block, wpc_loop, wpc_exit, wpc_scope, wpc_ret, seqQ_norm, seqQ_ret, seqQ_exit, blockQ'_norm, blockQ'_ret, blockQ'_exit, roundQ_norm, roundQ_ret, roundQ_exit, condK_true, condK_false, wpo_nil', wpo_none, wpo_some, opsK_apply, guardK_tt, guardK_ff, guardK_tf, guardK_ft, wp1_call, callK_ret, wp1_mv', wp1_bin', wp1_un', wp1_eq', wp1_extract', wp1_pick', wp1_len', wp1_load', wp1_conv', wp1_store', wp1_idxAddr', wp1_append', wp1_mkIface', wp1_alloc', rd_t, rd_c, ok_t, ok_c, put_some, put_none, get_put, reduceIte, Nat.reduceEqDiff, AV.bool.injEq, Option.some.injEq, exists_eq_left', Option.map_some, Option.bind_some, opds_nil, opds_cons, opd_t, opd_c, aBin, aInt, decide_true, decide_false, negIf, wp1_nilCheck', wp1_fieldAddr', wp1_slice, op_slice, opdo_some, opdo_none, wp1_lit, op_lit, parts_nil, parts_cons, wp1_build, op_build, wp1_box, op_box, wc_eq (rgreatest_spec _ _), z0, y1, y2, row_agg, if_pos y3]
  exact ⟨[.ptr h.next 0 0, .nils], by simp only [Env.results, Option.map_some, get_put, reduceIte, Nat.reduceEqDiff], rfl⟩
end Go.Fd
