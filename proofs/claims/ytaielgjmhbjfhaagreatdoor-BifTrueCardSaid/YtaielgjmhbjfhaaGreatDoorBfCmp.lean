/-
  The comparisons of Go's library at this program's types (the first part is written by tools/bfcmp.py).
-/
import Derived.Test.YtaielgjmhbjfhaaGreatDoorBfForm2
set_option linter.unusedVariables false
set_option linter.unusedSimpArgs false
set_option maxRecDepth 20000
namespace Go.Bf
open Go.AM

def cmpI (a b : Int) : Int := if a < b then -1 else if a > b then 1 else 0
def cmpS (a b : List UInt8) : Int := if Op.bytesLess a b then -1 else if a == b then 0 else 1
theorem finI {s : St} {n : Nat} {x : Int} {h : Heap} {Q : COut → Prop} (hg : s.σ.get n = .int .i64 x) (hq : Q (.ret ⟨.int .i64 x, h, .none⟩)) : pureQ env [.tmp n] h Q .ret s := fin1 hg rfl rfl hq
theorem finB {s : St} {n : Nat} {x : Bool} {h : Heap} {Q : COut → Prop} (hg : s.σ.get n = .bool x) (hq : Q (.ret ⟨.bool x, h, .none⟩)) : pureQ env [.tmp n] h Q .ret s := fin1 hg rfl rfl hq
theorem nan123 (a : Int) (h : Heap) : WC env 123 [.int .i64 a] h (fun o => o = .ret ⟨.bool false, h, .none⟩) := by
  refine call_pure rfl rfl rfl rfl ?_
  have z : (a != a) = false := by simp
  simp only [a123, a123_0, a123_1, Slots.ofList, wpc_skip, wpc_ops, wpc_draw, wpc_seq, wpc_cond, wpc_block, wpc_loop, wpc_exit, wpc_scope, wpc_ret, seqQ_norm, seqQ_ret, seqQ_exit, blockQ'_norm, blockQ'_ret, blockQ'_exit, roundQ_norm, roundQ_ret, roundQ_exit, condK_true, condK_false, wpo_nil', wpo_none, wpo_tt, wpo_ff, wpo_tf, wpo_ft, opsK_c, isC_none, isC_read, isC_write, wp1_call, callK_ret, wp1_mv', wp1_bin', wp1_un', wp1_eq', wp1_extract', wp1_pick', wp1_len', wp1_load', wp1_conv', wp1_store', wp1_idxAddr', wp1_append', wp1_mkIface', wp1_alloc', rd_t, rd_c, ok_t, ok_c, put_some, put_none, get_put, reduceIte, Nat.reduceEqDiff, AV.bool.injEq, Option.some.injEq, exists_eq_left', Option.map_some, Option.bind_some, opds_nil, opds_cons, opd_t, opd_c, aBin, aInt, decide_true, decide_false, negIf, wp1_nilCheck', wp1_fieldAddr', wp1_slice, op_slice, opdo_some, opdo_none, wp1_lit, op_lit, parts_nil, parts_cons, wp1_build, op_build, wp1_box, op_box, z]
  exact finB (by simp only [get_put, reduceIte, Nat.reduceEqDiff]) rfl
theorem cmp88 (a b : Int) (h : Heap) : WC env 88 [.int .i64 a, .int .i64 b] h (fun o => o = .ret ⟨.int .i64 (cmpI a b), h, .none⟩) := by
  refine call_pure rfl rfl rfl rfl ?_
  by_cases c1 : a < b
  · have z1 : (a < b) = True := eq_true c1
    have e : cmpI a b = -1 := if_pos c1
    simp only [a88, a88_0, a88_1, a88_2, a88_3, a88_7, a88_9, a88_10, Slots.ofList, wpc_skip, wpc_ops, wpc_draw, wpc_seq, wpc_cond, wpc_block, wpc_loop, wpc_exit, wpc_scope, wpc_ret, seqQ_norm, seqQ_ret, seqQ_exit, blockQ'_norm, blockQ'_ret, blockQ'_exit, roundQ_norm, roundQ_ret, roundQ_exit, condK_true, condK_false, wpo_nil', wpo_none, wpo_tt, wpo_ff, wpo_tf, wpo_ft, opsK_c, isC_none, isC_read, isC_write, wp1_call, callK_ret, wp1_mv', wp1_bin', wp1_un', wp1_eq', wp1_extract', wp1_pick', wp1_len', wp1_load', wp1_conv', wp1_store', wp1_idxAddr', wp1_append', wp1_mkIface', wp1_alloc', rd_t, rd_c, ok_t, ok_c, put_some, put_none, get_put, reduceIte, Nat.reduceEqDiff, AV.bool.injEq, Option.some.injEq, exists_eq_left', Option.map_some, Option.bind_some, opds_nil, opds_cons, opd_t, opd_c, aBin, aInt, decide_true, decide_false, negIf, wp1_nilCheck', wp1_fieldAddr', wp1_slice, op_slice, opdo_some, opdo_none, wp1_lit, op_lit, parts_nil, parts_cons, wp1_build, op_build, wp1_box, op_box, z1, wc_eq (nan123 _ _)]
    exact finI (by simp only [get_put, reduceIte, Nat.reduceEqDiff]; rw [e]) rfl
  have z1 : (a < b) = False := eq_false c1
  by_cases c2 : a > b
  · have z2 : (a > b) = True := eq_true c2
    have e : cmpI a b = 1 := by rw [cmpI, if_neg c1, if_pos c2]
    simp only [a88, a88_0, a88_1, a88_2, a88_3, a88_7, a88_9, a88_11, a88_12, Slots.ofList, wpc_skip, wpc_ops, wpc_draw, wpc_seq, wpc_cond, wpc_block, wpc_loop, wpc_exit, wpc_scope, wpc_ret, seqQ_norm, seqQ_ret, seqQ_exit, blockQ'_norm, blockQ'_ret, blockQ'_exit, roundQ_norm, roundQ_ret, roundQ_exit, condK_true, condK_false, wpo_nil', wpo_none, wpo_tt, wpo_ff, wpo_tf, wpo_ft, opsK_c, isC_none, isC_read, isC_write, wp1_call, callK_ret, wp1_mv', wp1_bin', wp1_un', wp1_eq', wp1_extract', wp1_pick', wp1_len', wp1_load', wp1_conv', wp1_store', wp1_idxAddr', wp1_append', wp1_mkIface', wp1_alloc', rd_t, rd_c, ok_t, ok_c, put_some, put_none, get_put, reduceIte, Nat.reduceEqDiff, AV.bool.injEq, Option.some.injEq, exists_eq_left', Option.map_some, Option.bind_some, opds_nil, opds_cons, opd_t, opd_c, aBin, aInt, decide_true, decide_false, negIf, wp1_nilCheck', wp1_fieldAddr', wp1_slice, op_slice, opdo_some, opdo_none, wp1_lit, op_lit, parts_nil, parts_cons, wp1_build, op_build, wp1_box, op_box, z1, z2, wc_eq (nan123 _ _)]
    exact finI (by simp only [get_put, reduceIte, Nat.reduceEqDiff]; rw [e]) rfl
  have z2 : (a > b) = False := eq_false c2
  have e : cmpI a b = 0 := by rw [cmpI, if_neg c1, if_neg c2]
  simp only [a88, a88_0, a88_1, a88_2, a88_3, a88_7, a88_9, a88_11, a88_13, Slots.ofList, wpc_skip, wpc_ops, wpc_draw, wpc_seq, wpc_cond, wpc_block, wpc_loop, wpc_exit, wpc_scope, wpc_ret, seqQ_norm, seqQ_ret, seqQ_exit, blockQ'_norm, blockQ'_ret, blockQ'_exit, roundQ_norm, roundQ_ret, roundQ_exit, condK_true, condK_false, wpo_nil', wpo_none, wpo_tt, wpo_ff, wpo_tf, wpo_ft, opsK_c, isC_none, isC_read, isC_write, wp1_call, callK_ret, wp1_mv', wp1_bin', wp1_un', wp1_eq', wp1_extract', wp1_pick', wp1_len', wp1_load', wp1_conv', wp1_store', wp1_idxAddr', wp1_append', wp1_mkIface', wp1_alloc', rd_t, rd_c, ok_t, ok_c, put_some, put_none, get_put, reduceIte, Nat.reduceEqDiff, AV.bool.injEq, Option.some.injEq, exists_eq_left', Option.map_some, Option.bind_some, opds_nil, opds_cons, opd_t, opd_c, aBin, aInt, decide_true, decide_false, negIf, wp1_nilCheck', wp1_fieldAddr', wp1_slice, op_slice, opdo_some, opdo_none, wp1_lit, op_lit, parts_nil, parts_cons, wp1_build, op_build, wp1_box, op_box, z1, z2, wc_eq (nan123 _ _)]
  exact finI (by simp only [get_put, reduceIte, Nat.reduceEqDiff]; rw [e]) rfl
theorem nan124 (a : Int) (h : Heap) : WC env 124 [.int .i64 a] h (fun o => o = .ret ⟨.bool false, h, .none⟩) := by
  refine call_pure rfl rfl rfl rfl ?_
  have z : (a != a) = false := by simp
  simp only [a124, a124_0, a124_1, Slots.ofList, wpc_skip, wpc_ops, wpc_draw, wpc_seq, wpc_cond, wpc_block, wpc_loop, wpc_exit, wpc_scope, wpc_ret, seqQ_norm, seqQ_ret, seqQ_exit, blockQ'_norm, blockQ'_ret, blockQ'_exit, roundQ_norm, roundQ_ret, roundQ_exit, condK_true, condK_false, wpo_nil', wpo_none, wpo_tt, wpo_ff, wpo_tf, wpo_ft, opsK_c, isC_none, isC_read, isC_write, wp1_call, callK_ret, wp1_mv', wp1_bin', wp1_un', wp1_eq', wp1_extract', wp1_pick', wp1_len', wp1_load', wp1_conv', wp1_store', wp1_idxAddr', wp1_append', wp1_mkIface', wp1_alloc', rd_t, rd_c, ok_t, ok_c, put_some, put_none, get_put, reduceIte, Nat.reduceEqDiff, AV.bool.injEq, Option.some.injEq, exists_eq_left', Option.map_some, Option.bind_some, opds_nil, opds_cons, opd_t, opd_c, aBin, aInt, decide_true, decide_false, negIf, wp1_nilCheck', wp1_fieldAddr', wp1_slice, op_slice, opdo_some, opdo_none, wp1_lit, op_lit, parts_nil, parts_cons, wp1_build, op_build, wp1_box, op_box, z]
  exact finB (by simp only [get_put, reduceIte, Nat.reduceEqDiff]) rfl
theorem cmp89 (a b : Int) (h : Heap) : WC env 89 [.int .i64 a, .int .i64 b] h (fun o => o = .ret ⟨.int .i64 (cmpI a b), h, .none⟩) := by
  refine call_pure rfl rfl rfl rfl ?_
  by_cases c1 : a < b
  · have z1 : (a < b) = True := eq_true c1
    have e : cmpI a b = -1 := if_pos c1
    simp only [a89, a89_0, a89_1, a89_2, a89_3, a89_7, a89_9, a89_10, Slots.ofList, wpc_skip, wpc_ops, wpc_draw, wpc_seq, wpc_cond, wpc_block, wpc_loop, wpc_exit, wpc_scope, wpc_ret, seqQ_norm, seqQ_ret, seqQ_exit, blockQ'_norm, blockQ'_ret, blockQ'_exit, roundQ_norm, roundQ_ret, roundQ_exit, condK_true, condK_false, wpo_nil', wpo_none, wpo_tt, wpo_ff, wpo_tf, wpo_ft, opsK_c, isC_none, isC_read, isC_write, wp1_call, callK_ret, wp1_mv', wp1_bin', wp1_un', wp1_eq', wp1_extract', wp1_pick', wp1_len', wp1_load', wp1_conv', wp1_store', wp1_idxAddr', wp1_append', wp1_mkIface', wp1_alloc', rd_t, rd_c, ok_t, ok_c, put_some, put_none, get_put, reduceIte, Nat.reduceEqDiff, AV.bool.injEq, Option.some.injEq, exists_eq_left', Option.map_some, Option.bind_some, opds_nil, opds_cons, opd_t, opd_c, aBin, aInt, decide_true, decide_false, negIf, wp1_nilCheck', wp1_fieldAddr', wp1_slice, op_slice, opdo_some, opdo_none, wp1_lit, op_lit, parts_nil, parts_cons, wp1_build, op_build, wp1_box, op_box, z1, wc_eq (nan124 _ _)]
    exact finI (by simp only [get_put, reduceIte, Nat.reduceEqDiff]; rw [e]) rfl
  have z1 : (a < b) = False := eq_false c1
  by_cases c2 : a > b
  · have z2 : (a > b) = True := eq_true c2
    have e : cmpI a b = 1 := by rw [cmpI, if_neg c1, if_pos c2]
    simp only [a89, a89_0, a89_1, a89_2, a89_3, a89_7, a89_9, a89_11, a89_12, Slots.ofList, wpc_skip, wpc_ops, wpc_draw, wpc_seq, wpc_cond, wpc_block, wpc_loop, wpc_exit, wpc_scope, wpc_ret, seqQ_norm, seqQ_ret, seqQ_exit, blockQ'_norm, blockQ'_ret, blockQ'_exit, roundQ_norm, roundQ_ret, roundQ_exit, condK_true, condK_false, wpo_nil', wpo_none, wpo_tt, wpo_ff, wpo_tf, wpo_ft, opsK_c, isC_none, isC_read, isC_write, wp1_call, callK_ret, wp1_mv', wp1_bin', wp1_un', wp1_eq', wp1_extract', wp1_pick', wp1_len', wp1_load', wp1_conv', wp1_store', wp1_idxAddr', wp1_append', wp1_mkIface', wp1_alloc', rd_t, rd_c, ok_t, ok_c, put_some, put_none, get_put, reduceIte, Nat.reduceEqDiff, AV.bool.injEq, Option.some.injEq, exists_eq_left', Option.map_some, Option.bind_some, opds_nil, opds_cons, opd_t, opd_c, aBin, aInt, decide_true, decide_false, negIf, wp1_nilCheck', wp1_fieldAddr', wp1_slice, op_slice, opdo_some, opdo_none, wp1_lit, op_lit, parts_nil, parts_cons, wp1_build, op_build, wp1_box, op_box, z1, z2, wc_eq (nan124 _ _)]
    exact finI (by simp only [get_put, reduceIte, Nat.reduceEqDiff]; rw [e]) rfl
  have z2 : (a > b) = False := eq_false c2
  have e : cmpI a b = 0 := by rw [cmpI, if_neg c1, if_neg c2]
  simp only [a89, a89_0, a89_1, a89_2, a89_3, a89_7, a89_9, a89_11, a89_13, Slots.ofList, wpc_skip, wpc_ops, wpc_draw, wpc_seq, wpc_cond, wpc_block, wpc_loop, wpc_exit, wpc_scope, wpc_ret, seqQ_norm, seqQ_ret, seqQ_exit, blockQ'_norm, blockQ'_ret, blockQ'_exit, roundQ_norm, roundQ_ret, roundQ_exit, condK_true, condK_false, wpo_nil', wpo_none, wpo_tt, wpo_ff, wpo_tf, wpo_ft, opsK_c, isC_none, isC_read, isC_write, wp1_call, callK_ret, wp1_mv', wp1_bin', wp1_un', wp1_eq', wp1_extract', wp1_pick', wp1_len', wp1_load', wp1_conv', wp1_store', wp1_idxAddr', wp1_append', wp1_mkIface', wp1_alloc', rd_t, rd_c, ok_t, ok_c, put_some, put_none, get_put, reduceIte, Nat.reduceEqDiff, AV.bool.injEq, Option.some.injEq, exists_eq_left', Option.map_some, Option.bind_some, opds_nil, opds_cons, opd_t, opd_c, aBin, aInt, decide_true, decide_false, negIf, wp1_nilCheck', wp1_fieldAddr', wp1_slice, op_slice, opdo_some, opdo_none, wp1_lit, op_lit, parts_nil, parts_cons, wp1_build, op_build, wp1_box, op_box, z1, z2, wc_eq (nan124 _ _)]
  exact finI (by simp only [get_put, reduceIte, Nat.reduceEqDiff]; rw [e]) rfl
theorem nan126 (a : Int) (h : Heap) : WC env 126 [.int .u32 a] h (fun o => o = .ret ⟨.bool false, h, .none⟩) := by
  refine call_pure rfl rfl rfl rfl ?_
  have z : (a != a) = false := by simp
  simp only [a126, a126_0, a126_1, Slots.ofList, wpc_skip, wpc_ops, wpc_draw, wpc_seq, wpc_cond, wpc_block, wpc_loop, wpc_exit, wpc_scope, wpc_ret, seqQ_norm, seqQ_ret, seqQ_exit, blockQ'_norm, blockQ'_ret, blockQ'_exit, roundQ_norm, roundQ_ret, roundQ_exit, condK_true, condK_false, wpo_nil', wpo_none, wpo_tt, wpo_ff, wpo_tf, wpo_ft, opsK_c, isC_none, isC_read, isC_write, wp1_call, callK_ret, wp1_mv', wp1_bin', wp1_un', wp1_eq', wp1_extract', wp1_pick', wp1_len', wp1_load', wp1_conv', wp1_store', wp1_idxAddr', wp1_append', wp1_mkIface', wp1_alloc', rd_t, rd_c, ok_t, ok_c, put_some, put_none, get_put, reduceIte, Nat.reduceEqDiff, AV.bool.injEq, Option.some.injEq, exists_eq_left', Option.map_some, Option.bind_some, opds_nil, opds_cons, opd_t, opd_c, aBin, aInt, decide_true, decide_false, negIf, wp1_nilCheck', wp1_fieldAddr', wp1_slice, op_slice, opdo_some, opdo_none, wp1_lit, op_lit, parts_nil, parts_cons, wp1_build, op_build, wp1_box, op_box, z]
  exact finB (by simp only [get_put, reduceIte, Nat.reduceEqDiff]) rfl
theorem cmp92 (a b : Int) (h : Heap) : WC env 92 [.int .u32 a, .int .u32 b] h (fun o => o = .ret ⟨.int .i64 (cmpI a b), h, .none⟩) := by
  refine call_pure rfl rfl rfl rfl ?_
  by_cases c1 : a < b
  · have z1 : (a < b) = True := eq_true c1
    have e : cmpI a b = -1 := if_pos c1
    simp only [a92, a92_0, a92_1, a92_2, a92_3, a92_7, a92_9, a92_10, Slots.ofList, wpc_skip, wpc_ops, wpc_draw, wpc_seq, wpc_cond, wpc_block, wpc_loop, wpc_exit, wpc_scope, wpc_ret, seqQ_norm, seqQ_ret, seqQ_exit, blockQ'_norm, blockQ'_ret, blockQ'_exit, roundQ_norm, roundQ_ret, roundQ_exit, condK_true, condK_false, wpo_nil', wpo_none, wpo_tt, wpo_ff, wpo_tf, wpo_ft, opsK_c, isC_none, isC_read, isC_write, wp1_call, callK_ret, wp1_mv', wp1_bin', wp1_un', wp1_eq', wp1_extract', wp1_pick', wp1_len', wp1_load', wp1_conv', wp1_store', wp1_idxAddr', wp1_append', wp1_mkIface', wp1_alloc', rd_t, rd_c, ok_t, ok_c, put_some, put_none, get_put, reduceIte, Nat.reduceEqDiff, AV.bool.injEq, Option.some.injEq, exists_eq_left', Option.map_some, Option.bind_some, opds_nil, opds_cons, opd_t, opd_c, aBin, aInt, decide_true, decide_false, negIf, wp1_nilCheck', wp1_fieldAddr', wp1_slice, op_slice, opdo_some, opdo_none, wp1_lit, op_lit, parts_nil, parts_cons, wp1_build, op_build, wp1_box, op_box, z1, wc_eq (nan126 _ _)]
    exact finI (by simp only [get_put, reduceIte, Nat.reduceEqDiff]; rw [e]) rfl
  have z1 : (a < b) = False := eq_false c1
  by_cases c2 : a > b
  · have z2 : (a > b) = True := eq_true c2
    have e : cmpI a b = 1 := by rw [cmpI, if_neg c1, if_pos c2]
    simp only [a92, a92_0, a92_1, a92_2, a92_3, a92_7, a92_9, a92_11, a92_12, Slots.ofList, wpc_skip, wpc_ops, wpc_draw, wpc_seq, wpc_cond, wpc_block, wpc_loop, wpc_exit, wpc_scope, wpc_ret, seqQ_norm, seqQ_ret, seqQ_exit, blockQ'_norm, blockQ'_ret, blockQ'_exit, roundQ_norm, roundQ_ret, roundQ_exit, condK_true, condK_false, wpo_nil', wpo_none, wpo_tt, wpo_ff, wpo_tf, wpo_ft, opsK_c, isC_none, isC_read, isC_write, wp1_call, callK_ret, wp1_mv', wp1_bin', wp1_un', wp1_eq', wp1_extract', wp1_pick', wp1_len', wp1_load', wp1_conv', wp1_store', wp1_idxAddr', wp1_append', wp1_mkIface', wp1_alloc', rd_t, rd_c, ok_t, ok_c, put_some, put_none, get_put, reduceIte, Nat.reduceEqDiff, AV.bool.injEq, Option.some.injEq, exists_eq_left', Option.map_some, Option.bind_some, opds_nil, opds_cons, opd_t, opd_c, aBin, aInt, decide_true, decide_false, negIf, wp1_nilCheck', wp1_fieldAddr', wp1_slice, op_slice, opdo_some, opdo_none, wp1_lit, op_lit, parts_nil, parts_cons, wp1_build, op_build, wp1_box, op_box, z1, z2, wc_eq (nan126 _ _)]
    exact finI (by simp only [get_put, reduceIte, Nat.reduceEqDiff]; rw [e]) rfl
  have z2 : (a > b) = False := eq_false c2
  have e : cmpI a b = 0 := by rw [cmpI, if_neg c1, if_neg c2]
  simp only [a92, a92_0, a92_1, a92_2, a92_3, a92_7, a92_9, a92_11, a92_13, Slots.ofList, wpc_skip, wpc_ops, wpc_draw, wpc_seq, wpc_cond, wpc_block, wpc_loop, wpc_exit, wpc_scope, wpc_ret, seqQ_norm, seqQ_ret, seqQ_exit, blockQ'_norm, blockQ'_ret, blockQ'_exit, roundQ_norm, roundQ_ret, roundQ_exit, condK_true, condK_false, wpo_nil', wpo_none, wpo_tt, wpo_ff, wpo_tf, wpo_ft, opsK_c, isC_none, isC_read, isC_write, wp1_call, callK_ret, wp1_mv', wp1_bin', wp1_un', wp1_eq', wp1_extract', wp1_pick', wp1_len', wp1_load', wp1_conv', wp1_store', wp1_idxAddr', wp1_append', wp1_mkIface', wp1_alloc', rd_t, rd_c, ok_t, ok_c, put_some, put_none, get_put, reduceIte, Nat.reduceEqDiff, AV.bool.injEq, Option.some.injEq, exists_eq_left', Option.map_some, Option.bind_some, opds_nil, opds_cons, opd_t, opd_c, aBin, aInt, decide_true, decide_false, negIf, wp1_nilCheck', wp1_fieldAddr', wp1_slice, op_slice, opdo_some, opdo_none, wp1_lit, op_lit, parts_nil, parts_cons, wp1_build, op_build, wp1_box, op_box, z1, z2, wc_eq (nan126 _ _)]
  exact finI (by simp only [get_put, reduceIte, Nat.reduceEqDiff]; rw [e]) rfl
theorem nan127 (a : Int) (h : Heap) : WC env 127 [.int .i64 a] h (fun o => o = .ret ⟨.bool false, h, .none⟩) := by
  refine call_pure rfl rfl rfl rfl ?_
  have z : (a != a) = false := by simp
  simp only [a127, a127_0, a127_1, Slots.ofList, wpc_skip, wpc_ops, wpc_draw, wpc_seq, wpc_cond, wpc_block, wpc_loop, wpc_exit, wpc_scope, wpc_ret, seqQ_norm, seqQ_ret, seqQ_exit, blockQ'_norm, blockQ'_ret, blockQ'_exit, roundQ_norm, roundQ_ret, roundQ_exit, condK_true, condK_false, wpo_nil', wpo_none, wpo_tt, wpo_ff, wpo_tf, wpo_ft, opsK_c, isC_none, isC_read, isC_write, wp1_call, callK_ret, wp1_mv', wp1_bin', wp1_un', wp1_eq', wp1_extract', wp1_pick', wp1_len', wp1_load', wp1_conv', wp1_store', wp1_idxAddr', wp1_append', wp1_mkIface', wp1_alloc', rd_t, rd_c, ok_t, ok_c, put_some, put_none, get_put, reduceIte, Nat.reduceEqDiff, AV.bool.injEq, Option.some.injEq, exists_eq_left', Option.map_some, Option.bind_some, opds_nil, opds_cons, opd_t, opd_c, aBin, aInt, decide_true, decide_false, negIf, wp1_nilCheck', wp1_fieldAddr', wp1_slice, op_slice, opdo_some, opdo_none, wp1_lit, op_lit, parts_nil, parts_cons, wp1_build, op_build, wp1_box, op_box, z]
  exact finB (by simp only [get_put, reduceIte, Nat.reduceEqDiff]) rfl
theorem cmp94 (a b : Int) (h : Heap) : WC env 94 [.int .i64 a, .int .i64 b] h (fun o => o = .ret ⟨.int .i64 (cmpI a b), h, .none⟩) := by
  refine call_pure rfl rfl rfl rfl ?_
  by_cases c1 : a < b
  · have z1 : (a < b) = True := eq_true c1
    have e : cmpI a b = -1 := if_pos c1
    simp only [a94, a94_0, a94_1, a94_2, a94_3, a94_7, a94_9, a94_10, Slots.ofList, wpc_skip, wpc_ops, wpc_draw, wpc_seq, wpc_cond, wpc_block, wpc_loop, wpc_exit, wpc_scope, wpc_ret, seqQ_norm, seqQ_ret, seqQ_exit, blockQ'_norm, blockQ'_ret, blockQ'_exit, roundQ_norm, roundQ_ret, roundQ_exit, condK_true, condK_false, wpo_nil', wpo_none, wpo_tt, wpo_ff, wpo_tf, wpo_ft, opsK_c, isC_none, isC_read, isC_write, wp1_call, callK_ret, wp1_mv', wp1_bin', wp1_un', wp1_eq', wp1_extract', wp1_pick', wp1_len', wp1_load', wp1_conv', wp1_store', wp1_idxAddr', wp1_append', wp1_mkIface', wp1_alloc', rd_t, rd_c, ok_t, ok_c, put_some, put_none, get_put, reduceIte, Nat.reduceEqDiff, AV.bool.injEq, Option.some.injEq, exists_eq_left', Option.map_some, Option.bind_some, opds_nil, opds_cons, opd_t, opd_c, aBin, aInt, decide_true, decide_false, negIf, wp1_nilCheck', wp1_fieldAddr', wp1_slice, op_slice, opdo_some, opdo_none, wp1_lit, op_lit, parts_nil, parts_cons, wp1_build, op_build, wp1_box, op_box, z1, wc_eq (nan127 _ _)]
    exact finI (by simp only [get_put, reduceIte, Nat.reduceEqDiff]; rw [e]) rfl
  have z1 : (a < b) = False := eq_false c1
  by_cases c2 : a > b
  · have z2 : (a > b) = True := eq_true c2
    have e : cmpI a b = 1 := by rw [cmpI, if_neg c1, if_pos c2]
    simp only [a94, a94_0, a94_1, a94_2, a94_3, a94_7, a94_9, a94_11, a94_12, Slots.ofList, wpc_skip, wpc_ops, wpc_draw, wpc_seq, wpc_cond, wpc_block, wpc_loop, wpc_exit, wpc_scope, wpc_ret, seqQ_norm, seqQ_ret, seqQ_exit, blockQ'_norm, blockQ'_ret, blockQ'_exit, roundQ_norm, roundQ_ret, roundQ_exit, condK_true, condK_false, wpo_nil', wpo_none, wpo_tt, wpo_ff, wpo_tf, wpo_ft, opsK_c, isC_none, isC_read, isC_write, wp1_call, callK_ret, wp1_mv', wp1_bin', wp1_un', wp1_eq', wp1_extract', wp1_pick', wp1_len', wp1_load', wp1_conv', wp1_store', wp1_idxAddr', wp1_append', wp1_mkIface', wp1_alloc', rd_t, rd_c, ok_t, ok_c, put_some, put_none, get_put, reduceIte, Nat.reduceEqDiff, AV.bool.injEq, Option.some.injEq, exists_eq_left', Option.map_some, Option.bind_some, opds_nil, opds_cons, opd_t, opd_c, aBin, aInt, decide_true, decide_false, negIf, wp1_nilCheck', wp1_fieldAddr', wp1_slice, op_slice, opdo_some, opdo_none, wp1_lit, op_lit, parts_nil, parts_cons, wp1_build, op_build, wp1_box, op_box, z1, z2, wc_eq (nan127 _ _)]
    exact finI (by simp only [get_put, reduceIte, Nat.reduceEqDiff]; rw [e]) rfl
  have z2 : (a > b) = False := eq_false c2
  have e : cmpI a b = 0 := by rw [cmpI, if_neg c1, if_neg c2]
  simp only [a94, a94_0, a94_1, a94_2, a94_3, a94_7, a94_9, a94_11, a94_13, Slots.ofList, wpc_skip, wpc_ops, wpc_draw, wpc_seq, wpc_cond, wpc_block, wpc_loop, wpc_exit, wpc_scope, wpc_ret, seqQ_norm, seqQ_ret, seqQ_exit, blockQ'_norm, blockQ'_ret, blockQ'_exit, roundQ_norm, roundQ_ret, roundQ_exit, condK_true, condK_false, wpo_nil', wpo_none, wpo_tt, wpo_ff, wpo_tf, wpo_ft, opsK_c, isC_none, isC_read, isC_write, wp1_call, callK_ret, wp1_mv', wp1_bin', wp1_un', wp1_eq', wp1_extract', wp1_pick', wp1_len', wp1_load', wp1_conv', wp1_store', wp1_idxAddr', wp1_append', wp1_mkIface', wp1_alloc', rd_t, rd_c, ok_t, ok_c, put_some, put_none, get_put, reduceIte, Nat.reduceEqDiff, AV.bool.injEq, Option.some.injEq, exists_eq_left', Option.map_some, Option.bind_some, opds_nil, opds_cons, opd_t, opd_c, aBin, aInt, decide_true, decide_false, negIf, wp1_nilCheck', wp1_fieldAddr', wp1_slice, op_slice, opdo_some, opdo_none, wp1_lit, op_lit, parts_nil, parts_cons, wp1_build, op_build, wp1_box, op_box, z1, z2, wc_eq (nan127 _ _)]
  exact finI (by simp only [get_put, reduceIte, Nat.reduceEqDiff]; rw [e]) rfl
theorem nan125 (a : List UInt8) (h : Heap) : WC env 125 [.str a] h (fun o => o = .ret ⟨.bool false, h, .none⟩) := by
  refine call_pure rfl rfl rfl rfl ?_
  have z : (a == a) = true := by simp
  simp only [a125, a125_0, a125_1, Slots.ofList, wpc_skip, wpc_ops, wpc_draw, wpc_seq, wpc_cond, wpc_block, wpc_loop, wpc_exit, wpc_scope, wpc_ret, seqQ_norm, seqQ_ret, seqQ_exit, blockQ'_norm, blockQ'_ret, blockQ'_exit, roundQ_norm, roundQ_ret, roundQ_exit, condK_true, condK_false, wpo_nil', wpo_none, wpo_tt, wpo_ff, wpo_tf, wpo_ft, opsK_c, isC_none, isC_read, isC_write, wp1_call, callK_ret, wp1_mv', wp1_bin', wp1_un', wp1_eq', wp1_extract', wp1_pick', wp1_len', wp1_load', wp1_conv', wp1_store', wp1_idxAddr', wp1_append', wp1_mkIface', wp1_alloc', rd_t, rd_c, ok_t, ok_c, put_some, put_none, get_put, reduceIte, Nat.reduceEqDiff, AV.bool.injEq, Option.some.injEq, exists_eq_left', Option.map_some, Option.bind_some, opds_nil, opds_cons, opd_t, opd_c, aBin, aInt, decide_true, decide_false, negIf, wp1_nilCheck', wp1_fieldAddr', wp1_slice, op_slice, opdo_some, opdo_none, wp1_lit, op_lit, parts_nil, parts_cons, wp1_build, op_build, wp1_box, op_box, aStr, z, Bool.not_true]
  exact finB (by simp only [get_put, reduceIte, Nat.reduceEqDiff]) rfl
theorem cmp90 (a b : List UInt8) (h : Heap) : WC env 90 [.str a, .str b] h (fun o => o = .ret ⟨.int .i64 (cmpS a b), h, .none⟩) := by
  refine call_pure rfl rfl rfl rfl ?_
  cases z1 : Op.bytesLess a b with
  | true =>
    have e : cmpS a b = -1 := by rw [cmpS, z1]; rfl
    simp only [a90, a90_0, a90_1, a90_2, a90_3, a90_7, a90_9, a90_10, Slots.ofList, wpc_skip, wpc_ops, wpc_draw, wpc_seq, wpc_cond, wpc_block, wpc_loop, wpc_exit, wpc_scope, wpc_ret, seqQ_norm, seqQ_ret, seqQ_exit, blockQ'_norm, blockQ'_ret, blockQ'_exit, roundQ_norm, roundQ_ret, roundQ_exit, condK_true, condK_false, wpo_nil', wpo_none, wpo_tt, wpo_ff, wpo_tf, wpo_ft, opsK_c, isC_none, isC_read, isC_write, wp1_call, callK_ret, wp1_mv', wp1_bin', wp1_un', wp1_eq', wp1_extract', wp1_pick', wp1_len', wp1_load', wp1_conv', wp1_store', wp1_idxAddr', wp1_append', wp1_mkIface', wp1_alloc', rd_t, rd_c, ok_t, ok_c, put_some, put_none, get_put, reduceIte, Nat.reduceEqDiff, AV.bool.injEq, Option.some.injEq, exists_eq_left', Option.map_some, Option.bind_some, opds_nil, opds_cons, opd_t, opd_c, aBin, aInt, decide_true, decide_false, negIf, wp1_nilCheck', wp1_fieldAddr', wp1_slice, op_slice, opdo_some, opdo_none, wp1_lit, op_lit, parts_nil, parts_cons, wp1_build, op_build, wp1_box, op_box, aStr, z1, wc_eq (nan125 _ _)]
    exact finI (by simp only [get_put, reduceIte, Nat.reduceEqDiff]; rw [e]) rfl
  | false =>
  cases z2 : (a == b) with
  | false =>
    have e : cmpS a b = 1 := by rw [cmpS, z1, z2]; rfl
    simp only [a90, a90_0, a90_1, a90_2, a90_3, a90_7, a90_9, a90_11, a90_12, Slots.ofList, wpc_skip, wpc_ops, wpc_draw, wpc_seq, wpc_cond, wpc_block, wpc_loop, wpc_exit, wpc_scope, wpc_ret, seqQ_norm, seqQ_ret, seqQ_exit, blockQ'_norm, blockQ'_ret, blockQ'_exit, roundQ_norm, roundQ_ret, roundQ_exit, condK_true, condK_false, wpo_nil', wpo_none, wpo_tt, wpo_ff, wpo_tf, wpo_ft, opsK_c, isC_none, isC_read, isC_write, wp1_call, callK_ret, wp1_mv', wp1_bin', wp1_un', wp1_eq', wp1_extract', wp1_pick', wp1_len', wp1_load', wp1_conv', wp1_store', wp1_idxAddr', wp1_append', wp1_mkIface', wp1_alloc', rd_t, rd_c, ok_t, ok_c, put_some, put_none, get_put, reduceIte, Nat.reduceEqDiff, AV.bool.injEq, Option.some.injEq, exists_eq_left', Option.map_some, Option.bind_some, opds_nil, opds_cons, opd_t, opd_c, aBin, aInt, decide_true, decide_false, negIf, wp1_nilCheck', wp1_fieldAddr', wp1_slice, op_slice, opdo_some, opdo_none, wp1_lit, op_lit, parts_nil, parts_cons, wp1_build, op_build, wp1_box, op_box, aStr, z1, z2, Bool.or_false, Bool.not_false, wc_eq (nan125 _ _)]
    exact finI (by simp only [get_put, reduceIte, Nat.reduceEqDiff]; rw [e]) rfl
  | true =>
  have e : cmpS a b = 0 := by rw [cmpS, z1, z2]; rfl
  simp only [a90, a90_0, a90_1, a90_2, a90_3, a90_7, a90_9, a90_11, a90_13, Slots.ofList, wpc_skip, wpc_ops, wpc_draw, wpc_seq, wpc_cond, wpc_block, wpc_loop, wpc_exit, wpc_scope, wpc_ret, seqQ_norm, seqQ_ret, seqQ_exit, blockQ'_norm, blockQ'_ret, blockQ'_exit, roundQ_norm, roundQ_ret, roundQ_exit, condK_true, condK_false, wpo_nil', wpo_none, wpo_tt, wpo_ff, wpo_tf, wpo_ft, opsK_c, isC_none, isC_read, isC_write, wp1_call, callK_ret, wp1_mv', wp1_bin', wp1_un', wp1_eq', wp1_extract', wp1_pick', wp1_len', wp1_load', wp1_conv', wp1_store', wp1_idxAddr', wp1_append', wp1_mkIface', wp1_alloc', rd_t, rd_c, ok_t, ok_c, put_some, put_none, get_put, reduceIte, Nat.reduceEqDiff, AV.bool.injEq, Option.some.injEq, exists_eq_left', Option.map_some, Option.bind_some, opds_nil, opds_cons, opd_t, opd_c, aBin, aInt, decide_true, decide_false, negIf, wp1_nilCheck', wp1_fieldAddr', wp1_slice, op_slice, opdo_some, opdo_none, wp1_lit, op_lit, parts_nil, parts_cons, wp1_build, op_build, wp1_box, op_box, aStr, z1, z2, Bool.or_true, Bool.not_true, wc_eq (nan125 _ _)]
  exact finI (by simp only [get_put, reduceIte, Nat.reduceEqDiff]; rw [e]) rfl

/-- the first of them that is not zero -/
def orI : List Int → Int
  | [] => 0
  | x :: l => if x ≠ 0 then x else orI l
theorem or2 (x y : Int) (h : Heap) : WC env 91 [.fs true 2 [.int .i64 x, .int .i64 y]] h (fun o => o = .ret ⟨.int .i64 (orI [x, y]), h, .none⟩) := by
  have go : ran a91 [.fs true 2 [.int .i64 x, .int .i64 y]] = some (.int .i64 (orI [x, y])) := by
    cases i0 x <;> cases i0 y <;> kernel_rfl
  exact pure_run (n := 29) rfl rfl rfl rfl rfl go
theorem or3 (x y z : Int) (h : Heap) : WC env 91 [.fs true 3 [.int .i64 x, .int .i64 y, .int .i64 z]] h (fun o => o = .ret ⟨.int .i64 (orI [x, y, z]), h, .none⟩) := by
  have go : ran a91 [.fs true 3 [.int .i64 x, .int .i64 y, .int .i64 z]] = some (.int .i64 (orI [x, y, z])) := by
    cases i0 x <;> cases i0 y <;> cases i0 z <;> kernel_rfl
  exact pure_run (n := 29) rfl rfl rfl rfl rfl go

/-! slices.Compare of two slices of numbers -/
def cmpNs : List Int → List Int → Int
  | [], [] => 0
  | [], _ :: _ => -1
  | _ :: _, [] => 1
  | a :: l, b :: m => if cmpI a b ≠ 0 then cmpI a b else cmpNs l m
theorem u32_length (l : List Int) : (u32s l).length = l.length := List.length_map _
theorem idx_nums {f : Option Bool} {l : List Int} {i : Nat} (hi : i < l.length) : aIdxAddr 1 (slAV f l.length (u32s l)) (.int .i64 i) = some (.fp ((u32s l).drop i)) := by
  have hl := u32_length l
  have go : ∀ b, aIdxAddr 1 (.fs b l.length (u32s l)) (.int .i64 i) = some (.fp ((u32s l).drop i)) := by
    intro b
    cases e : u32s l with
    | nil => rw [e] at hl; simp at hl; omega
    | cons c cs => simp only [aIdxAddr, aIndex_nat (kd := .i64) hi, Option.map_some, Nat.mul_one]
  cases f with
  | none =>
    cases n : l.length with
    | zero => omega
    | succ n => have := go false; rw [n] at this; exact this
  | some b => exact go b
theorem ld_nums {l : List Int} {i : Nat} (hi : i < l.length) (h : Heap) : aLoad h false 1 (.fp ((u32s l).drop i)) = some ⟨.int .u32 l[i], h, .none⟩ := by
  have : (u32s l).drop i = .int .u32 l[i] :: u32s (l.drop (i + 1)) := by
    rw [u32s, List.drop_eq_getElem_cons (by simpa using hi)]
    simp [u32s]
  rw [this]; rfl
theorem nums_loop {f1 f2 : Option Bool} {l m : List Int} (hl : l.length < 9223372036854775808) (hm : m.length < 9223372036854775808) {h : Heap} {Q : AExit → St → Prop} :
    ∀ (f i : Nat) (σ : Slots), l.length - i < f → i ≤ l.length → i ≤ m.length → σ.get 0 = slAV f1 l.length (u32s l) → σ.get 1 = slAV f2 m.length (u32s m) → σ.get 9 = slAV f1 l.length (u32s l) → σ.get 10 = .int .i64 l.length → σ.get 11 = .int .i64 i →
    (∀ σ', (∀ x, σ'.get 4 = .int .i64 x → x = cmpNs (l.drop i) (m.drop i) → Q .ret ⟨σ', h⟩) ∧ (σ'.get 0 = σ.get 0 → σ'.get 1 = σ.get 1 → (l.drop (min l.length m.length) = [] ∧ (cmpNs (l.drop i) (m.drop i) = if l.length < m.length then -1 else 0)) → Q (.exit 0) ⟨σ', h⟩)) →
    WPr env a93_l11 ⟨σ, h⟩ Q := by
  intro f
  induction f with
  | zero => intro i σ h1; omega
  | succ f ih =>
    intro i σ hf hi hi' g0 g1 g9 g10 g11 hQ
    refine wpr_round' fun b hb => ?_
    have nm : ∀ h, aLenOp false h (slAV f2 m.length (u32s m)) = some ⟨.int .i64 m.length, h, .none⟩ := fun h => len_sl _ _ _ (fun _ => trivial) h
    by_cases c1 : i < l.length
    · have z0 : ((i : Int) < (l.length : Int)) = True := eq_true (by omega)
      have zi : IntKind.wrap .i64 ((i : Int) + 1) = ((i + 1 : Nat) : Int) := wrap_nat (by omega) (by omega)
      have lx := idx_nums (f := f1) c1
      have ld := ld_nums c1 h
      have hd1 : l.drop i = l[i] :: l.drop (i + 1) := List.drop_eq_getElem_cons c1
      by_cases c2 : i < m.length
      · have z1 : ((i : Int) ≥ (m.length : Int)) = False := eq_false (by omega)
        have lx2 := idx_nums (f := f2) c2
        have ld2 := ld_nums c2 h
        have hd2 : m.drop i = m[i] :: m.drop (i + 1) := List.drop_eq_getElem_cons c2
        rw [hd1, hd2, cmpNs] at hQ
        by_cases c3 : cmpI l[i] m[i] = 0
        · have z3 : (cmpI l[i] m[i] != 0) = false := by simpa using c3
          rw [if_neg (by omega)] at hQ
          simp only [a93_l11, a93_2, a93_3, a93_4, a93_6, a93_7, a93_8, a93_10, wpc_skip, wpc_ops, wpc_draw, wpc_seq, wpc_cond, wpc_block, wpc_loop, wpc_exit, wpc_scope, wpc_ret, seqQ_norm, seqQ_ret, seqQ_exit, blockQ'_norm, blockQ'_ret, blockQ'_exit, roundQ_norm, roundQ_ret, roundQ_exit, condK_true, condK_false, wpo_nil', wpo_none, wpo_tt, wpo_ff, wpo_tf, wpo_ft, opsK_c, isC_none, isC_read, isC_write, wp1_call, callK_ret, wp1_mv', wp1_bin', wp1_un', wp1_eq', wp1_extract', wp1_pick', wp1_len', wp1_load', wp1_conv', wp1_store', wp1_idxAddr', wp1_append', wp1_mkIface', wp1_alloc', rd_t, rd_c, ok_t, ok_c, put_some, put_none, get_put, reduceIte, Nat.reduceEqDiff, AV.bool.injEq, Option.some.injEq, exists_eq_left', Option.map_some, Option.bind_some, opds_nil, opds_cons, opd_t, opd_c, aBin, aInt, decide_true, decide_false, negIf, wp1_nilCheck', wp1_fieldAddr', wp1_slice, op_slice, opdo_some, opdo_none, wp1_lit, op_lit, parts_nil, parts_cons, wp1_build, op_build, wp1_box, op_box, g0, g1, g9, g10, g11, z0, z1, zi, lx, ld, lx2, ld2, nm, wc_eq (cmp92 _ _ _), z3]
          subst hb
          refine ih (i + 1) _ (by omega) (by omega) (by omega) ?_ ?_ ?_ ?_ ?_ fun σ' => ⟨fun x => (hQ σ').1 x, fun e0 e1 => (hQ σ').2 (by rw [e0]; simp only [get_put, reduceIte, Nat.reduceEqDiff]) (by rw [e1]; simp only [get_put, reduceIte, Nat.reduceEqDiff])⟩
          · simp only [get_put, reduceIte, Nat.reduceEqDiff, g0]
          · simp only [get_put, reduceIte, Nat.reduceEqDiff, g1]
          · simp only [get_put, reduceIte, Nat.reduceEqDiff, g9]
          · simp only [get_put, reduceIte, Nat.reduceEqDiff, g10]
          · simp only [get_put, reduceIte, Nat.reduceEqDiff]
        · have z3 : (cmpI l[i] m[i] != 0) = true := by simpa using c3
          rw [if_pos c3] at hQ
          simp only [a93_l11, a93_2, a93_3, a93_4, a93_6, a93_7, a93_8, a93_9, wpc_skip, wpc_ops, wpc_draw, wpc_seq, wpc_cond, wpc_block, wpc_loop, wpc_exit, wpc_scope, wpc_ret, seqQ_norm, seqQ_ret, seqQ_exit, blockQ'_norm, blockQ'_ret, blockQ'_exit, roundQ_norm, roundQ_ret, roundQ_exit, condK_true, condK_false, wpo_nil', wpo_none, wpo_tt, wpo_ff, wpo_tf, wpo_ft, opsK_c, isC_none, isC_read, isC_write, wp1_call, callK_ret, wp1_mv', wp1_bin', wp1_un', wp1_eq', wp1_extract', wp1_pick', wp1_len', wp1_load', wp1_conv', wp1_store', wp1_idxAddr', wp1_append', wp1_mkIface', wp1_alloc', rd_t, rd_c, ok_t, ok_c, put_some, put_none, get_put, reduceIte, Nat.reduceEqDiff, AV.bool.injEq, Option.some.injEq, exists_eq_left', Option.map_some, Option.bind_some, opds_nil, opds_cons, opd_t, opd_c, aBin, aInt, decide_true, decide_false, negIf, wp1_nilCheck', wp1_fieldAddr', wp1_slice, op_slice, opdo_some, opdo_none, wp1_lit, op_lit, parts_nil, parts_cons, wp1_build, op_build, wp1_box, op_box, g0, g1, g9, g10, g11, z0, z1, zi, lx, ld, lx2, ld2, nm, wc_eq (cmp92 _ _ _), z3]
          exact (hQ _).1 _ (by simp only [get_put, reduceIte, Nat.reduceEqDiff]) rfl
      · have z1 : ((i : Int) ≥ (m.length : Int)) = True := eq_true (by omega)
        have hd2 : m.drop i = [] := List.drop_of_length_le (by omega)
        rw [hd1, hd2, cmpNs] at hQ
        simp only [a93_l11, a93_2, a93_3, a93_4, a93_5, wpc_skip, wpc_ops, wpc_draw, wpc_seq, wpc_cond, wpc_block, wpc_loop, wpc_exit, wpc_scope, wpc_ret, seqQ_norm, seqQ_ret, seqQ_exit, blockQ'_norm, blockQ'_ret, blockQ'_exit, roundQ_norm, roundQ_ret, roundQ_exit, condK_true, condK_false, wpo_nil', wpo_none, wpo_tt, wpo_ff, wpo_tf, wpo_ft, opsK_c, isC_none, isC_read, isC_write, wp1_call, callK_ret, wp1_mv', wp1_bin', wp1_un', wp1_eq', wp1_extract', wp1_pick', wp1_len', wp1_load', wp1_conv', wp1_store', wp1_idxAddr', wp1_append', wp1_mkIface', wp1_alloc', rd_t, rd_c, ok_t, ok_c, put_some, put_none, get_put, reduceIte, Nat.reduceEqDiff, AV.bool.injEq, Option.some.injEq, exists_eq_left', Option.map_some, Option.bind_some, opds_nil, opds_cons, opd_t, opd_c, aBin, aInt, decide_true, decide_false, negIf, wp1_nilCheck', wp1_fieldAddr', wp1_slice, op_slice, opdo_some, opdo_none, wp1_lit, op_lit, parts_nil, parts_cons, wp1_build, op_build, wp1_box, op_box, g0, g1, g9, g10, g11, z0, z1, zi, lx, ld, nm]
        exact (hQ _).1 _ (by simp only [get_put, reduceIte, Nat.reduceEqDiff]) rfl
    · have z0 : ((i : Int) < (l.length : Int)) = False := eq_false (by omega)
      have hd1 : l.drop i = [] := List.drop_of_length_le (by omega)
      simp only [a93_l11, a93_2, wpc_skip, wpc_ops, wpc_draw, wpc_seq, wpc_cond, wpc_block, wpc_loop, wpc_exit, wpc_scope, wpc_ret, seqQ_norm, seqQ_ret, seqQ_exit, blockQ'_norm, blockQ'_ret, blockQ'_exit, roundQ_norm, roundQ_ret, roundQ_exit, condK_true, condK_false, wpo_nil', wpo_none, wpo_tt, wpo_ff, wpo_tf, wpo_ft, opsK_c, isC_none, isC_read, isC_write, wp1_call, callK_ret, wp1_mv', wp1_bin', wp1_un', wp1_eq', wp1_extract', wp1_pick', wp1_len', wp1_load', wp1_conv', wp1_store', wp1_idxAddr', wp1_append', wp1_mkIface', wp1_alloc', rd_t, rd_c, ok_t, ok_c, put_some, put_none, get_put, reduceIte, Nat.reduceEqDiff, AV.bool.injEq, Option.some.injEq, exists_eq_left', Option.map_some, Option.bind_some, opds_nil, opds_cons, opd_t, opd_c, aBin, aInt, decide_true, decide_false, negIf, wp1_nilCheck', wp1_fieldAddr', wp1_slice, op_slice, opdo_some, opdo_none, wp1_lit, op_lit, parts_nil, parts_cons, wp1_build, op_build, wp1_box, op_box, g10, g11, z0]
      refine (hQ _).2 (by simp only [get_put, reduceIte, Nat.reduceEqDiff]) (by simp only [get_put, reduceIte, Nat.reduceEqDiff]) ⟨List.drop_of_length_le (by omega), ?_⟩
      rw [hd1]
      cases e : m.drop i with
      | nil =>
        have : m.length ≤ i := List.drop_eq_nil_iff.1 e
        rw [if_neg (by omega), cmpNs]
      | cons x y =>
        have : ¬ m.length ≤ i := fun c => by rw [List.drop_of_length_le c] at e; cases e
        rw [if_pos (by omega), cmpNs]
theorem nums_spec (f1 f2 : Option Bool) (l m : List Int) (hl : l.length < 9223372036854775808) (hm : m.length < 9223372036854775808) (h : Heap) : WC env 93 [slAV f1 l.length (u32s l), slAV f2 m.length (u32s m)] h (fun o => o = .ret ⟨.int .i64 (cmpNs l m), h, .none⟩) := by
  refine call_pure rfl rfl rfl (by simp only [AV.noRefs, noRef_sl _ _ (noRefs_u32 _), Bool.and_self]) ?_
  have nl : ∀ h, aLenOp false h (slAV f1 l.length (u32s l)) = some ⟨.int .i64 l.length, h, .none⟩ := fun h => len_sl _ _ _ (fun _ => trivial) h
  have nm : ∀ h, aLenOp false h (slAV f2 m.length (u32s m)) = some ⟨.int .i64 m.length, h, .none⟩ := fun h => len_sl _ _ _ (fun _ => trivial) h
  simp only [a93, a93_0, a93_1, Slots.ofList, wpc_skip, wpc_ops, wpc_draw, wpc_seq, wpc_cond, wpc_block, wpc_loop, wpc_exit, wpc_scope, wpc_ret, seqQ_norm, seqQ_ret, seqQ_exit, blockQ'_norm, blockQ'_ret, blockQ'_exit, roundQ_norm, roundQ_ret, roundQ_exit, condK_true, condK_false, wpo_nil', wpo_none, wpo_tt, wpo_ff, wpo_tf, wpo_ft, opsK_c, isC_none, isC_read, isC_write, wp1_call, callK_ret, wp1_mv', wp1_bin', wp1_un', wp1_eq', wp1_extract', wp1_pick', wp1_len', wp1_load', wp1_conv', wp1_store', wp1_idxAddr', wp1_append', wp1_mkIface', wp1_alloc', rd_t, rd_c, ok_t, ok_c, put_some, put_none, get_put, reduceIte, Nat.reduceEqDiff, AV.bool.injEq, Option.some.injEq, exists_eq_left', Option.map_some, Option.bind_some, opds_nil, opds_cons, opd_t, opd_c, aBin, aInt, decide_true, decide_false, negIf, wp1_nilCheck', wp1_fieldAddr', wp1_slice, op_slice, opdo_some, opdo_none, wp1_lit, op_lit, parts_nil, parts_cons, wp1_build, op_build, wp1_box, op_box, nl]
  refine nums_loop (f1 := f1) (f2 := f2) hl hm (l.length + 1) 0 _ (by omega) (by omega) (by omega) ?_ ?_ ?_ ?_ ?_ fun σ' => ⟨fun x g e => ?_, fun e0 e1 e => ?_⟩
  · simp only [get_put, reduceIte, Nat.reduceEqDiff]
  · simp only [get_put, reduceIte, Nat.reduceEqDiff]
  · simp only [get_put, reduceIte, Nat.reduceEqDiff]
  · simp only [get_put, reduceIte, Nat.reduceEqDiff]
  · simp only [get_put, reduceIte, Nat.reduceEqDiff]; rfl
  · simp only [wpc_skip, wpc_ops, wpc_draw, wpc_seq, wpc_cond, wpc_block, wpc_loop, wpc_exit, wpc_scope, wpc_ret, seqQ_norm, seqQ_ret, seqQ_exit, blockQ'_norm, blockQ'_ret, blockQ'_exit, roundQ_norm, roundQ_ret, roundQ_exit, condK_true, condK_false, wpo_nil', wpo_none, wpo_tt, wpo_ff, wpo_tf, wpo_ft, opsK_c, isC_none, isC_read, isC_write, wp1_call, callK_ret, wp1_mv', wp1_bin', wp1_un', wp1_eq', wp1_extract', wp1_pick', wp1_len', wp1_load', wp1_conv', wp1_store', wp1_idxAddr', wp1_append', wp1_mkIface', wp1_alloc', rd_t, rd_c, ok_t, ok_c, put_some, put_none, get_put, reduceIte, Nat.reduceEqDiff, AV.bool.injEq, Option.some.injEq, exists_eq_left', Option.map_some, Option.bind_some, opds_nil, opds_cons, opd_t, opd_c, aBin, aInt, decide_true, decide_false, negIf, wp1_nilCheck', wp1_fieldAddr', wp1_slice, op_slice, opdo_some, opdo_none, wp1_lit, op_lit, parts_nil, parts_cons, wp1_build, op_build, wp1_box, op_box]
    exact finI g (by rw [e]; rfl)
  · simp only [get_put, reduceIte, Nat.reduceEqDiff] at e0 e1
    by_cases c : l.length < m.length
    · have z : ((l.length : Int) < (m.length : Int)) = True := eq_true (by omega)
      have e := e.2
      rw [if_pos c, List.drop_zero, List.drop_zero] at e
      simp only [a93_12, a93_13, wpc_skip, wpc_ops, wpc_draw, wpc_seq, wpc_cond, wpc_block, wpc_loop, wpc_exit, wpc_scope, wpc_ret, seqQ_norm, seqQ_ret, seqQ_exit, blockQ'_norm, blockQ'_ret, blockQ'_exit, roundQ_norm, roundQ_ret, roundQ_exit, condK_true, condK_false, wpo_nil', wpo_none, wpo_tt, wpo_ff, wpo_tf, wpo_ft, opsK_c, isC_none, isC_read, isC_write, wp1_call, callK_ret, wp1_mv', wp1_bin', wp1_un', wp1_eq', wp1_extract', wp1_pick', wp1_len', wp1_load', wp1_conv', wp1_store', wp1_idxAddr', wp1_append', wp1_mkIface', wp1_alloc', rd_t, rd_c, ok_t, ok_c, put_some, put_none, get_put, reduceIte, Nat.reduceEqDiff, AV.bool.injEq, Option.some.injEq, exists_eq_left', Option.map_some, Option.bind_some, opds_nil, opds_cons, opd_t, opd_c, aBin, aInt, decide_true, decide_false, negIf, wp1_nilCheck', wp1_fieldAddr', wp1_slice, op_slice, opdo_some, opdo_none, wp1_lit, op_lit, parts_nil, parts_cons, wp1_build, op_build, wp1_box, op_box, e0, e1, nl, nm, z]
      exact finI (by simp only [get_put, reduceIte, Nat.reduceEqDiff]; rw [e]) rfl
    · have z : ((l.length : Int) < (m.length : Int)) = False := eq_false (by omega)
      have e := e.2
      rw [if_neg c, List.drop_zero, List.drop_zero] at e
      simp only [a93_12, a93_14, wpc_skip, wpc_ops, wpc_draw, wpc_seq, wpc_cond, wpc_block, wpc_loop, wpc_exit, wpc_scope, wpc_ret, seqQ_norm, seqQ_ret, seqQ_exit, blockQ'_norm, blockQ'_ret, blockQ'_exit, roundQ_norm, roundQ_ret, roundQ_exit, condK_true, condK_false, wpo_nil', wpo_none, wpo_tt, wpo_ff, wpo_tf, wpo_ft, opsK_c, isC_none, isC_read, isC_write, wp1_call, callK_ret, wp1_mv', wp1_bin', wp1_un', wp1_eq', wp1_extract', wp1_pick', wp1_len', wp1_load', wp1_conv', wp1_store', wp1_idxAddr', wp1_append', wp1_mkIface', wp1_alloc', rd_t, rd_c, ok_t, ok_c, put_some, put_none, get_put, reduceIte, Nat.reduceEqDiff, AV.bool.injEq, Option.some.injEq, exists_eq_left', Option.map_some, Option.bind_some, opds_nil, opds_cons, opd_t, opd_c, aBin, aInt, decide_true, decide_false, negIf, wp1_nilCheck', wp1_fieldAddr', wp1_slice, op_slice, opdo_some, opdo_none, wp1_lit, op_lit, parts_nil, parts_cons, wp1_build, op_build, wp1_box, op_box, e0, e1, nl, nm, z]
      exact finI (by simp only [get_put, reduceIte, Nat.reduceEqDiff]; rw [e]) rfl
end Go.Bf
