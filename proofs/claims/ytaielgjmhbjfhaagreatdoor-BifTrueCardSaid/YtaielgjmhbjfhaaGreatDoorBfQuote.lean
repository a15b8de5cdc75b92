/-
  What Quote answers: is a text an atom's?
-/
import Derived.Test.YtaielgjmhbjfhaaGreatDoorBfInt
set_option linter.unusedVariables false
set_option linter.unusedSimpArgs false
set_option maxRecDepth 20000
namespace Go.Bf
open Go.AM

def kindF (c : Int) : Int := if 97 ≤ c ∧ c ≤ 122 then 1 else if 65 ≤ c ∧ c ≤ 90 then 2 else if 48 ≤ c ∧ c ≤ 57 then 3 else if c = 95 ∨ c = 64 then 4 else 0
theorem kind_spec (c : Int) (h : Heap) : WC env 153 [.int .u8 c] h (fun o => o = .ret ⟨.int .i64 (kindF c), h, .none⟩) := by
  refine call_pure rfl rfl rfl rfl ?_
  have fin : ∀ {σ : Slots} {h' : Heap}, σ.get 2 = .int .i64 (kindF c) → pureQ env [.tmp 2] h (fun o => o = .ret ⟨.int .i64 (kindF c), h, .none⟩) .ret ⟨σ, h'⟩ := fun {σ h'} g => ⟨[.int .i64 (kindF c)], _, by simp only [Env.results, Option.map_some, g], (frz_noRef (v := .int .i64 (kindF c)) rfl).2 rfl, rfl⟩
  by_cases a1 : c ≥ 97
  · have z1 : (c ≥ 97) = True := eq_true a1
    by_cases a2 : c ≤ 122
    · have z2 : (c ≤ 122) = True := eq_true a2
      simp only [a153, a153_0, a153_1, a153_2, Slots.ofList, wpc_skip, wpc_ops, wpc_draw, wpc_seq, wpc_cond, wpc_block, wpc_loop, wpc_exit, wpc_scope, wpc_ret, seqQ_norm, seqQ_ret, seqQ_exit, blockQ'_norm, blockQ'_ret, blockQ'_exit, roundQ_norm, roundQ_ret, roundQ_exit, condK_true, condK_false, wpo_nil', wpo_none, wpo_tt, wpo_ff, wpo_tf, wpo_ft, opsK_c, isC_none, isC_read, isC_write, wp1_call, callK_ret, wp1_mv', wp1_bin', wp1_un', wp1_eq', wp1_extract', wp1_pick', wp1_len', wp1_load', wp1_conv', wp1_store', wp1_idxAddr', wp1_append', wp1_mkIface', wp1_alloc', rd_t, rd_c, ok_t, ok_c, put_some, put_none, get_put, reduceIte, Nat.reduceEqDiff, AV.bool.injEq, Option.some.injEq, exists_eq_left', Option.map_some, Option.bind_some, opds_nil, opds_cons, opd_t, opd_c, aBin, aInt, decide_true, decide_false, negIf, wp1_nilCheck', wp1_fieldAddr', wp1_slice, op_slice, opdo_some, opdo_none, wp1_lit, op_lit, parts_nil, parts_cons, wp1_build, op_build, wp1_box, op_box, z1, z2, aPick]
      refine fin ?_
      simp only [get_put, reduceIte, Nat.reduceEqDiff]
      rw [kindF, if_pos ⟨a1, a2⟩]
    · have z2 : (c ≤ 122) = False := eq_false a2
      have z3 : (c ≥ 65) = True := eq_true (by omega)
      have z4 : (c ≤ 90) = False := eq_false (by omega)
      have z5 : (c ≥ 48) = True := eq_true (by omega)
      have z6 : (c ≤ 57) = False := eq_false (by omega)
      have z7 : (c == 95) = false := by simp; omega
      have z8 : (c == 64) = false := by simp; omega
      simp only [a153, a153_0, a153_1, a153_3, a153_5, a153_7, a153_9, Slots.ofList, wpc_skip, wpc_ops, wpc_draw, wpc_seq, wpc_cond, wpc_block, wpc_loop, wpc_exit, wpc_scope, wpc_ret, seqQ_norm, seqQ_ret, seqQ_exit, blockQ'_norm, blockQ'_ret, blockQ'_exit, roundQ_norm, roundQ_ret, roundQ_exit, condK_true, condK_false, wpo_nil', wpo_none, wpo_tt, wpo_ff, wpo_tf, wpo_ft, opsK_c, isC_none, isC_read, isC_write, wp1_call, callK_ret, wp1_mv', wp1_bin', wp1_un', wp1_eq', wp1_extract', wp1_pick', wp1_len', wp1_load', wp1_conv', wp1_store', wp1_idxAddr', wp1_append', wp1_mkIface', wp1_alloc', rd_t, rd_c, ok_t, ok_c, put_some, put_none, get_put, reduceIte, Nat.reduceEqDiff, AV.bool.injEq, Option.some.injEq, exists_eq_left', Option.map_some, Option.bind_some, opds_nil, opds_cons, opd_t, opd_c, aBin, aInt, decide_true, decide_false, negIf, wp1_nilCheck', wp1_fieldAddr', wp1_slice, op_slice, opdo_some, opdo_none, wp1_lit, op_lit, parts_nil, parts_cons, wp1_build, op_build, wp1_box, op_box, z1, z2, z3, z4, z5, z6, z7, z8, aPick]
      refine fin ?_
      simp only [get_put, reduceIte, Nat.reduceEqDiff]
      rw [kindF, if_neg (by omega), if_neg (by omega), if_neg (by omega), if_neg (by omega)]
  have z1 : (c ≥ 97) = False := eq_false a1
  by_cases a3 : c ≥ 65
  · have z3 : (c ≥ 65) = True := eq_true a3
    by_cases a4 : c ≤ 90
    · have z4 : (c ≤ 90) = True := eq_true a4
      simp only [a153, a153_0, a153_1, a153_3, a153_4, Slots.ofList, wpc_skip, wpc_ops, wpc_draw, wpc_seq, wpc_cond, wpc_block, wpc_loop, wpc_exit, wpc_scope, wpc_ret, seqQ_norm, seqQ_ret, seqQ_exit, blockQ'_norm, blockQ'_ret, blockQ'_exit, roundQ_norm, roundQ_ret, roundQ_exit, condK_true, condK_false, wpo_nil', wpo_none, wpo_tt, wpo_ff, wpo_tf, wpo_ft, opsK_c, isC_none, isC_read, isC_write, wp1_call, callK_ret, wp1_mv', wp1_bin', wp1_un', wp1_eq', wp1_extract', wp1_pick', wp1_len', wp1_load', wp1_conv', wp1_store', wp1_idxAddr', wp1_append', wp1_mkIface', wp1_alloc', rd_t, rd_c, ok_t, ok_c, put_some, put_none, get_put, reduceIte, Nat.reduceEqDiff, AV.bool.injEq, Option.some.injEq, exists_eq_left', Option.map_some, Option.bind_some, opds_nil, opds_cons, opd_t, opd_c, aBin, aInt, decide_true, decide_false, negIf, wp1_nilCheck', wp1_fieldAddr', wp1_slice, op_slice, opdo_some, opdo_none, wp1_lit, op_lit, parts_nil, parts_cons, wp1_build, op_build, wp1_box, op_box, z1, z3, z4, aPick]
      refine fin ?_
      simp only [get_put, reduceIte, Nat.reduceEqDiff]
      rw [kindF, if_neg (by omega), if_pos ⟨a3, a4⟩]
    · have z4 : (c ≤ 90) = False := eq_false a4
      have z5 : (c ≥ 48) = True := eq_true (by omega)
      have z6 : (c ≤ 57) = False := eq_false (by omega)
      have z8 : (c == 64) = false := by simp; omega
      by_cases a7 : c = 95
      · have z7 : (c == 95) = true := by simp [a7]
        simp only [a153, a153_0, a153_1, a153_3, a153_5, a153_7, a153_8, Slots.ofList, wpc_skip, wpc_ops, wpc_draw, wpc_seq, wpc_cond, wpc_block, wpc_loop, wpc_exit, wpc_scope, wpc_ret, seqQ_norm, seqQ_ret, seqQ_exit, blockQ'_norm, blockQ'_ret, blockQ'_exit, roundQ_norm, roundQ_ret, roundQ_exit, condK_true, condK_false, wpo_nil', wpo_none, wpo_tt, wpo_ff, wpo_tf, wpo_ft, opsK_c, isC_none, isC_read, isC_write, wp1_call, callK_ret, wp1_mv', wp1_bin', wp1_un', wp1_eq', wp1_extract', wp1_pick', wp1_len', wp1_load', wp1_conv', wp1_store', wp1_idxAddr', wp1_append', wp1_mkIface', wp1_alloc', rd_t, rd_c, ok_t, ok_c, put_some, put_none, get_put, reduceIte, Nat.reduceEqDiff, AV.bool.injEq, Option.some.injEq, exists_eq_left', Option.map_some, Option.bind_some, opds_nil, opds_cons, opd_t, opd_c, aBin, aInt, decide_true, decide_false, negIf, wp1_nilCheck', wp1_fieldAddr', wp1_slice, op_slice, opdo_some, opdo_none, wp1_lit, op_lit, parts_nil, parts_cons, wp1_build, op_build, wp1_box, op_box, z1, z3, z4, z5, z6, z7, aPick]
        refine fin ?_
        simp only [get_put, reduceIte, Nat.reduceEqDiff]
        rw [kindF, if_neg (by omega), if_neg (by omega), if_neg (by omega), if_pos (.inl a7)]
      · have z7 : (c == 95) = false := by simpa using a7
        simp only [a153, a153_0, a153_1, a153_3, a153_5, a153_7, a153_9, Slots.ofList, wpc_skip, wpc_ops, wpc_draw, wpc_seq, wpc_cond, wpc_block, wpc_loop, wpc_exit, wpc_scope, wpc_ret, seqQ_norm, seqQ_ret, seqQ_exit, blockQ'_norm, blockQ'_ret, blockQ'_exit, roundQ_norm, roundQ_ret, roundQ_exit, condK_true, condK_false, wpo_nil', wpo_none, wpo_tt, wpo_ff, wpo_tf, wpo_ft, opsK_c, isC_none, isC_read, isC_write, wp1_call, callK_ret, wp1_mv', wp1_bin', wp1_un', wp1_eq', wp1_extract', wp1_pick', wp1_len', wp1_load', wp1_conv', wp1_store', wp1_idxAddr', wp1_append', wp1_mkIface', wp1_alloc', rd_t, rd_c, ok_t, ok_c, put_some, put_none, get_put, reduceIte, Nat.reduceEqDiff, AV.bool.injEq, Option.some.injEq, exists_eq_left', Option.map_some, Option.bind_some, opds_nil, opds_cons, opd_t, opd_c, aBin, aInt, decide_true, decide_false, negIf, wp1_nilCheck', wp1_fieldAddr', wp1_slice, op_slice, opdo_some, opdo_none, wp1_lit, op_lit, parts_nil, parts_cons, wp1_build, op_build, wp1_box, op_box, z1, z3, z4, z5, z6, z7, z8, aPick]
        refine fin ?_
        simp only [get_put, reduceIte, Nat.reduceEqDiff]
        rw [kindF, if_neg (by omega), if_neg (by omega), if_neg (by omega), if_neg (by omega)]
  have z3 : (c ≥ 65) = False := eq_false a3
  have z7 : (c == 95) = false := by simp; omega
  have tail4 : c = 64 ∨ c ≠ 64 := Classical.em _
  by_cases a5 : c ≥ 48
  · have z5 : (c ≥ 48) = True := eq_true a5
    by_cases a6 : c ≤ 57
    · have z6 : (c ≤ 57) = True := eq_true a6
      simp only [a153, a153_0, a153_1, a153_3, a153_5, a153_6, Slots.ofList, wpc_skip, wpc_ops, wpc_draw, wpc_seq, wpc_cond, wpc_block, wpc_loop, wpc_exit, wpc_scope, wpc_ret, seqQ_norm, seqQ_ret, seqQ_exit, blockQ'_norm, blockQ'_ret, blockQ'_exit, roundQ_norm, roundQ_ret, roundQ_exit, condK_true, condK_false, wpo_nil', wpo_none, wpo_tt, wpo_ff, wpo_tf, wpo_ft, opsK_c, isC_none, isC_read, isC_write, wp1_call, callK_ret, wp1_mv', wp1_bin', wp1_un', wp1_eq', wp1_extract', wp1_pick', wp1_len', wp1_load', wp1_conv', wp1_store', wp1_idxAddr', wp1_append', wp1_mkIface', wp1_alloc', rd_t, rd_c, ok_t, ok_c, put_some, put_none, get_put, reduceIte, Nat.reduceEqDiff, AV.bool.injEq, Option.some.injEq, exists_eq_left', Option.map_some, Option.bind_some, opds_nil, opds_cons, opd_t, opd_c, aBin, aInt, decide_true, decide_false, negIf, wp1_nilCheck', wp1_fieldAddr', wp1_slice, op_slice, opdo_some, opdo_none, wp1_lit, op_lit, parts_nil, parts_cons, wp1_build, op_build, wp1_box, op_box, z1, z3, z5, z6, aPick]
      refine fin ?_
      simp only [get_put, reduceIte, Nat.reduceEqDiff]
      rw [kindF, if_neg (by omega), if_neg (by omega), if_pos ⟨a5, a6⟩]
    · have z6 : (c ≤ 57) = False := eq_false a6
      by_cases a8 : c = 64
      · have z8 : (c == 64) = true := by simp [a8]
        simp only [a153, a153_0, a153_1, a153_3, a153_5, a153_7, a153_8, Slots.ofList, wpc_skip, wpc_ops, wpc_draw, wpc_seq, wpc_cond, wpc_block, wpc_loop, wpc_exit, wpc_scope, wpc_ret, seqQ_norm, seqQ_ret, seqQ_exit, blockQ'_norm, blockQ'_ret, blockQ'_exit, roundQ_norm, roundQ_ret, roundQ_exit, condK_true, condK_false, wpo_nil', wpo_none, wpo_tt, wpo_ff, wpo_tf, wpo_ft, opsK_c, isC_none, isC_read, isC_write, wp1_call, callK_ret, wp1_mv', wp1_bin', wp1_un', wp1_eq', wp1_extract', wp1_pick', wp1_len', wp1_load', wp1_conv', wp1_store', wp1_idxAddr', wp1_append', wp1_mkIface', wp1_alloc', rd_t, rd_c, ok_t, ok_c, put_some, put_none, get_put, reduceIte, Nat.reduceEqDiff, AV.bool.injEq, Option.some.injEq, exists_eq_left', Option.map_some, Option.bind_some, opds_nil, opds_cons, opd_t, opd_c, aBin, aInt, decide_true, decide_false, negIf, wp1_nilCheck', wp1_fieldAddr', wp1_slice, op_slice, opdo_some, opdo_none, wp1_lit, op_lit, parts_nil, parts_cons, wp1_build, op_build, wp1_box, op_box, z1, z3, z5, z6, z7, z8, aPick]
        refine fin ?_
        simp only [get_put, reduceIte, Nat.reduceEqDiff]
        rw [kindF, if_neg (by omega), if_neg (by omega), if_neg (by omega), if_pos (.inr a8)]
      · have z8 : (c == 64) = false := by simpa using a8
        simp only [a153, a153_0, a153_1, a153_3, a153_5, a153_7, a153_9, Slots.ofList, wpc_skip, wpc_ops, wpc_draw, wpc_seq, wpc_cond, wpc_block, wpc_loop, wpc_exit, wpc_scope, wpc_ret, seqQ_norm, seqQ_ret, seqQ_exit, blockQ'_norm, blockQ'_ret, blockQ'_exit, roundQ_norm, roundQ_ret, roundQ_exit, condK_true, condK_false, wpo_nil', wpo_none, wpo_tt, wpo_ff, wpo_tf, wpo_ft, opsK_c, isC_none, isC_read, isC_write, wp1_call, callK_ret, wp1_mv', wp1_bin', wp1_un', wp1_eq', wp1_extract', wp1_pick', wp1_len', wp1_load', wp1_conv', wp1_store', wp1_idxAddr', wp1_append', wp1_mkIface', wp1_alloc', rd_t, rd_c, ok_t, ok_c, put_some, put_none, get_put, reduceIte, Nat.reduceEqDiff, AV.bool.injEq, Option.some.injEq, exists_eq_left', Option.map_some, Option.bind_some, opds_nil, opds_cons, opd_t, opd_c, aBin, aInt, decide_true, decide_false, negIf, wp1_nilCheck', wp1_fieldAddr', wp1_slice, op_slice, opdo_some, opdo_none, wp1_lit, op_lit, parts_nil, parts_cons, wp1_build, op_build, wp1_box, op_box, z1, z3, z5, z6, z7, z8, aPick]
        refine fin ?_
        simp only [get_put, reduceIte, Nat.reduceEqDiff]
        rw [kindF, if_neg (by omega), if_neg (by omega), if_neg (by omega), if_neg (by omega)]
  · have z5 : (c ≥ 48) = False := eq_false a5
    have z8 : (c == 64) = false := by simp; omega
    simp only [a153, a153_0, a153_1, a153_3, a153_5, a153_7, a153_9, Slots.ofList, wpc_skip, wpc_ops, wpc_draw, wpc_seq, wpc_cond, wpc_block, wpc_loop, wpc_exit, wpc_scope, wpc_ret, seqQ_norm, seqQ_ret, seqQ_exit, blockQ'_norm, blockQ'_ret, blockQ'_exit, roundQ_norm, roundQ_ret, roundQ_exit, condK_true, condK_false, wpo_nil', wpo_none, wpo_tt, wpo_ff, wpo_tf, wpo_ft, opsK_c, isC_none, isC_read, isC_write, wp1_call, callK_ret, wp1_mv', wp1_bin', wp1_un', wp1_eq', wp1_extract', wp1_pick', wp1_len', wp1_load', wp1_conv', wp1_store', wp1_idxAddr', wp1_append', wp1_mkIface', wp1_alloc', rd_t, rd_c, ok_t, ok_c, put_some, put_none, get_put, reduceIte, Nat.reduceEqDiff, AV.bool.injEq, Option.some.injEq, exists_eq_left', Option.map_some, Option.bind_some, opds_nil, opds_cons, opd_t, opd_c, aBin, aInt, decide_true, decide_false, negIf, wp1_nilCheck', wp1_fieldAddr', wp1_slice, op_slice, opdo_some, opdo_none, wp1_lit, op_lit, parts_nil, parts_cons, wp1_build, op_build, wp1_box, op_box, z1, z3, z5, z7, z8, aPick]
    refine fin ?_
    simp only [get_put, reduceIte, Nat.reduceEqDiff]
    rw [kindF, if_neg (by omega), if_neg (by omega), if_neg (by omega), if_neg (by omega)]
end Go.Bf
/-
  What Quote answers, go on: the texts that are none are told; else it writes something.
-/
set_option linter.unusedVariables false
set_option linter.unusedSimpArgs false
set_option maxRecDepth 20000
namespace Go.Bf
open Go.AM

theorem reserved_spec (s : List UInt8) : ∃ b, ∀ h, WC env 160 [.str s] h (fun o => o = .ret ⟨.bool b, h, .none⟩) := by
  by_cases e0 : s = [97, 102, 116, 101, 114]
  · subst e0; exact ⟨true, fun h => wc_run (n := 30) (by kernel_rfl)⟩
  by_cases e1 : s = [97, 110, 100]
  · subst e1; exact ⟨true, fun h => wc_run (n := 30) (by kernel_rfl)⟩
  by_cases e2 : s = [97, 110, 100, 97, 108, 115, 111]
  · subst e2; exact ⟨true, fun h => wc_run (n := 30) (by kernel_rfl)⟩
  by_cases e3 : s = [98, 101, 103, 105, 110]
  · subst e3; exact ⟨true, fun h => wc_run (n := 30) (by kernel_rfl)⟩
  by_cases e4 : s = [99, 97, 115, 101]
  · subst e4; exact ⟨true, fun h => wc_run (n := 30) (by kernel_rfl)⟩
  by_cases e5 : s = [99, 97, 116, 99, 104]
  · subst e5; exact ⟨true, fun h => wc_run (n := 30) (by kernel_rfl)⟩
  by_cases e6 : s = [100, 105, 118]
  · subst e6; exact ⟨true, fun h => wc_run (n := 30) (by kernel_rfl)⟩
  by_cases e7 : s = [101, 110, 100]
  · subst e7; exact ⟨true, fun h => wc_run (n := 30) (by kernel_rfl)⟩
  by_cases e8 : s = [102, 117, 110]
  · subst e8; exact ⟨true, fun h => wc_run (n := 30) (by kernel_rfl)⟩
  by_cases e9 : s = [105, 102]
  · subst e9; exact ⟨true, fun h => wc_run (n := 30) (by kernel_rfl)⟩
  by_cases e10 : s = [110, 111, 116]
  · subst e10; exact ⟨true, fun h => wc_run (n := 30) (by kernel_rfl)⟩
  by_cases e11 : s = [111, 102]
  · subst e11; exact ⟨true, fun h => wc_run (n := 30) (by kernel_rfl)⟩
  by_cases e12 : s = [111, 114]
  · subst e12; exact ⟨true, fun h => wc_run (n := 30) (by kernel_rfl)⟩
  by_cases e13 : s = [111, 114, 101, 108, 115, 101]
  · subst e13; exact ⟨true, fun h => wc_run (n := 30) (by kernel_rfl)⟩
  by_cases e14 : s = [114, 101, 99, 101, 105, 118, 101]
  · subst e14; exact ⟨true, fun h => wc_run (n := 30) (by kernel_rfl)⟩
  by_cases e15 : s = [114, 101, 109]
  · subst e15; exact ⟨true, fun h => wc_run (n := 30) (by kernel_rfl)⟩
  by_cases e16 : s = [116, 114, 121]
  · subst e16; exact ⟨true, fun h => wc_run (n := 30) (by kernel_rfl)⟩
  by_cases e17 : s = [119, 104, 101, 110]
  · subst e17; exact ⟨true, fun h => wc_run (n := 30) (by kernel_rfl)⟩
  by_cases e18 : s = [120, 111, 114]
  · subst e18; exact ⟨true, fun h => wc_run (n := 30) (by kernel_rfl)⟩
  refine ⟨false, fun h => call_pure rfl rfl rfl rfl ?_⟩
  have z0 : (s == [97, 102, 116, 101, 114]) = false := by simpa using e0
  have z1 : (s == [97, 110, 100]) = false := by simpa using e1
  have z2 : (s == [97, 110, 100, 97, 108, 115, 111]) = false := by simpa using e2
  have z3 : (s == [98, 101, 103, 105, 110]) = false := by simpa using e3
  have z4 : (s == [99, 97, 115, 101]) = false := by simpa using e4
  have z5 : (s == [99, 97, 116, 99, 104]) = false := by simpa using e5
  have z6 : (s == [100, 105, 118]) = false := by simpa using e6
  have z7 : (s == [101, 110, 100]) = false := by simpa using e7
  have z8 : (s == [102, 117, 110]) = false := by simpa using e8
  have z9 : (s == [105, 102]) = false := by simpa using e9
  have z10 : (s == [110, 111, 116]) = false := by simpa using e10
  have z11 : (s == [111, 102]) = false := by simpa using e11
  have z12 : (s == [111, 114]) = false := by simpa using e12
  have z13 : (s == [111, 114, 101, 108, 115, 101]) = false := by simpa using e13
  have z14 : (s == [114, 101, 99, 101, 105, 118, 101]) = false := by simpa using e14
  have z15 : (s == [114, 101, 109]) = false := by simpa using e15
  have z16 : (s == [116, 114, 121]) = false := by simpa using e16
  have z17 : (s == [119, 104, 101, 110]) = false := by simpa using e17
  have z18 : (s == [120, 111, 114]) = false := by simpa using e18
  simp only [a160, a160_0, a160_1, a160_2, a160_3, a160_4, a160_5, a160_6, a160_7, a160_8, a160_9, a160_10, a160_11, a160_12, a160_13, a160_14, a160_15, a160_16, a160_17, a160_18, a160_19, a160_20, a160_22, Slots.ofList, wpc_skip, wpc_ops, wpc_draw, wpc_seq, wpc_cond, wpc_block, wpc_loop, wpc_exit, wpc_scope, wpc_ret, seqQ_norm, seqQ_ret, seqQ_exit, blockQ'_norm, blockQ'_ret, blockQ'_exit, roundQ_norm, roundQ_ret, roundQ_exit, condK_true, condK_false, wpo_nil', wpo_none, wpo_tt, wpo_ff, wpo_tf, wpo_ft, opsK_c, isC_none, isC_read, isC_write, wp1_call, callK_ret, wp1_mv', wp1_bin', wp1_un', wp1_eq', wp1_extract', wp1_pick', wp1_len', wp1_load', wp1_conv', wp1_store', wp1_idxAddr', wp1_append', wp1_mkIface', wp1_alloc', rd_t, rd_c, ok_t, ok_c, put_some, put_none, get_put, reduceIte, Nat.reduceEqDiff, AV.bool.injEq, Option.some.injEq, exists_eq_left', Option.map_some, Option.bind_some, opds_nil, opds_cons, opd_t, opd_c, aBin, aInt, decide_true, decide_false, negIf, wp1_nilCheck', wp1_fieldAddr', wp1_slice, op_slice, opdo_some, opdo_none, wp1_lit, op_lit, parts_nil, parts_cons, wp1_build, op_build, wp1_box, op_box, aStr, z0, z1, z2, z3, z4, z5, z6, z7, z8, z9, z10, z11, z12, z13, z14, z15, z16, z17, z18]
  exact ⟨[.bool false], _, by simp only [Env.results, Option.map_some, get_put, reduceIte, Nat.reduceEqDiff], (frz_noRef (v := .bool false) rfl).2 rfl, rfl⟩

def idxS (v b : AV) : Option AV := match v with
  | .str s => (aIndex s.length b).bind fun j => (s[j]?).map byteAV
  | _ => none
theorem op_idxStr {σ : Slots} {h : Heap} {x i : Opd} : env.op σ h (.idxStr x i) = (env.opd σ x).bind fun v => (env.opd σ i).bind fun b => (idxS v b).map fun u => ⟨u, h, .none⟩ := by
  show ((env.opd σ x).bind fun
    | .str s => (env.opd σ i).bind fun b => (aIndex s.length b).bind fun j => (s[j]?).map fun c => (⟨byteAV c, h, .none⟩ : OpRes)
    | _ => none) = _
  cases hx : env.opd σ x with
  | none => rfl
  | some v =>
    cases hi : env.opd σ i with
    | none => cases v <;> rfl
    | some b =>
      cases v <;> try rfl
      rename_i s
      simp only [Option.bind_some, idxS]
      cases aIndex s.length b with
      | none => rfl
      | some j =>
        simp only [Option.bind_some]
        cases s[j]? <;> rfl
theorem idxS_at {s : List UInt8} {i : Nat} (hi : i < s.length) : idxS (.str s) (.int .i64 i) = some (.int .u8 s[i].toNat) := by
  have hidx : aIndex s.length (.int .i64 i) = some i := by
    have h0 : (0 : Int) ≤ i := Int.natCast_nonneg i
    have h2 : (i : Int) < s.length := by exact_mod_cast hi
    simp [aIndex, h0, h2]
  simp only [idxS, hidx, Option.bind_some, List.getElem?_eq_getElem hi, Option.map_some, byteAV]

theorem word_spec {s : List UInt8} (hs : s.length < 1000000) : ∀ (f i : Nat), s.length - i < f → i ≤ s.length → ∃ n : Int, ∀ h, WC env 159 [.str s, .int .i64 i] h (fun o => o = .ret ⟨.int .i64 n, h, .none⟩) := by
  have key : ∀ (f i : Nat), s.length - i < f → i ≤ s.length → ∃ n : Int, ∀ (h : Heap) (σ : Slots) (Q : AExit → St → Prop), σ.get 0 = .str s → σ.get 1 = .int .i64 i → (∀ σ', σ'.get 1 = .int .i64 n → Q (.exit 0) ⟨σ', h⟩) → WPr env a159_l3 ⟨σ, h⟩ Q := by
    intro f
    induction f with
    | zero => intro i h; omega
    | succ f ih =>
      intro i hf hi
      have en : ∀ h, aLenOp true h (.str s) = some ⟨.int .i64 s.length, h, .none⟩ := fun h => rfl
      by_cases c : i < s.length
      · have z0 : ((i : Int) < (s.length : Int)) = True := eq_true (by omega)
        have ix := idxS_at c
        by_cases k : kindF (s[i].toNat : Int) = 0
        · have z1 : (kindF (s[i].toNat : Int) != 0) = false := by simp [k]
          refine ⟨i, fun h σ Q g0 g1 hQ => wpr_round' fun b hb => ?_⟩
          simp only [a159_l3, a159_1, wpc_skip, wpc_ops, wpc_draw, wpc_seq, wpc_cond, wpc_block, wpc_loop, wpc_exit, wpc_scope, wpc_ret, seqQ_norm, seqQ_ret, seqQ_exit, blockQ'_norm, blockQ'_ret, blockQ'_exit, roundQ_norm, roundQ_ret, roundQ_exit, condK_true, condK_false, wpo_nil', wpo_none, wpo_tt, wpo_ff, wpo_tf, wpo_ft, opsK_c, isC_none, isC_read, isC_write, wp1_call, callK_ret, wp1_mv', wp1_bin', wp1_un', wp1_eq', wp1_extract', wp1_pick', wp1_len', wp1_load', wp1_conv', wp1_store', wp1_idxAddr', wp1_append', wp1_mkIface', wp1_alloc', rd_t, rd_c, ok_t, ok_c, put_some, put_none, get_put, reduceIte, Nat.reduceEqDiff, AV.bool.injEq, Option.some.injEq, exists_eq_left', Option.map_some, Option.bind_some, opds_nil, opds_cons, opd_t, opd_c, aBin, aInt, decide_true, decide_false, negIf, wp1_nilCheck', wp1_fieldAddr', wp1_slice, op_slice, opdo_some, opdo_none, wp1_lit, op_lit, parts_nil, parts_cons, wp1_build, op_build, wp1_box, op_box, wp1_idxStr, op_idxStr, g0, g1, en, z0, ix, wc_eq (kind_spec _ _), z1, aPick]
          refine hQ _ ?_
          simp only [get_put, reduceIte, Nat.reduceEqDiff, g1]
        · have z1 : (kindF (s[i].toNat : Int) != 0) = true := by simpa using k
          · have z2 : IntKind.wrap .i64 ((i : Int) + 1) = ((i + 1 : Nat) : Int) := wrap_nat (by omega) (by omega)
            obtain ⟨n, hn⟩ := ih (i + 1) (by omega) (by omega)
            refine ⟨n, fun h σ Q g0 g1 hQ => wpr_round' fun b hb => ?_⟩
            simp only [a159_l3, a159_1, a159_2, wpc_skip, wpc_ops, wpc_draw, wpc_seq, wpc_cond, wpc_block, wpc_loop, wpc_exit, wpc_scope, wpc_ret, seqQ_norm, seqQ_ret, seqQ_exit, blockQ'_norm, blockQ'_ret, blockQ'_exit, roundQ_norm, roundQ_ret, roundQ_exit, condK_true, condK_false, wpo_nil', wpo_none, wpo_tt, wpo_ff, wpo_tf, wpo_ft, opsK_c, isC_none, isC_read, isC_write, wp1_call, callK_ret, wp1_mv', wp1_bin', wp1_un', wp1_eq', wp1_extract', wp1_pick', wp1_len', wp1_load', wp1_conv', wp1_store', wp1_idxAddr', wp1_append', wp1_mkIface', wp1_alloc', rd_t, rd_c, ok_t, ok_c, put_some, put_none, get_put, reduceIte, Nat.reduceEqDiff, AV.bool.injEq, Option.some.injEq, exists_eq_left', Option.map_some, Option.bind_some, opds_nil, opds_cons, opd_t, opd_c, aBin, aInt, decide_true, decide_false, negIf, wp1_nilCheck', wp1_fieldAddr', wp1_slice, op_slice, opdo_some, opdo_none, wp1_lit, op_lit, parts_nil, parts_cons, wp1_build, op_build, wp1_box, op_box, wp1_idxStr, op_idxStr, g0, g1, en, z0, ix, wc_eq (kind_spec _ _), z1, aPick, z2]
            subst hb
            refine hn h _ Q ?_ ?_ hQ
            · simp only [get_put, reduceIte, Nat.reduceEqDiff, g0]
            · simp only [get_put, reduceIte, Nat.reduceEqDiff]
      · have z0 : ((i : Int) < (s.length : Int)) = False := eq_false (by omega)
        refine ⟨i, fun h σ Q g0 g1 hQ => wpr_round' fun b hb => ?_⟩
        simp only [a159_l3, a159_1, wpc_skip, wpc_ops, wpc_draw, wpc_seq, wpc_cond, wpc_block, wpc_loop, wpc_exit, wpc_scope, wpc_ret, seqQ_norm, seqQ_ret, seqQ_exit, blockQ'_norm, blockQ'_ret, blockQ'_exit, roundQ_norm, roundQ_ret, roundQ_exit, condK_true, condK_false, wpo_nil', wpo_none, wpo_tt, wpo_ff, wpo_tf, wpo_ft, opsK_c, isC_none, isC_read, isC_write, wp1_call, callK_ret, wp1_mv', wp1_bin', wp1_un', wp1_eq', wp1_extract', wp1_pick', wp1_len', wp1_load', wp1_conv', wp1_store', wp1_idxAddr', wp1_append', wp1_mkIface', wp1_alloc', rd_t, rd_c, ok_t, ok_c, put_some, put_none, get_put, reduceIte, Nat.reduceEqDiff, AV.bool.injEq, Option.some.injEq, exists_eq_left', Option.map_some, Option.bind_some, opds_nil, opds_cons, opd_t, opd_c, aBin, aInt, decide_true, decide_false, negIf, wp1_nilCheck', wp1_fieldAddr', wp1_slice, op_slice, opdo_some, opdo_none, wp1_lit, op_lit, parts_nil, parts_cons, wp1_build, op_build, wp1_box, op_box, wp1_idxStr, g0, g1, en, z0, aPick]
        refine hQ _ ?_
        simp only [get_put, reduceIte, Nat.reduceEqDiff, g1]
  intro f i hf hi
  obtain ⟨n, hn⟩ := key f i hf hi
  refine ⟨n, fun h => call_pure rfl rfl rfl rfl ?_⟩
  simp only [a159, a159_0, Slots.ofList, wpc_skip, wpc_ops, wpc_draw, wpc_seq, wpc_cond, wpc_block, wpc_loop, wpc_exit, wpc_scope, wpc_ret, seqQ_norm, seqQ_ret, seqQ_exit, blockQ'_norm, blockQ'_ret, blockQ'_exit, roundQ_norm, roundQ_ret, roundQ_exit, condK_true, condK_false, wpo_nil', wpo_none, wpo_tt, wpo_ff, wpo_tf, wpo_ft, opsK_c, isC_none, isC_read, isC_write, wp1_call, callK_ret, wp1_mv', wp1_bin', wp1_un', wp1_eq', wp1_extract', wp1_pick', wp1_len', wp1_load', wp1_conv', wp1_store', wp1_idxAddr', wp1_append', wp1_mkIface', wp1_alloc', rd_t, rd_c, ok_t, ok_c, put_some, put_none, get_put, reduceIte, Nat.reduceEqDiff, AV.bool.injEq, Option.some.injEq, exists_eq_left', Option.map_some, Option.bind_some, opds_nil, opds_cons, opd_t, opd_c, aBin, aInt, decide_true, decide_false, negIf, wp1_nilCheck', wp1_fieldAddr', wp1_slice, op_slice, opdo_some, opdo_none, wp1_lit, op_lit, parts_nil, parts_cons, wp1_build, op_build, wp1_box, op_box]
  refine hn _ _ _ ?_ ?_ fun σ' g1 => ?_
  · simp only [get_put, reduceIte, Nat.reduceEqDiff] <;> rfl
  · simp only [get_put, reduceIte, Nat.reduceEqDiff] <;> rfl
  simp only [a159_4, wpc_skip, wpc_ops, wpc_draw, wpc_seq, wpc_cond, wpc_block, wpc_loop, wpc_exit, wpc_scope, wpc_ret, seqQ_norm, seqQ_ret, seqQ_exit, blockQ'_norm, blockQ'_ret, blockQ'_exit, roundQ_norm, roundQ_ret, roundQ_exit, condK_true, condK_false, wpo_nil', wpo_none, wpo_tt, wpo_ff, wpo_tf, wpo_ft, opsK_c, isC_none, isC_read, isC_write, wp1_call, callK_ret, wp1_mv', wp1_bin', wp1_un', wp1_eq', wp1_extract', wp1_pick', wp1_len', wp1_load', wp1_conv', wp1_store', wp1_idxAddr', wp1_append', wp1_mkIface', wp1_alloc', rd_t, rd_c, ok_t, ok_c, put_some, put_none, get_put, reduceIte, Nat.reduceEqDiff, AV.bool.injEq, Option.some.injEq, exists_eq_left', Option.map_some, Option.bind_some, opds_nil, opds_cons, opd_t, opd_c, aBin, aInt, decide_true, decide_false, negIf, wp1_nilCheck', wp1_fieldAddr', wp1_slice, op_slice, opdo_some, opdo_none, wp1_lit, op_lit, parts_nil, parts_cons, wp1_build, op_build, wp1_box, op_box, g1]
  exact ⟨[.int .i64 n], _, by simp only [Env.results, Option.map_some, get_put, reduceIte, Nat.reduceEqDiff], (frz_noRef (v := .int .i64 n) rfl).2 rfl, rfl⟩
end Go.Bf
