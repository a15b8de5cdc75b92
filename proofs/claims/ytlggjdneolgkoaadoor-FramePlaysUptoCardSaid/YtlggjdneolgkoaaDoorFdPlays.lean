/-
  FramePlays: a call of both readers.
-/
import Derived.Test.YtlggjdneolgkoaaDoorFdRefused
set_option linter.unusedVariables false
set_option linter.unusedSimpArgs false
set_option maxRecDepth 20000
namespace Go.Fd
open Go.AM

def Rs.head (s : Rs) : List AV := [.int .i64 s.w, .int .i64 s.held, .int .i64 s.frames, .int .i64 s.ticks, .int .i64 s.bytes, .bool s.dead]

theorem state_spec {h : Heap} {id : Nat} {s : Rs} {hv : AV} (ho : HeapOk h) (hat : h.at_ id 0 = some (s.cells hv)) :
    WC env 18 [.ptr id 0 0] h (fun o => ∃ h', HeapOk h' ∧ h.le h' ∧ o = .ret ⟨.agg s.head, h', .write⟩) := by
  have hle := le_new ho [AV.int .i64 0, .int .i64 0, .int .i64 0, .int .i64 0, .int .i64 0, .bool false]
  have hat1 := hle.2 _ _ _ hat
  have l0 : aLoad (h.new [AV.int .i64 0, .int .i64 0, .int .i64 0, .int .i64 0, .int .i64 0, .bool false]) true 6 (.ptr id 0 0) = some ⟨.agg s.head, h.new [AV.int .i64 0, .int .i64 0, .int .i64 0, .int .i64 0, .int .i64 0, .bool false], .read⟩ := by
    simp only [aLoad, hat1, Option.bind_some]; rfl
  have t0 : aStore (h.new [AV.int .i64 0, .int .i64 0, .int .i64 0, .int .i64 0, .int .i64 0, .bool false]) 6 (.ptr h.next 0 0) (.agg s.head) = some ⟨.undef, (h.new [AV.int .i64 0, .int .i64 0, .int .i64 0, .int .i64 0, .int .i64 0, .bool false]).upd h.next 0 s.head, .write⟩ := by
    simp only [aStore, at_new, Option.bind_some]; rfl
  have l1 : aLoad ((h.new [AV.int .i64 0, .int .i64 0, .int .i64 0, .int .i64 0, .int .i64 0, .bool false]).upd h.next 0 s.head) true 6 (.ptr h.next 0 0) = some ⟨.agg s.head, (h.new [AV.int .i64 0, .int .i64 0, .int .i64 0, .int .i64 0, .int .i64 0, .bool false]).upd h.next 0 s.head, .read⟩ := by
    simp only [aLoad, at_upd, Option.bind_some]; rfl
  refine call_body rfl rfl (.inl rfl) ?_
  simp only [a18, a18_0, a18_1, a18_3, Slots.ofList, wpc_skip, wpc_ops, wpc_draw, wpc_seq, wpc_cond, wpc_block, wpc_loop, wpc_exit, wpc_scope, wpc_ret, seqQ_norm, seqQ_ret, seqQ_exit, blockQ'_norm, blockQ'_ret, blockQ'_exit, roundQ_norm, roundQ_ret, roundQ_exit, condK_true, condK_false, wpo_nil', wpo_none, wpo_some, opsK_apply, guardK_tt, guardK_ff, guardK_tf, guardK_ft, wp1_call, callK_ret, wp1_mv', wp1_bin', wp1_un', wp1_eq', wp1_extract', wp1_pick', wp1_len', wp1_load', wp1_conv', wp1_store', wp1_idxAddr', wp1_append', wp1_mkIface', wp1_alloc', rd_t, rd_c, ok_t, ok_c, put_some, put_none, get_put, reduceIte, Nat.reduceEqDiff, AV.bool.injEq, Option.some.injEq, exists_eq_left', Option.map_some, Option.bind_some, opds_nil, opds_cons, opd_t, opd_c, aBin, aInt, decide_true, decide_false, negIf, wp1_nilCheck', wp1_fieldAddr', wp1_slice, op_slice, opdo_some, opdo_none, wp1_lit, op_lit, parts_nil, parts_cons, wp1_build, op_build, wp1_box, op_box, aEq_ptr, aNil_ptr, aFieldAddr, Nat.add_zero, l0, t0]
  refine ⟨[.agg s.head], ?_, _, (ho.new _).upd (at_look.1 (at_new _)) _ _, ⟨hle.1, fun i g cs e => ?_⟩, rfl⟩
  · simp only [Env.results, Option.map_some, Option.bind_some, get_put, reduceIte, Nat.reduceEqDiff, l1]
  · rw [at_upd_ne (fun e2 => by have := ho.lt e; omega)]
    exact hle.2 _ _ _ e

theorem feed_dead {h : Heap} {id : Nat} {s : Rs} {bs : List UInt8} {hv v : AV} (k : Rd h id s bs hv) (hw : s.w ≠ 0) (hd : s.dead = true) :
    WC env 12 [.ptr id 0 0, v] h (fun o => o = .ret ⟨faultV s.bytes 120, h, .write⟩) := by
  refine call_body rfl rfl (.inl rfl) ?_
  simp only [a12, a12_0, a12_1, a12_2, a12_3, Slots.ofList, wpc_skip, wpc_ops, wpc_draw, wpc_seq, wpc_cond, wpc_block, wpc_loop, wpc_exit, wpc_scope, wpc_ret, seqQ_norm, seqQ_ret, seqQ_exit, blockQ'_norm, blockQ'_ret, blockQ'_exit, roundQ_norm, roundQ_ret, roundQ_exit, condK_true, condK_false, wpo_nil', wpo_none, wpo_some, opsK_apply, guardK_tt, guardK_ff, guardK_tf, guardK_ft, wp1_call, callK_ret, wp1_mv', wp1_bin', wp1_un', wp1_eq', wp1_extract', wp1_pick', wp1_len', wp1_load', wp1_conv', wp1_store', wp1_idxAddr', wp1_append', wp1_mkIface', wp1_alloc', rd_t, rd_c, ok_t, ok_c, put_some, put_none, get_put, reduceIte, Nat.reduceEqDiff, AV.bool.injEq, Option.some.injEq, exists_eq_left', Option.map_some, Option.bind_some, opds_nil, opds_cons, opd_t, opd_c, aBin, aInt, decide_true, decide_false, negIf, wp1_nilCheck', wp1_fieldAddr', wp1_slice, op_slice, opdo_some, opdo_none, wp1_lit, op_lit, parts_nil, parts_cons, wp1_build, op_build, wp1_box, op_box, wc_eq (ready_dead k.hat hw hd), eq_fault, Bool.not_false]
  exact ⟨[faultV s.bytes 120], by simp only [Env.results, Option.map_some, get_put, reduceIte], rfl⟩

theorem own_none {v : AV} {bs : List UInt8} (hb : ∀ h, Bytes h v bs) : v.own = none := by
  cases hb .empty with
  | nils => rfl
  | fs full => rfl
  | sl id gen off cap cs _ hat hle hc hcap => simp [at_look, Heap.look, Heap.empty, Tr.get] at hat

theorem faultV_L (a c : Int) : faultV a c = faultL [102, 114, 97, 109, 101] a c := rfl
theorem refused_ok' {h : Heap} (ho : HeapOk h) : WC env 8 [.nili, .nils] h (fun o => ∃ h', HeapOk h' ∧ h.le h' ∧ o = .ret ⟨.bool true, h', .write⟩) := by
  obtain ⟨o, ev, rfl⟩ := refused_ok h
  exact ⟨_, ev, h, ho, Heap.le_refl h, rfl⟩

theorem refused_if {a c : Int} {bad : Bool} {h : Heap} (ho : HeapOk h) :
    WC env 8 [if bad = true then faultV a c else .nili, if bad = true then linkV [102, 114, 97, 109, 101] a c else .nils] h (fun o => ∃ h', HeapOk h' ∧ h.le h' ∧ o = .ret ⟨.bool true, h', .write⟩) := by
  cases bad
  · exact refused_ok' ho
  · exact refused_hit (l := [102, 114, 97, 109, 101]) ho

theorem rfeed_dead {h : Heap} {id : Nat} {s : Rs} {bs : List UInt8} {hv v : AV} (k : Rr h id s bs hv) (hd : s.dead = true) : WC env 13 [.ptr id 0 0, v] h (fun o => o = .ret ⟨linkV [102, 114, 97, 109, 101] s.bytes 120, h, .write⟩) := by
  have l5 := rs_ld5 k.hat
  rw [hd] at l5
  have l4 := rs_ld4 k.hat
  refine call_body rfl rfl (.inl rfl) ?_
  simp only [a13, a13_0, a13_1, a13_2, Slots.ofList, wpc_skip, wpc_ops, wpc_draw, wpc_seq, wpc_cond, wpc_block, wpc_loop, wpc_exit, wpc_scope, wpc_ret, seqQ_norm, seqQ_ret, seqQ_exit, blockQ'_norm, blockQ'_ret, blockQ'_exit, roundQ_norm, roundQ_ret, roundQ_exit, condK_true, condK_false, wpo_nil', wpo_none, wpo_some, opsK_apply, guardK_tt, guardK_ff, guardK_tf, guardK_ft, wp1_call, callK_ret, wp1_mv', wp1_bin', wp1_un', wp1_eq', wp1_extract', wp1_pick', wp1_len', wp1_load', wp1_conv', wp1_store', wp1_idxAddr', wp1_append', wp1_mkIface', wp1_alloc', rd_t, rd_c, ok_t, ok_c, put_some, put_none, get_put, reduceIte, Nat.reduceEqDiff, AV.bool.injEq, Option.some.injEq, exists_eq_left', Option.map_some, Option.bind_some, opds_nil, opds_cons, opd_t, opd_c, aBin, aInt, decide_true, decide_false, negIf, wp1_nilCheck', wp1_fieldAddr', wp1_slice, op_slice, opdo_some, opdo_none, wp1_lit, op_lit, parts_nil, parts_cons, wp1_build, op_build, wp1_box, op_box, aNil_ptr, aFieldAddr, Nat.add_zero, Nat.zero_add, l5, l4, wc_eq (no_spec _ _ _)]
  exact ⟨[linkV [102, 114, 97, 109, 101] s.bytes 120], by simp only [Env.results, Option.map_some, get_put, reduceIte], rfl⟩

theorem rs_st0 {h : Heap} {id : Nat} {s : Rs} {hv : AV} (e : h.at_ id 0 = some (s.cells hv)) : aStore h 1 (.ptr id 0 0) (.int .i64 4) = some ⟨.undef, h.upd id 0 ({ s with w := 4 : Rs }.cells hv), .write⟩ := by simp only [aStore, e, Option.bind_some]; rfl

/-- what Widen does, and the error's number -/
def widenF (s : Rs) : Rs × Option (Nat × Int) := if s.dead = true then (s, some (s.bytes, 120)) else if s.w = 4 then (s, some (0, 6)) else ({ s with w := 4 }, none)
def errV : Option (Nat × Int) → AV
  | some (a, c) => faultV a c
  | none => .nili
def errL : Option (Nat × Int) → AV
  | some (a, c) => linkV [102, 114, 97, 109, 101] a c
  | none => .nils

theorem widen_spec {h : Heap} {id : Nat} {s : Rs} {bs : List UInt8} {hv : AV} (ho : HeapOk h) (k : Rd h id s bs hv) (hw : s.w = 2 ∨ s.w = 4) :
    WC env 16 [.ptr id 0 0] h (fun o => ∃ h', HeapOk h' ∧ Rd h' id (widenF s).1 bs hv ∧ Chg (fun i => i = id) h h' ∧ o = .ret ⟨errV (widenF s).2, h', .write⟩) := by
  have hw0 : s.w ≠ 0 := by omega
  have l0 := rs_ld0 k.hat
  refine call_body rfl rfl (.inl rfl) ?_
  by_cases c0 : s.dead = true
  · have hn : widenF s = (s, some (s.bytes, 120)) := by simp only [widenF, if_pos c0]
    rw [hn]
    simp only [a16, a16_0, a16_1, a16_2, a16_3, Slots.ofList, wpc_skip, wpc_ops, wpc_draw, wpc_seq, wpc_cond, wpc_block, wpc_loop, wpc_exit, wpc_scope, wpc_ret, seqQ_norm, seqQ_ret, seqQ_exit, blockQ'_norm, blockQ'_ret, blockQ'_exit, roundQ_norm, roundQ_ret, roundQ_exit, condK_true, condK_false, wpo_nil', wpo_none, wpo_some, opsK_apply, guardK_tt, guardK_ff, guardK_tf, guardK_ft, wp1_call, callK_ret, wp1_mv', wp1_bin', wp1_un', wp1_eq', wp1_extract', wp1_pick', wp1_len', wp1_load', wp1_conv', wp1_store', wp1_idxAddr', wp1_append', wp1_mkIface', wp1_alloc', rd_t, rd_c, ok_t, ok_c, put_some, put_none, get_put, reduceIte, Nat.reduceEqDiff, AV.bool.injEq, Option.some.injEq, exists_eq_left', Option.map_some, Option.bind_some, opds_nil, opds_cons, opd_t, opd_c, aBin, aInt, decide_true, decide_false, negIf, wp1_nilCheck', wp1_fieldAddr', wp1_slice, op_slice, opdo_some, opdo_none, wp1_lit, op_lit, parts_nil, parts_cons, wp1_build, op_build, wp1_box, op_box, wc_eq (ready_dead k.hat hw0 c0), eq_fault, Bool.not_false]
    exact ⟨[faultV s.bytes 120], by simp only [Env.results, Option.map_some, get_put, reduceIte], h, ho, k, .refl, rfl⟩
  have c0' : s.dead = false := by simpa using c0
  by_cases c1 : s.w = 4
  · have hn : widenF s = (s, some (0, 6)) := by simp only [widenF, if_neg c0, if_pos c1]
    rw [hn]
    have z0 : ((s.w : Int) == 4) = true := by simp [c1]
    simp only [a16, a16_0, a16_1, a16_2, a16_4, a16_5, Slots.ofList, wpc_skip, wpc_ops, wpc_draw, wpc_seq, wpc_cond, wpc_block, wpc_loop, wpc_exit, wpc_scope, wpc_ret, seqQ_norm, seqQ_ret, seqQ_exit, blockQ'_norm, blockQ'_ret, blockQ'_exit, roundQ_norm, roundQ_ret, roundQ_exit, condK_true, condK_false, wpo_nil', wpo_none, wpo_some, opsK_apply, guardK_tt, guardK_ff, guardK_tf, guardK_ft, wp1_call, callK_ret, wp1_mv', wp1_bin', wp1_un', wp1_eq', wp1_extract', wp1_pick', wp1_len', wp1_load', wp1_conv', wp1_store', wp1_idxAddr', wp1_append', wp1_mkIface', wp1_alloc', rd_t, rd_c, ok_t, ok_c, put_some, put_none, get_put, reduceIte, Nat.reduceEqDiff, AV.bool.injEq, Option.some.injEq, exists_eq_left', Option.map_some, Option.bind_some, opds_nil, opds_cons, opd_t, opd_c, aBin, aInt, decide_true, decide_false, negIf, wp1_nilCheck', wp1_fieldAddr', wp1_slice, op_slice, opdo_some, opdo_none, wp1_lit, op_lit, parts_nil, parts_cons, wp1_build, op_build, wp1_box, op_box, wc_eq (ready_live k.hat hw0 c0'), eq_nil, Bool.not_true, aNil_ptr, aFieldAddr, Nat.add_zero, l0, z0, wc_eq (fault_spec _ _ _)]
    exact ⟨[faultV 0 6], by simp only [Env.results, Option.map_some, get_put, reduceIte], h, ho, k, .refl, rfl⟩
  · have hn : widenF s = ({ s with w := 4 }, none) := by simp only [widenF, if_neg c0, if_neg c1]
    rw [hn]
    have z0 : ((s.w : Int) == 4) = false := by simp; omega
    have t0 := rs_st0 k.hat
    simp only [a16, a16_0, a16_1, a16_2, a16_4, a16_6, a16_7, Slots.ofList, wpc_skip, wpc_ops, wpc_draw, wpc_seq, wpc_cond, wpc_block, wpc_loop, wpc_exit, wpc_scope, wpc_ret, seqQ_norm, seqQ_ret, seqQ_exit, blockQ'_norm, blockQ'_ret, blockQ'_exit, roundQ_norm, roundQ_ret, roundQ_exit, condK_true, condK_false, wpo_nil', wpo_none, wpo_some, opsK_apply, guardK_tt, guardK_ff, guardK_tf, guardK_ft, wp1_call, callK_ret, wp1_mv', wp1_bin', wp1_un', wp1_eq', wp1_extract', wp1_pick', wp1_len', wp1_load', wp1_conv', wp1_store', wp1_idxAddr', wp1_append', wp1_mkIface', wp1_alloc', rd_t, rd_c, ok_t, ok_c, put_some, put_none, get_put, reduceIte, Nat.reduceEqDiff, AV.bool.injEq, Option.some.injEq, exists_eq_left', Option.map_some, Option.bind_some, opds_nil, opds_cons, opd_t, opd_c, aBin, aInt, decide_true, decide_false, negIf, wp1_nilCheck', wp1_fieldAddr', wp1_slice, op_slice, opdo_some, opdo_none, wp1_lit, op_lit, parts_nil, parts_cons, wp1_build, op_build, wp1_box, op_box, wc_eq (ready_live k.hat hw0 c0'), eq_nil, Bool.not_true, aNil_ptr, aFieldAddr, Nat.add_zero, l0, z0, t0]
    exact ⟨[.nili], by simp only [Env.results, Option.map_some, get_put, reduceIte], _, ho.upd (at_look.1 k.hat) _ _, ⟨at_upd, k.acc.chg (S := fun i => i = id) (upd_chg rfl) (fun i e e2 => k.ne (by rw [e, e2])), k.ne, k.held⟩, upd_chg rfl, rfl⟩

theorem rwiden_spec {h : Heap} {id : Nat} {s : Rs} {bs : List UInt8} {hv : AV} (ho : HeapOk h) (k : Rr h id s bs hv) (hw : s.w = 2 ∨ s.w = 4) :
    WC env 17 [.ptr id 0 0] h (fun o => ∃ h', HeapOk h' ∧ Rr h' id (widenF s).1 bs hv ∧ Chg (fun i => i = id) h h' ∧ o = .ret ⟨errL (widenF s).2, h', .write⟩) := by
  have l0 := rs_ld0 k.hat
  have l5 := rs_ld5 k.hat
  have l4 := rs_ld4 k.hat
  refine call_body rfl rfl (.inl rfl) ?_
  by_cases c0 : s.dead = true
  · have hn : widenF s = (s, some (s.bytes, 120)) := by simp only [widenF, if_pos c0]
    rw [hn]
    rw [c0] at l5
    simp only [a17, a17_0, a17_1, a17_2, Slots.ofList, wpc_skip, wpc_ops, wpc_draw, wpc_seq, wpc_cond, wpc_block, wpc_loop, wpc_exit, wpc_scope, wpc_ret, seqQ_norm, seqQ_ret, seqQ_exit, blockQ'_norm, blockQ'_ret, blockQ'_exit, roundQ_norm, roundQ_ret, roundQ_exit, condK_true, condK_false, wpo_nil', wpo_none, wpo_some, opsK_apply, guardK_tt, guardK_ff, guardK_tf, guardK_ft, wp1_call, callK_ret, wp1_mv', wp1_bin', wp1_un', wp1_eq', wp1_extract', wp1_pick', wp1_len', wp1_load', wp1_conv', wp1_store', wp1_idxAddr', wp1_append', wp1_mkIface', wp1_alloc', rd_t, rd_c, ok_t, ok_c, put_some, put_none, get_put, reduceIte, Nat.reduceEqDiff, AV.bool.injEq, Option.some.injEq, exists_eq_left', Option.map_some, Option.bind_some, opds_nil, opds_cons, opd_t, opd_c, aBin, aInt, decide_true, decide_false, negIf, wp1_nilCheck', wp1_fieldAddr', wp1_slice, op_slice, opdo_some, opdo_none, wp1_lit, op_lit, parts_nil, parts_cons, wp1_build, op_build, wp1_box, op_box, aNil_ptr, aFieldAddr, Nat.add_zero, Nat.zero_add, l5, l4, wc_eq (no_spec _ _ _)]
    exact ⟨[linkV [102, 114, 97, 109, 101] s.bytes 120], by simp only [Env.results, Option.map_some, get_put, reduceIte], h, ho, k, .refl, rfl⟩
  have c0' : s.dead = false := by simpa using c0
  rw [c0'] at l5
  by_cases c1 : s.w = 4
  · have hn : widenF s = (s, some (0, 6)) := by simp only [widenF, if_neg c0, if_pos c1]
    rw [hn]
    have z0 : ((s.w : Int) == 4) = true := by simp [c1]
    simp only [a17, a17_0, a17_1, a17_3, a17_4, Slots.ofList, wpc_skip, wpc_ops, wpc_draw, wpc_seq, wpc_cond, wpc_block, wpc_loop, wpc_exit, wpc_scope, wpc_ret, seqQ_norm, seqQ_ret, seqQ_exit, blockQ'_norm, blockQ'_ret, blockQ'_exit, roundQ_norm, roundQ_ret, roundQ_exit, condK_true, condK_false, wpo_nil', wpo_none, wpo_some, opsK_apply, guardK_tt, guardK_ff, guardK_tf, guardK_ft, wp1_call, callK_ret, wp1_mv', wp1_bin', wp1_un', wp1_eq', wp1_extract', wp1_pick', wp1_len', wp1_load', wp1_conv', wp1_store', wp1_idxAddr', wp1_append', wp1_mkIface', wp1_alloc', rd_t, rd_c, ok_t, ok_c, put_some, put_none, get_put, reduceIte, Nat.reduceEqDiff, AV.bool.injEq, Option.some.injEq, exists_eq_left', Option.map_some, Option.bind_some, opds_nil, opds_cons, opd_t, opd_c, aBin, aInt, decide_true, decide_false, negIf, wp1_nilCheck', wp1_fieldAddr', wp1_slice, op_slice, opdo_some, opdo_none, wp1_lit, op_lit, parts_nil, parts_cons, wp1_build, op_build, wp1_box, op_box, aNil_ptr, aFieldAddr, Nat.add_zero, Nat.zero_add, l5, l0, z0, wc_eq (no_spec _ _ _)]
    exact ⟨[linkV [102, 114, 97, 109, 101] 0 6], by simp only [Env.results, Option.map_some, get_put, reduceIte], h, ho, k, .refl, rfl⟩
  · have hn : widenF s = ({ s with w := 4 }, none) := by simp only [widenF, if_neg c0, if_neg c1]
    rw [hn]
    have z0 : ((s.w : Int) == 4) = false := by simp; omega
    have t0 := rs_st0 k.hat
    simp only [a17, a17_0, a17_1, a17_3, a17_5, a17_6, Slots.ofList, wpc_skip, wpc_ops, wpc_draw, wpc_seq, wpc_cond, wpc_block, wpc_loop, wpc_exit, wpc_scope, wpc_ret, seqQ_norm, seqQ_ret, seqQ_exit, blockQ'_norm, blockQ'_ret, blockQ'_exit, roundQ_norm, roundQ_ret, roundQ_exit, condK_true, condK_false, wpo_nil', wpo_none, wpo_some, opsK_apply, guardK_tt, guardK_ff, guardK_tf, guardK_ft, wp1_call, callK_ret, wp1_mv', wp1_bin', wp1_un', wp1_eq', wp1_extract', wp1_pick', wp1_len', wp1_load', wp1_conv', wp1_store', wp1_idxAddr', wp1_append', wp1_mkIface', wp1_alloc', rd_t, rd_c, ok_t, ok_c, put_some, put_none, get_put, reduceIte, Nat.reduceEqDiff, AV.bool.injEq, Option.some.injEq, exists_eq_left', Option.map_some, Option.bind_some, opds_nil, opds_cons, opd_t, opd_c, aBin, aInt, decide_true, decide_false, negIf, wp1_nilCheck', wp1_fieldAddr', wp1_slice, op_slice, opdo_some, opdo_none, wp1_lit, op_lit, parts_nil, parts_cons, wp1_build, op_build, wp1_box, op_box, aNil_ptr, aFieldAddr, Nat.add_zero, Nat.zero_add, l5, l0, z0, t0]
    exact ⟨[.nils], by simp only [Env.results, Option.map_some, get_put, reduceIte], _, ho.upd (at_look.1 k.hat) _ _, ⟨at_upd, k.by_.chg (S := fun i => i = id) (upd_chg rfl) (fun i e e2 => k.ne (by rw [e, e2])), k.ne, k.held⟩, upd_chg rfl, rfl⟩

theorem refused_err {e : Option (Nat × Int)} {h : Heap} (ho : HeapOk h) : WC env 8 [errV e, errL e] h (fun o => ∃ h', HeapOk h' ∧ h.le h' ∧ o = .ret ⟨.bool true, h', .write⟩) := by
  cases e with
  | none => exact refused_ok' ho
  | some p => exact refused_hit (l := [102, 114, 97, 109, 101]) ho

/-- both readers are in one state -/
structure Both (id id2 : Nat) (h : Heap) (s : Rs) (bs : List UInt8) (room : Nat) : Prop where
  ok : HeapOk h
  ne : id ≠ id2
  pair : ∃ hv hv2, Rd h id s bs hv ∧ Rr h id2 s bs hv2 ∧ hv.own ≠ some id2 ∧ hv2.own ≠ some id ∧ ∀ i, hv.own = some i → hv2.own ≠ some i
  wid : s.w = 2 ∨ s.w = 4
  small : s.frames ≤ s.bytes ∧ s.ticks ≤ s.bytes ∧ s.bytes + bs.length + room ≤ 1048576

theorem Both.le {id id2 : Nat} {h h' : Heap} {s : Rs} {bs : List UInt8} {room : Nat} (k : Both id id2 h s bs room) (hl : h.le h') (ho : HeapOk h') : Both id id2 h' s bs room := by
  obtain ⟨k1, k2, ⟨hv, hv2, k3, k4, k5, k6, k9⟩, k7, k8⟩ := k
  exact ⟨ho, k2, ⟨hv, hv2, k3.chg (S := fun i => False) hl.chg (fun e => e) (fun i _ e => e), k4.chg (S := fun i => False) hl.chg (fun e => e) (fun i _ e => e), k5, k6, k9⟩, k7, k8⟩

/-- a call of the one, then of the other -/
theorem Both.step {id id2 : Nat} {h h1 h2 : Heap} {s s' : Rs} {bs bs' : List UInt8} {hv hv2 hv' hv2' : AV} {S T : Nat → Prop} (ho : HeapOk h) (ho1 : HeapOk h1) (hne : id ≠ id2) (kr : Rd h id s bs hv) (k2 : Rr h id2 s bs hv2) (n1 : hv.own ≠ some id2) (n2 : hv2.own ≠ some id) (dis : ∀ i, hv.own = some i → hv2.own ≠ some i)
    (kr1 : Rd h1 id s' bs' hv') (c1 : Chg S h h1) (hS : ∀ i, S i → i = id ∨ hv.own = some i) (o1 : ∀ i, hv'.own = some i → hv.own = some i ∨ h.next ≤ i)
    (k21 : Rr h2 id2 s' bs' hv2') (c2 : Chg T h1 h2) (hT : ∀ i, T i → i = id2) (o2 : ∀ i, hv2'.own = some i → hv2.own = some i ∨ h1.next ≤ i) :
    ∃ hv hv2, Rd h2 id s' bs' hv ∧ Rr h2 id2 s' bs' hv2 ∧ hv.own ≠ some id2 ∧ hv2.own ≠ some id ∧ ∀ i, hv.own = some i → hv2.own ≠ some i := by
  have i1 : id < h.next := ho.lt kr.hat
  have i2 : id2 < h.next := ho.lt k2.hat
  have hn := c1.1
  have m1 : hv'.own ≠ some id2 := fun e => by
    rcases o1 _ e with e | e
    · exact n1 e
    · omega
  refine ⟨hv', hv2', kr1.chg c2 (fun e => hne (hT _ e)) (fun i e e2 => m1 (by rw [e, hT _ e2])), k21, m1, fun e => ?_, fun i e e2 => ?_⟩
  · rcases o2 _ e with e | e
    · exact n2 e
    · omega
  · have := kr1.acc.ownLt ho1 e
    rcases o2 _ e2 with e3 | e3
    · rcases o1 _ e with e4 | e4
      · exact dis i e4 e3
      · have := k2.by_.ownLt ho e3; omega
    · omega

/-- the other one, behind a call of the one -/
theorem rr_keep {id id2 : Nat} {h h1 : Heap} {s : Rs} {bs : List UInt8} {hv hv2 : AV} {S : Nat → Prop} (hne : id ≠ id2) (k2 : Rr h id2 s bs hv2) (n1 : hv.own ≠ some id2) (n2 : hv2.own ≠ some id) (dis : ∀ i, hv.own = some i → hv2.own ≠ some i)
    (c1 : Chg S h h1) (hS : ∀ i, S i → i = id ∨ hv.own = some i) : Rr h1 id2 s bs hv2 :=
  k2.chg c1 (fun e => (hS _ e).elim (fun e => hne e.symm) n1) fun i e e2 => (hS _ e2).elim (fun e3 => n2 (by rw [e, e3])) fun e3 => dis i e3 e

theorem play_feed {id id2 : Nat} {h : Heap} {s : Rs} {bs b : List UInt8} {room : Nat} {bv : AV} (k : Both id id2 h s bs (room + b.length)) (hbv : ∀ h, Bytes h bv b) :
    ∃ e1 e2 h1 h2 h3 s' bs', WC env 12 [.ptr id 0 0, bv] h (fun o => o = .ret ⟨e1, h1, .write⟩) ∧ WC env 13 [.ptr id2 0 0, bv] h1 (fun o => o = .ret ⟨e2, h2, .write⟩) ∧ WC env 8 [e1, e2] h2 (fun o => o = .ret ⟨.bool true, h3, .write⟩) ∧ Both id id2 h3 s' bs' room := by
  obtain ⟨ho, hne, ⟨hv, hv2, kr, k2, n1, n2, dis⟩, hw, s1, s2, s3⟩ := k
  have hvn := own_none hbv
  cases hd : s.dead with
  | true =>
    obtain ⟨o, ev, h3, ho3, hl3, rfl⟩ := refused_hit (l := [102, 114, 97, 109, 101]) (a := s.bytes) (c := 120) ho
    refine ⟨_, _, h, h, h3, s, bs, feed_dead kr (by omega) hd, rfeed_dead k2 hd, ⟨_, ev, rfl⟩, ?_⟩
    exact Both.le ⟨ho, hne, ⟨hv, hv2, kr, k2, n1, n2, dis⟩, hw, s1, s2, by omega⟩ hl3 ho3
  | false =>
    obtain ⟨o, ev, h1, hv1, ho1, kr1, c1, own1, rfl⟩ := feed_spec ho kr (hbv h) (by rw [hvn]; simp) (by rw [hvn]; simp) (by omega) hd (by omega)
    have k21 := rr_keep hne k2 n1 n2 dis c1 (fun i e => e)
    obtain ⟨o, ev2, h2, hv2', ho2, k22, c2, own2, rfl⟩ := rfeed_spec ho1 k21 (hbv h1) hd (by omega)
    obtain ⟨o, ev3, h3, ho3, hl3, rfl⟩ := refused_ok' ho2
    refine ⟨_, _, h1, h2, h3, { s with held := bs.length + b.length }, bs ++ b, ⟨_, ev, rfl⟩, ⟨_, ev2, rfl⟩, ⟨_, ev3, rfl⟩, ?_⟩
    refine Both.le ⟨ho2, hne, Both.step ho ho1 hne kr k2 n1 n2 dis kr1 c1 (fun i e => e) own1 k22 c2 (fun i e => e) own2, hw, s1, s2, ?_⟩ hl3 ho3
    dsimp only
    rw [List.length_append]
    omega

theorem play_next {id id2 : Nat} {h : Heap} {s : Rs} {bs : List UInt8} {room : Nat} (k : Both id id2 h s bs room) :
    ∃ x y b f1 f2 h1 h2 h3 s' bs' xs, WC env 14 [.ptr id 0 0] h (fun o => o = .ret ⟨.tup [x, .bool b, f1], h1, .write⟩) ∧ WC env 15 [.ptr id2 0 0] h1 (fun o => o = .ret ⟨.tup [y, .bool b, f2], h2, .write⟩) ∧ Bytes h2 x xs ∧ Bytes h2 y xs ∧
      WC env 8 [f1, f2] h2 (fun o => o = .ret ⟨.bool true, h3, .write⟩) ∧ Both id id2 h3 s' bs' room := by
  obtain ⟨ho, hne, ⟨hv, hv2, kr, k2, n1, n2, dis⟩, hw, s1, s2, s3⟩ := k
  have hok : s.ok bs := ⟨s1, s2, by omega⟩
  have i2 : id2 < h.next := ho.lt k2.hat
  obtain ⟨o, ev, h1, hv1, x, ho1, kr1, c1, own1, hx, xown, xmut, rfl⟩ := next_spec ho kr hw hok
  have k21 := rr_keep hne k2 n1 n2 dis c1 (fun i e => .inl e)
  obtain ⟨o, ev2, h2, hv2', y, ho2, k22, c2, own2, hy, yown, rfl⟩ := rnext_spec ho1 k21 hw hok
  have hx2 := hx.chg c2 (fun j e e2 => by have := (xown j e).1; omega)
  obtain ⟨o, ev3, h3, ho3, hl3, rfl⟩ := refused_if (a := s.bytes) (c := 120) (bad := (nextF s bs).2.2.2) ho2
  have hno := nextF_ok hw hok
  have hsum : (nextF s bs).1.bytes + (nextF s bs).2.1.length = s.bytes + bs.length := by
    unfold nextF
    repeat' split
    all_goals first
      | rfl
      | (simp only [List.length_drop]; omega)
  refine ⟨x, y, _, _, _, h1, h2, h3, (nextF s bs).1, (nextF s bs).2.1, (nextF s bs).2.2.1.getD [], ⟨_, ev, rfl⟩, ⟨_, ev2, rfl⟩, hx2, hy, ⟨_, ev3, rfl⟩, ?_⟩
  refine Both.le ⟨ho2, hne, Both.step ho ho1 hne kr k2 n1 n2 dis kr1 c1 (fun i e => .inl e) own1 k22 c2 (fun i e => e) own2, by rw [hno.2]; exact hw, hno.1.1, hno.1.2.1, by omega⟩ hl3 ho3

theorem play_widen {id id2 : Nat} {h : Heap} {s : Rs} {bs : List UInt8} {room : Nat} (k : Both id id2 h s bs room) :
    ∃ e1 e2 h1 h2 h3 s' bs', WC env 16 [.ptr id 0 0] h (fun o => o = .ret ⟨e1, h1, .write⟩) ∧ WC env 17 [.ptr id2 0 0] h1 (fun o => o = .ret ⟨e2, h2, .write⟩) ∧ WC env 8 [e1, e2] h2 (fun o => o = .ret ⟨.bool true, h3, .write⟩) ∧ Both id id2 h3 s' bs' room := by
  obtain ⟨ho, hne, ⟨hv, hv2, kr, k2, n1, n2, dis⟩, hw, s1, s2, s3⟩ := k
  obtain ⟨o, ev, h1, ho1, kr1, c1, rfl⟩ := widen_spec ho kr hw
  have k21 := rr_keep hne k2 n1 n2 dis c1 (fun i e => .inl e)
  obtain ⟨o, ev2, h2, ho2, k22, c2, rfl⟩ := rwiden_spec ho1 k21 hw
  obtain ⟨o, ev3, h3, ho3, hl3, rfl⟩ := refused_err (e := (widenF s).2) ho2
  refine ⟨_, _, h1, h2, h3, (widenF s).1, bs, ⟨_, ev, rfl⟩, ⟨_, ev2, rfl⟩, ⟨_, ev3, rfl⟩, ?_⟩
  have hs : ((widenF s).1.w = 2 ∨ (widenF s).1.w = 4) ∧ (widenF s).1.frames = s.frames ∧ (widenF s).1.ticks = s.ticks ∧ (widenF s).1.bytes = s.bytes := by
    unfold widenF
    repeat' split
    all_goals simp_all
  refine Both.le ⟨ho2, hne, Both.step ho ho1 hne kr k2 n1 n2 dis kr1 c1 (fun i e => .inl e) (fun i e => .inl e) k22 c2 (fun i e => e) (fun i e => .inl e), hs.1, ?_, ?_, ?_⟩ hl3 ho3
  · omega
  · omega
  · omega
end Go.Fd
