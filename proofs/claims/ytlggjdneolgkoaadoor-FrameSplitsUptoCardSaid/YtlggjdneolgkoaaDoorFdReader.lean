/-
  Package frame: a reader in the heap.
-/
import Derived.Test.YtlggjdneolgkoaaDoorFdRefSplit3
set_option linter.unusedVariables false
set_option linter.unusedSimpArgs false
set_option maxRecDepth 20000
namespace Go.Fd
open Go.AM

/-- a reader's own words -/
structure Rs where
  w : Nat
  held : Nat
  frames : Nat
  ticks : Nat
  bytes : Nat
  dead : Bool

def Rs.cells (s : Rs) (hv : AV) : List AV := [.int .i64 s.w, .int .i64 s.held, .int .i64 s.frames, .int .i64 s.ticks, .int .i64 s.bytes, .bool s.dead, hv]

theorem at_upd {h : Heap} {id gen : Nat} {cs : List AV} : (h.upd id gen cs).at_ id gen = some cs := by
  rw [at_look, look_upd, if_pos rfl]
theorem at_upd_ne {h : Heap} {id gen id' gen' : Nat} {cs : List AV} (hne : id' ≠ id) : (h.upd id gen cs).at_ id' gen' = h.at_ id' gen' := by
  cases ha : h.at_ id' gen' with
  | some c => rw [at_look] at ha ⊢; rw [look_upd, if_neg hne]; exact ha
  | none =>
    cases hb : (h.upd id gen cs).at_ id' gen' with
    | none => rfl
    | some c =>
      rw [at_look, look_upd, if_neg hne] at hb
      rw [at_look.2 hb] at ha; cases ha

/-- it may go on -/
theorem ready_live {h : Heap} {id : Nat} {s : Rs} {hv : AV} (hat : h.at_ id 0 = some (s.cells hv)) (hw : s.w ≠ 0) (hd : s.dead = false) : WC env 28 [.ptr id 0 0] h (fun o => o = .ret ⟨.nili, h, .write⟩) := by
  refine call_body rfl rfl (.inl rfl) ?_
  have z0 : ((s.w : Int) == 0) = false := by simp; omega
  have y0 : aNil (.ptr id 0 0) = some (.ptr id 0 0) := rfl
  have y1 : aEq .ptr (.ptr id 0 0) .nilp = some false := rfl
  simp only [a28, a28_0, a28_1, a28_3, a28_5, Slots.ofList, wpc_skip, wpc_ops, wpc_draw, wpc_seq, wpc_cond, wpc_block, wpc_loop, wpc_exit, wpc_scope, wpc_ret, seqQ_norm, seqQ_ret, seqQ_exit, blockQ'_norm, blockQ'_ret, blockQ'_exit, roundQ_norm, roundQ_ret, roundQ_exit, condK_true, condK_false, wpo_nil', wpo_none, wpo_some, opsK_apply, guardK_tt, guardK_ff, guardK_tf, guardK_ft, wp1_call, callK_ret, wp1_mv', wp1_bin', wp1_un', wp1_eq', wp1_extract', wp1_pick', wp1_len', wp1_load', wp1_conv', wp1_store', wp1_idxAddr', wp1_append', wp1_mkIface', wp1_alloc', rd_t, rd_c, ok_t, ok_c, put_some, put_none, get_put, reduceIte, Nat.reduceEqDiff, AV.bool.injEq, Option.some.injEq, exists_eq_left', Option.map_some, Option.bind_some, opds_nil, opds_cons, opd_t, opd_c, aBin, aInt, decide_true, decide_false, negIf, wp1_nilCheck', wp1_fieldAddr', wp1_slice, op_slice, opdo_some, opdo_none, wp1_lit, op_lit, parts_nil, parts_cons, wp1_build, op_build, wp1_box, op_box, y0, y1, aFieldAddr, aLoad, hat, Rs.cells, ldCells, Nat.add_zero, Nat.zero_add, List.drop_zero, List.head?_cons, z0, aPick, List.drop_succ_cons, hd]
  exact ⟨[.nili], by simp only [Env.results, Option.map_some, get_put, reduceIte], rfl⟩

theorem ready_dead {h : Heap} {id : Nat} {s : Rs} {hv : AV} (hat : h.at_ id 0 = some (s.cells hv)) (hw : s.w ≠ 0) (hd : s.dead = true) : WC env 28 [.ptr id 0 0] h (fun o => o = .ret ⟨faultV s.bytes 120, h, .write⟩) := by
  refine call_body rfl rfl (.inl rfl) ?_
  have z0 : ((s.w : Int) == 0) = false := by simp; omega
  have y0 : aNil (.ptr id 0 0) = some (.ptr id 0 0) := rfl
  have y1 : aEq .ptr (.ptr id 0 0) .nilp = some false := rfl
  simp only [a28, a28_0, a28_1, a28_3, a28_4, Slots.ofList, wpc_skip, wpc_ops, wpc_draw, wpc_seq, wpc_cond, wpc_block, wpc_loop, wpc_exit, wpc_scope, wpc_ret, seqQ_norm, seqQ_ret, seqQ_exit, blockQ'_norm, blockQ'_ret, blockQ'_exit, roundQ_norm, roundQ_ret, roundQ_exit, condK_true, condK_false, wpo_nil', wpo_none, wpo_some, opsK_apply, guardK_tt, guardK_ff, guardK_tf, guardK_ft, wp1_call, callK_ret, wp1_mv', wp1_bin', wp1_un', wp1_eq', wp1_extract', wp1_pick', wp1_len', wp1_load', wp1_conv', wp1_store', wp1_idxAddr', wp1_append', wp1_mkIface', wp1_alloc', rd_t, rd_c, ok_t, ok_c, put_some, put_none, get_put, reduceIte, Nat.reduceEqDiff, AV.bool.injEq, Option.some.injEq, exists_eq_left', Option.map_some, Option.bind_some, opds_nil, opds_cons, opd_t, opd_c, aBin, aInt, decide_true, decide_false, negIf, wp1_nilCheck', wp1_fieldAddr', wp1_slice, op_slice, opdo_some, opdo_none, wp1_lit, op_lit, parts_nil, parts_cons, wp1_build, op_build, wp1_box, op_box, y0, y1, aFieldAddr, aLoad, hat, Rs.cells, ldCells, Nat.add_zero, Nat.zero_add, List.drop_zero, List.head?_cons, z0, aPick, List.drop_succ_cons, hd, wc_eq (fault_spec _ _ _)]
  exact ⟨[faultV s.bytes 120], by simp only [Env.results, Option.map_some, get_put, reduceIte], rfl⟩
end Go.Fd
