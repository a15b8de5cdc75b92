/-
  Package heddleref06: Split.
-/
import Derived.Test.YtlggjdneolgkoaaDoorFdRefLen
import Derived.Test.YtlggjdneolgkoaaDoorFdSplit3
set_option linter.unusedVariables false
set_option linter.unusedSimpArgs false
set_option maxRecDepth 20000
namespace Go.Fd
open Go.AM

theorem rlength_short {h : Heap} {v : AV} {bs : List UInt8} (hb : Bytes h v bs) {w at_ n : Nat} (hn : bs.length = at_ + n) (hs : n < w) (hsm : bs.length < 1000000000000) :
    WC env 30 [.int .i64 w, v, .int .i64 at_] h (fun o => o = .ret ⟨.int .i64 (-1), h, .write⟩) := by
  have e := hb.lenOp
  have e1 : IntKind.wrap .i64 ((bs.length : Int) - (at_ : Int)) = (n : Int) := wrap_nat (by omega) (by omega)
  have z0 : ((n : Int) < (w : Int)) = True := eq_true (by omega)
  refine call_body rfl rfl (.inl rfl) ?_
  simp only [a30, a30_0, a30_1, a30_2, Slots.ofList, wpc_skip, wpc_ops, wpc_draw, wpc_seq, wpc_cond, wpc_block, wpc_loop, wpc_exit, wpc_scope, wpc_ret, seqQ_norm, seqQ_ret, seqQ_exit, blockQ'_norm, blockQ'_ret, blockQ'_exit, roundQ_norm, roundQ_ret, roundQ_exit, condK_true, condK_false, wpo_nil', wpo_none, wpo_some, opsK_apply, guardK_tt, guardK_ff, guardK_tf, guardK_ft, wp1_call, callK_ret, wp1_mv', wp1_bin', wp1_un', wp1_eq', wp1_extract', wp1_pick', wp1_len', wp1_load', wp1_conv', wp1_store', wp1_idxAddr', wp1_append', wp1_mkIface', wp1_alloc', rd_t, rd_c, ok_t, ok_c, put_some, put_none, get_put, reduceIte, Nat.reduceEqDiff, AV.bool.injEq, Option.some.injEq, exists_eq_left', Option.map_some, Option.bind_some, opds_nil, opds_cons, opd_t, opd_c, aBin, aInt, decide_true, decide_false, negIf, e, e1, z0]
  exact ⟨[.int .i64 (-1)], by simp only [Env.results, Option.map_some, get_put, reduceIte], rfl⟩

theorem rlength_spec {h : Heap} {v : AV} {bs : List UInt8} (hb : Bytes h v bs) {w at_ n : Nat} (hn : bs.length = at_ + n) (hw : w ≤ 4) (hs : w ≤ n) (hsm : bs.length < 1000000000000) :
    WC env 30 [.int .i64 w, v, .int .i64 at_] h (fun o => o = .ret ⟨.int .i64 (num ((bs.drop at_).take w)), h, .write⟩) := by
  have e := hb.lenOp
  have e1 : IntKind.wrap .i64 ((bs.length : Int) - (at_ : Int)) = (n : Int) := wrap_nat (by omega) (by omega)
  have z0 : ((n : Int) < (w : Int)) = False := eq_false (by omega)
  refine call_body rfl rfl (.inl rfl) ?_
  simp only [a30, a30_0, a30_1, a30_3, a30_4, Slots.ofList, wpc_skip, wpc_ops, wpc_draw, wpc_seq, wpc_cond, wpc_block, wpc_loop, wpc_exit, wpc_scope, wpc_ret, seqQ_norm, seqQ_ret, seqQ_exit, blockQ'_norm, blockQ'_ret, blockQ'_exit, roundQ_norm, roundQ_ret, roundQ_exit, condK_true, condK_false, wpo_nil', wpo_none, wpo_some, opsK_apply, guardK_tt, guardK_ff, guardK_tf, guardK_ft, wp1_call, callK_ret, wp1_mv', wp1_bin', wp1_un', wp1_eq', wp1_extract', wp1_pick', wp1_len', wp1_load', wp1_conv', wp1_store', wp1_idxAddr', wp1_append', wp1_mkIface', wp1_alloc', rd_t, rd_c, ok_t, ok_c, put_some, put_none, get_put, reduceIte, Nat.reduceEqDiff, AV.bool.injEq, Option.some.injEq, exists_eq_left', Option.map_some, Option.bind_some, opds_nil, opds_cons, opd_t, opd_c, aBin, aInt, decide_true, decide_false, negIf, e, e1, z0]
  refine rlength_loop hb (at_ := at_) hw (by omega) hsm (fun σ g7 => ?_) w 0 _ (by omega) ?_ ?_ ?_ ?_ ?_ <;> try simp only [get_put, reduceIte, Nat.reduceEqDiff]
  · simp only [a30_9, wpc_skip, wpc_ops, wpc_draw, wpc_seq, wpc_cond, wpc_block, wpc_loop, wpc_exit, wpc_scope, wpc_ret, seqQ_norm, seqQ_ret, seqQ_exit, blockQ'_norm, blockQ'_ret, blockQ'_exit, roundQ_norm, roundQ_ret, roundQ_exit, condK_true, condK_false, wpo_nil', wpo_none, wpo_some, opsK_apply, guardK_tt, guardK_ff, guardK_tf, guardK_ft, wp1_call, callK_ret, wp1_mv', wp1_bin', wp1_un', wp1_eq', wp1_extract', wp1_pick', wp1_len', wp1_load', wp1_conv', wp1_store', wp1_idxAddr', wp1_append', wp1_mkIface', wp1_alloc', rd_t, rd_c, ok_t, ok_c, put_some, put_none, get_put, reduceIte, Nat.reduceEqDiff, AV.bool.injEq, Option.some.injEq, exists_eq_left', Option.map_some, Option.bind_some, opds_nil, opds_cons, opd_t, opd_c, aBin, aInt, decide_true, decide_false, negIf, g7]
    exact ⟨[.int .i64 (num ((bs.drop at_).take w))], by simp only [Env.results, Option.map_some, get_put, reduceIte], rfl⟩
  · rfl
  · simp [num]
end Go.Fd
