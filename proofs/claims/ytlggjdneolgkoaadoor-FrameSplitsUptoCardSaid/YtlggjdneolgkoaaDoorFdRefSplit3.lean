/-
  Package heddleref06: Split, the function.
-/
import Derived.Test.YtlggjdneolgkoaaDoorFdRefSplit2
set_option linter.unusedVariables false
set_option linter.unusedSimpArgs false
set_option maxRecDepth 20000
namespace Go.Fd
open Go.AM

theorem rsplit_spec {w : Nat} (hw : w = 2 ∨ w = 4) {v : AV} {bs : List UInt8} {h : Heap} (ho : HeapOk h) (hb : Bytes h v bs) (hsm : bs.length < 1000000000000) :
    WC env 20 [.int .i64 w, v] h (fun o => ∃ h', HeapOk h' ∧ h.le h' ∧
      (if (splitF w (bs.length + 1) bs 0 []).2.2 = true then o = .ret ⟨.tup [.nils, .int .i64 0, linkV [102, 114, 97, 109, 101] (splitF w (bs.length + 1) bs 0 []).2.1 120], h', .write⟩
       else ∃ lv cells, Lists h' lv cells (splitF w (bs.length + 1) bs 0 []).1 h.next ∧ o = .ret ⟨.tup [lv, .int .i64 (splitF w (bs.length + 1) bs 0 []).2.1, .nils], h', .write⟩)) := by
  refine call_body rfl rfl (.inl rfl) ?_
  have hmax : rmaxOf w = maxOf w := by rcases hw with rfl | rfl <;> simp [maxOf, rmaxOf]
  have z0 : (maxOf w < 0) = False := eq_false (by rcases hw with rfl | rfl <;> simp [maxOf])
  simp only [a20, a20_0, a20_1, a20_2, a20_4, a20_5, Slots.ofList, wpc_skip, wpc_ops, wpc_draw, wpc_seq, wpc_cond, wpc_block, wpc_loop, wpc_exit, wpc_scope, wpc_ret, seqQ_norm, seqQ_ret, seqQ_exit, blockQ'_norm, blockQ'_ret, blockQ'_exit, roundQ_norm, roundQ_ret, roundQ_exit, condK_true, condK_false, wpo_nil', wpo_none, wpo_some, opsK_apply, guardK_tt, guardK_ff, guardK_tf, guardK_ft, wp1_call, callK_ret, wp1_mv', wp1_bin', wp1_un', wp1_eq', wp1_extract', wp1_pick', wp1_len', wp1_load', wp1_conv', wp1_store', wp1_idxAddr', wp1_append', wp1_mkIface', wp1_alloc', rd_t, rd_c, ok_t, ok_c, put_some, put_none, get_put, reduceIte, Nat.reduceEqDiff, AV.bool.injEq, Option.some.injEq, exists_eq_left', Option.map_some, Option.bind_some, opds_nil, opds_cons, opd_t, opd_c, aBin, aInt, decide_true, decide_false, negIf, wc_eq (rgreatest_spec _ _), hmax, z0]
  refine rsplit_loop hw ho hb hsm (bs.length + 1) 0 [] [] .nils h _ (by omega) (by omega) (by simp) ho (Heap.le_refl h) ⟨.nils, .nil, (fun id e => by cases e), (fun x hx => by cases hx)⟩ (by simp [get_put]) (by simp [get_put]) (by simp [get_put]) (by simp [get_put]) (by simp [get_put]) ?_ ?_
  · intro σ' h' lv' cells' ho' hl' hr hL g4 g5 g6
    simp only [List.drop_zero] at hr hL g5
    simp only [blockQ'_ret]
    refine ⟨[lv', .int .i64 (splitF w (bs.length + 1) bs 0 []).2.1, .nils], by simp only [Env.results, Option.map_some, g4, g5, g6], h', ho', hl', ?_⟩
    rw [if_neg (by simp [hr])]
    exact ⟨lv', cells', hL, rfl⟩
  · intro σ' h' ho' hl' hr g4 g5 g6
    simp only [List.drop_zero] at hr g6
    simp only [blockQ'_ret]
    refine ⟨[.nils, .int .i64 0, linkV [102, 114, 97, 109, 101] (splitF w (bs.length + 1) bs 0 []).2.1 120], by simp only [Env.results, Option.map_some, g4, g5, g6], h', ho', hl', ?_⟩
    rw [if_pos hr]
    rfl
end Go.Fd
