/-
  Package heddlemem: Chain and Refused, of no error and of a Fault that stands alone.
-/
import Derived.Test.YtlggjdneolgkoaaDoorFdRNext
import Derived.Test.YtlggjdneolgkoaaDoorFdEq
import Derived.Test.YtlggjdneolgkoaaDoorAmCls
set_option linter.unusedVariables false
set_option linter.unusedSimpArgs false
set_option maxRecDepth 20000
namespace Go.Fd
open Go.AM

/-- a Fault of a layer -/
def faultL (l : List UInt8) (a c : Int) : AV := .ifc 75 (.fp [.str l, .int .i64 a, .int .i64 c, .nili])

theorem wc_prim {f : Nat} {p : List AV → Heap → Option (AV × Heap)} {args : List AV} {h h' : Heap} {v : AV} (hp : env.prim f = some p) (hv : p args h = some (v, h')) : WC env f args h (fun o => o = .ret ⟨v, h', .write⟩) := by
  refine ⟨_, ⟨1, fun m hm => ?_⟩, rfl⟩
  obtain ⟨m, rfl⟩ : ∃ k, m = k + 1 := ⟨m - 1, by omega⟩
  simp only [Env.call, hp, hv, Option.map_some]

theorem as_wc {l : List UInt8} {a c : Int} {h : Heap} {id : Nat} {x : AV} (hat : h.at_ id 0 = some [x]) :
    WC env 32 [faultL l a c, .ifc 80 (.ptr id 0 0)] h (fun o => o = .ret ⟨.bool true, h.upd id 0 [.fp [.str l, .int .i64 a, .int .i64 c, .nili]], .write⟩) := by
  refine wc_prim (p := asP) rfl ?_
  simp only [faultL, asP, hat, Option.bind_some]
  rfl

theorem is_wc {l : List UInt8} {a c : Int} {h : Heap} : WC env 27 [faultL l a c, .ifc 64 (.int .i64 c)] h (fun o => o = .ret ⟨.bool true, h, .write⟩) := by
  refine wc_prim (p := isP) rfl ?_
  simp only [faultL, isP]
  rw [show (c == c) = true by simp]

theorem eq_faultL (l : List UInt8) (a c : Int) : aEq (.iface true) (faultL l a c) .nili = some false := rfl

theorem chain_hit {l : List UInt8} {a c : Int} {h : Heap} (ho : HeapOk h) :
    WC env 26 [faultL l a c] h (fun o => ∃ h' id, HeapOk h' ∧ h.le h' ∧ h'.at_ id 0 = some [.str l, .int .i64 a, .int .i64 c] ∧ o = .ret ⟨.sl id 0 0 3 1 none, h', .write⟩) := by
  refine call_body rfl rfl (.inl rfl) ?_
  simp only [a26, a26_0, a26_1, a26_2, Slots.ofList, wpc_skip, wpc_ops, wpc_draw, wpc_seq, wpc_cond, wpc_block, wpc_loop, wpc_exit, wpc_scope, wpc_ret, seqQ_norm, seqQ_ret, seqQ_exit, blockQ'_norm, blockQ'_ret, blockQ'_exit, roundQ_norm, roundQ_ret, roundQ_exit, condK_true, condK_false, wpo_nil', wpo_none, wpo_some, opsK_apply, guardK_tt, guardK_ff, guardK_tf, guardK_ft, wp1_call, callK_ret, wp1_mv', wp1_bin', wp1_un', wp1_eq', wp1_extract', wp1_pick', wp1_len', wp1_load', wp1_conv', wp1_store', wp1_idxAddr', wp1_append', wp1_mkIface', wp1_alloc', rd_t, rd_c, ok_t, ok_c, put_some, put_none, get_put, reduceIte, Nat.reduceEqDiff, AV.bool.injEq, Option.some.injEq, exists_eq_left', Option.map_some, Option.bind_some, opds_nil, opds_cons, opd_t, opd_c, aBin, aInt, decide_true, decide_false, negIf, wp1_nilCheck', wp1_fieldAddr', wp1_slice, op_slice, opdo_some, opdo_none, wp1_lit, op_lit, parts_nil, parts_cons, wp1_build, op_build, wp1_box, op_box]
  refine wpr_round' fun b hb' => ?_
  have z0 : ((0 : Int) < 16) = True := eq_true (by decide)
  have z1 : IntKind.wrap .i64 ((0 : Int) + 1) = 1 := by decide
  obtain ⟨h1, eh1⟩ : ∃ h1, h1 = h.new [.nilp] := ⟨_, rfl⟩
  have ho1 : HeapOk h1 := by rw [eh1]; exact ho.new _
  have hle1 : h.le h1 := by rw [eh1]; exact le_new ho _
  have hat1 : h1.at_ h.next 0 = some [.nilp] := by rw [eh1]; exact at_new _
  have w1 := as_wc (l := l) (a := a) (c := c) hat1
  obtain ⟨h2, eh2⟩ : ∃ h2, h2 = h1.upd h.next 0 [.fp [.str l, .int .i64 a, .int .i64 c, .nili]] := ⟨_, rfl⟩
  rw [← eh2] at w1
  have ho2 : HeapOk h2 := by rw [eh2]; exact ho1.upd (at_look.1 hat1) _ _
  have hat2 : h2.at_ h.next 0 = some [.fp [.str l, .int .i64 a, .int .i64 c, .nili]] := by rw [eh2]; exact at_upd
  have hle2 : h.le h2 := by
    refine ⟨by rw [eh2]; exact hle1.1, fun i g cs e => ?_⟩
    rw [eh2, at_upd_ne (fun e2 => by have := ho.lt e; omega)]
    exact hle1.2 _ _ _ e
  have l0 : aLoad h2 false 1 (.ptr h.next 0 0) = some ⟨.fp [.str l, .int .i64 a, .int .i64 c, .nili], h2, .read⟩ := by simp only [aLoad, hat2, Option.bind_some]; rfl
  have y0 : aEq .ptr (.fp [.str l, .int .i64 a, .int .i64 c, .nili]) .nilp = some false := rfl
  have y1 : aNil (.fp [.str l, .int .i64 a, .int .i64 c, .nili]) = some (.fp [.str l, .int .i64 a, .int .i64 c, .nili]) := rfl
  have f0 : aFieldAddr 0 (.fp [.str l, .int .i64 a, .int .i64 c, .nili]) = some (.fp [.str l, .int .i64 a, .int .i64 c, .nili]) := rfl
  have f1 : aFieldAddr 1 (.fp [.str l, .int .i64 a, .int .i64 c, .nili]) = some (.fp [.int .i64 a, .int .i64 c, .nili]) := rfl
  have f2 : aFieldAddr 2 (.fp [.str l, .int .i64 a, .int .i64 c, .nili]) = some (.fp [.int .i64 c, .nili]) := rfl
  have f3 : aFieldAddr 3 (.fp [.str l, .int .i64 a, .int .i64 c, .nili]) = some (.fp [.nili]) := rfl
  have d0 : aLoad h2 false 1 (.fp [.str l, .int .i64 a, .int .i64 c, .nili]) = some ⟨.str l, h2, .none⟩ := rfl
  have d1 : aLoad h2 false 1 (.fp [.int .i64 a, .int .i64 c, .nili]) = some ⟨.int .i64 a, h2, .none⟩ := rfl
  have d2 : aLoad h2 false 1 (.fp [.int .i64 c, .nili]) = some ⟨.int .i64 c, h2, .none⟩ := rfl
  have b0 : aFill [.str [], .int .i64 0, .int .i64 0] [(0, 1, .str l), (1, 1, .int .i64 a), (2, 1, .int .i64 c)] = some [.str l, .int .i64 a, .int .i64 c] := rfl
  have b1 : aFill [.str [], .int .i64 0, .int .i64 0] [(0, 3, .agg [.str l, .int .i64 a, .int .i64 c])] = some [.str l, .int .i64 a, .int .i64 c] := rfl
  have b2 : [AV.str l, .int .i64 a, .int .i64 c].length = 1 * 3 := rfl
  have ap : aAppend h2 3 32 .nils (.fs true 1 [.str l, .int .i64 a, .int .i64 c]) = some ⟨.sl h2.next 0 0 3 1 none, h2.new [.str l, .int .i64 a, .int .i64 c], .write⟩ := by
    simp [aAppend, aLen_fs, aLen_nils, sliceCells]
  obtain ⟨h3, eh3⟩ : ∃ h3, h3 = h2.new [.str l, .int .i64 a, .int .i64 c] := ⟨_, rfl⟩
  rw [← eh3] at ap
  have hle3 : h2.le h3 := by rw [eh3]; exact le_new ho2 _
  have l3 : aLoad h3 false 1 (.ptr h.next 0 0) = some ⟨.fp [.str l, .int .i64 a, .int .i64 c, .nili], h3, .read⟩ := by simp only [aLoad, hle3.2 _ _ _ hat2, Option.bind_some]; rfl
  have d3 : aLoad h3 false 1 (.fp [.nili]) = some ⟨.nili, h3, .none⟩ := rfl
  simp only [a26_l10, a26_3, a26_4, a26_5, a26_7, a26_8, a26_9, wpc_skip, wpc_ops, wpc_draw, wpc_seq, wpc_cond, wpc_block, wpc_loop, wpc_exit, wpc_scope, wpc_ret, seqQ_norm, seqQ_ret, seqQ_exit, blockQ'_norm, blockQ'_ret, blockQ'_exit, roundQ_norm, roundQ_ret, roundQ_exit, condK_true, condK_false, wpo_nil', wpo_none, wpo_some, opsK_apply, guardK_tt, guardK_ff, guardK_tf, guardK_ft, wp1_call, callK_ret, wp1_mv', wp1_bin', wp1_un', wp1_eq', wp1_extract', wp1_pick', wp1_len', wp1_load', wp1_conv', wp1_store', wp1_idxAddr', wp1_append', wp1_mkIface', wp1_alloc', rd_t, rd_c, ok_t, ok_c, put_some, put_none, get_put, reduceIte, Nat.reduceEqDiff, AV.bool.injEq, Option.some.injEq, exists_eq_left', Option.map_some, Option.bind_some, opds_nil, opds_cons, opd_t, opd_c, aBin, aInt, decide_true, decide_false, negIf, wp1_nilCheck', wp1_fieldAddr', wp1_slice, op_slice, opdo_some, opdo_none, wp1_lit, op_lit, parts_nil, parts_cons, wp1_build, op_build, wp1_box, op_box, wpl_nil', wpl_none, wpl_some, logK_apply, logQ_apply, guardL_tt, guardL_ff, guardL_tf, guardL_ft, drawQ_apply, z0, z1, eq_faultL, Bool.not_false, Bool.not_true, aPick, ← eh1, wc_eq w1, aUn, l0, y0, y1, f0, f1, f2, f3, d0, d1, d2, b0, b1, if_pos b2, ap, l3, d3]
  refine ⟨draw_of_cls rfl, ?_⟩
  subst hb'
  refine wpr_round' fun b hb' => ?_
  have z2 : ((1 : Int) < 16) = True := eq_true (by decide)
  simp only [a26_l10, a26_3, a26_11, wpc_skip, wpc_ops, wpc_draw, wpc_seq, wpc_cond, wpc_block, wpc_loop, wpc_exit, wpc_scope, wpc_ret, seqQ_norm, seqQ_ret, seqQ_exit, blockQ'_norm, blockQ'_ret, blockQ'_exit, roundQ_norm, roundQ_ret, roundQ_exit, condK_true, condK_false, wpo_nil', wpo_none, wpo_some, opsK_apply, guardK_tt, guardK_ff, guardK_tf, guardK_ft, wp1_call, callK_ret, wp1_mv', wp1_bin', wp1_un', wp1_eq', wp1_extract', wp1_pick', wp1_len', wp1_load', wp1_conv', wp1_store', wp1_idxAddr', wp1_append', wp1_mkIface', wp1_alloc', rd_t, rd_c, ok_t, ok_c, put_some, put_none, get_put, reduceIte, Nat.reduceEqDiff, AV.bool.injEq, Option.some.injEq, exists_eq_left', Option.map_some, Option.bind_some, opds_nil, opds_cons, opd_t, opd_c, aBin, aInt, decide_true, decide_false, negIf, wp1_nilCheck', wp1_fieldAddr', wp1_slice, op_slice, opdo_some, opdo_none, wp1_lit, op_lit, parts_nil, parts_cons, wp1_build, op_build, wp1_box, op_box, z2, eq_nil, Bool.not_true, aPick]
  exact ⟨[.sl h2.next 0 0 3 1 none], by simp only [Env.results, Option.map_some, get_put, reduceIte, Nat.reduceEqDiff], h3, h2.next, by rw [eh3]; exact ho2.new _, Heap.le_trans hle2 hle3, by rw [eh3]; exact at_new _, rfl⟩

theorem refused_ok (h : Heap) : WC env 8 [.nili, .nils] h (fun o => o = .ret ⟨.bool true, h, .write⟩) := by
  refine call_body rfl rfl (.inl rfl) ?_
  have z0 : ((0 : Int) == 0) = true := by decide
  have e0 : aLenOp false h .nils = some ⟨.int .i64 0, h, .none⟩ := rfl
  simp only [a8, a8_0, a8_1, a8_2, Slots.ofList, wpc_skip, wpc_ops, wpc_draw, wpc_seq, wpc_cond, wpc_block, wpc_loop, wpc_exit, wpc_scope, wpc_ret, seqQ_norm, seqQ_ret, seqQ_exit, blockQ'_norm, blockQ'_ret, blockQ'_exit, roundQ_norm, roundQ_ret, roundQ_exit, condK_true, condK_false, wpo_nil', wpo_none, wpo_some, opsK_apply, guardK_tt, guardK_ff, guardK_tf, guardK_ft, wp1_call, callK_ret, wp1_mv', wp1_bin', wp1_un', wp1_eq', wp1_extract', wp1_pick', wp1_len', wp1_load', wp1_conv', wp1_store', wp1_idxAddr', wp1_append', wp1_mkIface', wp1_alloc', rd_t, rd_c, ok_t, ok_c, put_some, put_none, get_put, reduceIte, Nat.reduceEqDiff, AV.bool.injEq, Option.some.injEq, exists_eq_left', Option.map_some, Option.bind_some, opds_nil, opds_cons, opd_t, opd_c, aBin, aInt, decide_true, decide_false, negIf, wp1_nilCheck', wp1_fieldAddr', wp1_slice, op_slice, opdo_some, opdo_none, wp1_lit, op_lit, parts_nil, parts_cons, wp1_build, op_build, wp1_box, op_box, e0, z0, eq_nil]
  exact ⟨[.bool true], by simp only [Env.results, Option.map_some, get_put, reduceIte, Nat.reduceEqDiff], rfl⟩

theorem eqs_link (l : List UInt8) (a c : Int) : aEq (.struct [(0, 1, false, .str), (1, 1, false, .int), (2, 1, false, .int)]) (.agg [.str l, .int .i64 a, .int .i64 c]) (.agg [.str l, .int .i64 a, .int .i64 c]) = some true := by
  simp [aEq, aEqs, aEqScalar]

theorem refused_hit {l : List UInt8} {a c : Int} {h : Heap} (ho : HeapOk h) : WC env 8 [faultL l a c, linkV l a c] h (fun o => ∃ h', HeapOk h' ∧ h.le h' ∧ o = .ret ⟨.bool true, h', .write⟩) := by
  obtain ⟨o, ev, h1, id, ho1, hle1, hat1, rfl⟩ := chain_hit (l := l) (a := a) (c := c) ho
  have w1 : WC env 26 [faultL l a c] h (fun o => o = _) := ⟨_, ev, rfl⟩
  refine call_body rfl rfl (.inl rfl) ?_
  have z0 : ((1 : Int) == 0) = false := by decide
  have z1 : ((1 : Int) != 1) = false := by decide
  have z2 : ((0 : Int) < 1) = True := eq_true (by decide)
  have z3 : IntKind.wrap .i64 ((0 : Int) + 1) = 1 := by decide
  have z4 : ((1 : Int) < 1) = False := eq_false (by decide)
  have z5 : IntKind.wrap .i64 ((1 : Int) - 1) = 0 := by decide
  have e0 : ∀ h, aLenOp false h (linkV l a c) = some ⟨.int .i64 1, h, .none⟩ := fun h => rfl
  have e1 : ∀ h, aLenOp false h (.sl id 0 0 3 1 none) = some ⟨.int .i64 1, h, .none⟩ := fun h => rfl
  have i0 : aIdxAddr 3 (.sl id 0 0 3 1 none) (.int .i64 0) = some (.ptr id 0 0) := rfl
  have i1 : aIdxAddr 3 (linkV l a c) (.int .i64 0) = some (.fp [.str l, .int .i64 a, .int .i64 c]) := rfl
  have l0 : aLoad h1 true 3 (.ptr id 0 0) = some ⟨.agg [.str l, .int .i64 a, .int .i64 c], h1, .read⟩ := by simp only [aLoad, hat1, Option.bind_some]; rfl
  have l1 : aLoad h1 true 3 (.fp [.str l, .int .i64 a, .int .i64 c]) = some ⟨.agg [.str l, .int .i64 a, .int .i64 c], h1, .none⟩ := rfl
  have f2 : aFieldAddr 2 (.fp [.str l, .int .i64 a, .int .i64 c]) = some (.fp [.int .i64 c]) := rfl
  have l2 : aLoad h1 false 1 (.fp [.int .i64 c]) = some ⟨.int .i64 c, h1, .none⟩ := rfl
  simp only [a8, a8_0, a8_1, a8_3, a8_4, a8_6, Slots.ofList, wpc_skip, wpc_ops, wpc_draw, wpc_seq, wpc_cond, wpc_block, wpc_loop, wpc_exit, wpc_scope, wpc_ret, seqQ_norm, seqQ_ret, seqQ_exit, blockQ'_norm, blockQ'_ret, blockQ'_exit, roundQ_norm, roundQ_ret, roundQ_exit, condK_true, condK_false, wpo_nil', wpo_none, wpo_some, opsK_apply, guardK_tt, guardK_ff, guardK_tf, guardK_ft, wp1_call, callK_ret, wp1_mv', wp1_bin', wp1_un', wp1_eq', wp1_extract', wp1_pick', wp1_len', wp1_load', wp1_conv', wp1_store', wp1_idxAddr', wp1_append', wp1_mkIface', wp1_alloc', rd_t, rd_c, ok_t, ok_c, put_some, put_none, get_put, reduceIte, Nat.reduceEqDiff, AV.bool.injEq, Option.some.injEq, exists_eq_left', Option.map_some, Option.bind_some, opds_nil, opds_cons, opd_t, opd_c, aBin, aInt, decide_true, decide_false, negIf, wp1_nilCheck', wp1_fieldAddr', wp1_slice, op_slice, opdo_some, opdo_none, wp1_lit, op_lit, parts_nil, parts_cons, wp1_build, op_build, wp1_box, op_box, e0, z0, wc_eq w1, e1, z1]
  refine wpr_round' fun b hb' => ?_
  simp only [a8_l11, a8_7, a8_8, a8_10, wpc_skip, wpc_ops, wpc_draw, wpc_seq, wpc_cond, wpc_block, wpc_loop, wpc_exit, wpc_scope, wpc_ret, seqQ_norm, seqQ_ret, seqQ_exit, blockQ'_norm, blockQ'_ret, blockQ'_exit, roundQ_norm, roundQ_ret, roundQ_exit, condK_true, condK_false, wpo_nil', wpo_none, wpo_some, opsK_apply, guardK_tt, guardK_ff, guardK_tf, guardK_ft, wp1_call, callK_ret, wp1_mv', wp1_bin', wp1_un', wp1_eq', wp1_extract', wp1_pick', wp1_len', wp1_load', wp1_conv', wp1_store', wp1_idxAddr', wp1_append', wp1_mkIface', wp1_alloc', rd_t, rd_c, ok_t, ok_c, put_some, put_none, get_put, reduceIte, Nat.reduceEqDiff, AV.bool.injEq, Option.some.injEq, exists_eq_left', Option.map_some, Option.bind_some, opds_nil, opds_cons, opd_t, opd_c, aBin, aInt, decide_true, decide_false, negIf, wp1_nilCheck', wp1_fieldAddr', wp1_slice, op_slice, opdo_some, opdo_none, wp1_lit, op_lit, parts_nil, parts_cons, wp1_build, op_build, wp1_box, op_box, wpl_nil', wpl_none, wpl_some, logK_apply, logQ_apply, guardL_tt, guardL_ff, guardL_tf, guardL_ft, drawQ_apply, e0, z2, i0, i1, l0, l1, eqs_link, Bool.not_true, z3]
  refine ⟨draw_of_cls rfl, ?_⟩
  subst hb'
  refine wpr_round' fun b hb' => ?_
  simp only [a8_l11, a8_7, a8_12, wpc_skip, wpc_ops, wpc_draw, wpc_seq, wpc_cond, wpc_block, wpc_loop, wpc_exit, wpc_scope, wpc_ret, seqQ_norm, seqQ_ret, seqQ_exit, blockQ'_norm, blockQ'_ret, blockQ'_exit, roundQ_norm, roundQ_ret, roundQ_exit, condK_true, condK_false, wpo_nil', wpo_none, wpo_some, opsK_apply, guardK_tt, guardK_ff, guardK_tf, guardK_ft, wp1_call, callK_ret, wp1_mv', wp1_bin', wp1_un', wp1_eq', wp1_extract', wp1_pick', wp1_len', wp1_load', wp1_conv', wp1_store', wp1_idxAddr', wp1_append', wp1_mkIface', wp1_alloc', rd_t, rd_c, ok_t, ok_c, put_some, put_none, get_put, reduceIte, Nat.reduceEqDiff, AV.bool.injEq, Option.some.injEq, exists_eq_left', Option.map_some, Option.bind_some, opds_nil, opds_cons, opd_t, opd_c, aBin, aInt, decide_true, decide_false, negIf, wp1_nilCheck', wp1_fieldAddr', wp1_slice, op_slice, opdo_some, opdo_none, wp1_lit, op_lit, parts_nil, parts_cons, wp1_build, op_build, wp1_box, op_box, e0, z4, z5, i1, f2, l2, wc_eq (is_wc (l := l) (a := a) (c := c) (h := h1))]
  exact ⟨[.bool true], by simp only [Env.results, Option.map_some, get_put, reduceIte, Nat.reduceEqDiff], h1, ho1, hle1, rfl⟩
end Go.Fd
