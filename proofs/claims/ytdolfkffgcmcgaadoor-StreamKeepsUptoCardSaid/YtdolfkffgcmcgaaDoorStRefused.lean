/-
  Package heddlemem: Chain and Refused, of no error and of a Fault that stands alone; package stream: State.
-/
import Derived.Test.YtdolfkffgcmcgaaDoorStCalls2
set_option linter.unusedVariables false
set_option linter.unusedSimpArgs false
set_option maxRecDepth 20000
namespace Go.St
open Go.AM

/-- one link -/
def linkV (layer : List UInt8) (a c : Int) : AV := .fs true 1 [.str layer, .int .i64 a, .int .i64 c]
/-- a Fault of a layer -/
def faultL (l : List UInt8) (a c : Int) : AV := .ifc 84 (.fp [.str l, .int .i64 a, .int .i64 c, .nili])

theorem as_wc {l : List UInt8} {a c : Int} {h : Heap} {id : Nat} {x : AV} (hat : h.at_ id 0 = some [x]) :
    WC env 41 [faultL l a c, .ifc 92 (.ptr id 0 0)] h (fun o => o = .ret ⟨.bool true, h.upd id 0 [.fp [.str l, .int .i64 a, .int .i64 c, .nili]], .write⟩) := by
  refine wc_prim (p := asP) rfl ?_
  simp only [faultL, asP, hat, Option.bind_some]
  rfl

theorem is_wc {l : List UInt8} {a c : Int} {h : Heap} : WC env 27 [faultL l a c, .ifc 42 (.int .i64 c)] h (fun o => o = .ret ⟨.bool true, h, .write⟩) := by
  refine wc_prim (p := isP) rfl ?_
  simp only [faultL, isP]
  rw [show (c == c) = true by simp]

theorem eq_faultL (l : List UInt8) (a c : Int) : aEq (.iface true) (faultL l a c) .nili = some false := rfl

theorem chain_hit {l : List UInt8} {a c : Int} {h : Heap} (ho : HeapOk h) :
    WC env 30 [faultL l a c] h (fun o => ∃ h' id, HeapOk h' ∧ h.le h' ∧ h'.at_ id 0 = some [.str l, .int .i64 a, .int .i64 c] ∧ o = .ret ⟨.sl id 0 0 3 1 none, h', .write⟩) := by
  refine call_body rfl rfl (.inl rfl) ?_
  simp only [a30, a30_0, a30_1, a30_2, Slots.ofList, wpc_skip, wpc_ops, wpc_draw, wpc_seq, wpc_cond, wpc_block, wpc_loop, wpc_exit, wpc_scope, wpc_ret, seqQ_norm, seqQ_ret, seqQ_exit, blockQ'_norm, blockQ'_ret, blockQ'_exit, roundQ_norm, roundQ_ret, roundQ_exit, condK_true, condK_false, wpo_nil', wpo_none, wpo_some, opsK_apply, guardK_tt, guardK_ff, guardK_tf, guardK_ft, wp1_call, callK_ret, wp1_mv', wp1_bin', wp1_un', wp1_eq', wp1_extract', wp1_pick', wp1_len', wp1_load', wp1_conv', wp1_store', wp1_idxAddr', wp1_append', wp1_mkIface', wp1_alloc', rd_t, rd_c, ok_t, ok_c, put_some, put_none, get_put, reduceIte, Nat.reduceEqDiff, AV.bool.injEq, Option.some.injEq, exists_eq_left', Option.map_some, Option.bind_some, opds_nil, opds_cons, opd_t, opd_c, aBin, aInt, decide_true, decide_false, negIf, wp1_nilCheck', wp1_fieldAddr', wp1_slice, op_slice, opdo_some, opdo_none, wp1_lit, op_lit, parts_nil, parts_cons, wp1_build, op_build, wp1_box, op_box]
  refine wpr_round' fun b hb' => ?_
  have z0 : ((0 : Int) < 16) = True := eq_true (by decide)
  have z1 : IntKind.wrap .i64 ((0 : Int) + 1) = 1 := by decide
  obtain ⟨h1, eh1⟩ : ∃ h1, h1 = h.new [.nilp] := ⟨_, rfl⟩
  have ho1 : HeapOk h1 := by rw [eh1]; exact ho.new _
  have hle1 : h.le h1 := by rw [eh1]; exact le_new ho _
  have hat1 : h1.at_ h.next 0 = some [.nilp] := by rw [eh1]; exact at_new _
  have w1 := as_wc (l := l) (a := a) (c := c) hat1
  obtain ⟨h2, eh2⟩ : ∃ h2, h2 = h1.upd h.next 0 [.fp [.str l, .int .i64 a, .int .i64 c, .nili]] := ⟨_, rfl⟩
  rw [← eh2] at w1
  have ho2 : HeapOk h2 := by rw [eh2]; exact ho1.upd (at_look.1 hat1) _ _
  have hat2 : h2.at_ h.next 0 = some [.fp [.str l, .int .i64 a, .int .i64 c, .nili]] := by rw [eh2]; exact at_upd
  have hle2 : h.le h2 := by
    refine ⟨by rw [eh2]; exact hle1.1, fun i g cs e => ?_⟩
    rw [eh2, at_upd_ne (fun e2 => by have := ho.lt e; omega)]
    exact hle1.2 _ _ _ e
  have l0 : aLoad h2 false 1 (.ptr h.next 0 0) = some ⟨.fp [.str l, .int .i64 a, .int .i64 c, .nili], h2, .read⟩ := by simp only [aLoad, hat2, Option.bind_some]; rfl
  have y0 : aEq .ptr (.fp [.str l, .int .i64 a, .int .i64 c, .nili]) .nilp = some false := rfl
  have y1 : aNil (.fp [.str l, .int .i64 a, .int .i64 c, .nili]) = some (.fp [.str l, .int .i64 a, .int .i64 c, .nili]) := rfl
  have f0 : aFieldAddr 0 (.fp [.str l, .int .i64 a, .int .i64 c, .nili]) = some (.fp [.str l, .int .i64 a, .int .i64 c, .nili]) := rfl
  have f1 : aFieldAddr 1 (.fp [.str l, .int .i64 a, .int .i64 c, .nili]) = some (.fp [.int .i64 a, .int .i64 c, .nili]) := rfl
  have f2 : aFieldAddr 2 (.fp [.str l, .int .i64 a, .int .i64 c, .nili]) = some (.fp [.int .i64 c, .nili]) := rfl
  have f3 : aFieldAddr 3 (.fp [.str l, .int .i64 a, .int .i64 c, .nili]) = some (.fp [.nili]) := rfl
  have d0 : aLoad h2 false 1 (.fp [.str l, .int .i64 a, .int .i64 c, .nili]) = some ⟨.str l, h2, .none⟩ := rfl
  have d1 : aLoad h2 false 1 (.fp [.int .i64 a, .int .i64 c, .nili]) = some ⟨.int .i64 a, h2, .none⟩ := rfl
  have d2 : aLoad h2 false 1 (.fp [.int .i64 c, .nili]) = some ⟨.int .i64 c, h2, .none⟩ := rfl
  have b0 : aFill [.str [], .int .i64 0, .int .i64 0] [(0, 1, .str l), (1, 1, .int .i64 a), (2, 1, .int .i64 c)] = some [.str l, .int .i64 a, .int .i64 c] := rfl
  have b1 : aFill [.str [], .int .i64 0, .int .i64 0] [(0, 3, .agg [.str l, .int .i64 a, .int .i64 c])] = some [.str l, .int .i64 a, .int .i64 c] := rfl
  have b2 : [AV.str l, .int .i64 a, .int .i64 c].length = 1 * 3 := rfl
  have ap : aAppend h2 3 32 .nils (.fs true 1 [.str l, .int .i64 a, .int .i64 c]) = some ⟨.sl h2.next 0 0 3 1 none, h2.new [.str l, .int .i64 a, .int .i64 c], .write⟩ := by
    simp [aAppend, aLen_fs, aLen_nils, sliceCells]
  obtain ⟨h3, eh3⟩ : ∃ h3, h3 = h2.new [.str l, .int .i64 a, .int .i64 c] := ⟨_, rfl⟩
  rw [← eh3] at ap
  have hle3 : h2.le h3 := by rw [eh3]; exact le_new ho2 _
  have l3 : aLoad h3 false 1 (.ptr h.next 0 0) = some ⟨.fp [.str l, .int .i64 a, .int .i64 c, .nili], h3, .read⟩ := by simp only [aLoad, hle3.2 _ _ _ hat2, Option.bind_some]; rfl
  have d3 : aLoad h3 false 1 (.fp [.nili]) = some ⟨.nili, h3, .none⟩ := rfl
  simp only [a30_l10, a30_3, a30_4, a30_5, a30_7, a30_8, a30_9, wpc_skip, wpc_ops, wpc_draw, wpc_seq, wpc_cond, wpc_block, wpc_loop, wpc_exit, wpc_scope, wpc_ret, seqQ_norm, seqQ_ret, seqQ_exit, blockQ'_norm, blockQ'_ret, blockQ'_exit, roundQ_norm, roundQ_ret, roundQ_exit, condK_true, condK_false, wpo_nil', wpo_none, wpo_some, opsK_apply, guardK_tt, guardK_ff, guardK_tf, guardK_ft, wp1_call, callK_ret, wp1_mv', wp1_bin', wp1_un', wp1_eq', wp1_extract', wp1_pick', wp1_len', wp1_load', wp1_conv', wp1_store', wp1_idxAddr', wp1_append', wp1_mkIface', wp1_alloc', rd_t, rd_c, ok_t, ok_c, put_some, put_none, get_put, reduceIte, Nat.reduceEqDiff, AV.bool.injEq, Option.some.injEq, exists_eq_left', Option.map_some, Option.bind_some, opds_nil, opds_cons, opd_t, opd_c, aBin, aInt, decide_true, decide_false, negIf, wp1_nilCheck', wp1_fieldAddr', wp1_slice, op_slice, opdo_some, opdo_none, wp1_lit, op_lit, parts_nil, parts_cons, wp1_build, op_build, wp1_box, op_box, wpl_nil', wpl_none, wpl_some, logK_apply, logQ_apply, guardL_tt, guardL_ff, guardL_tf, guardL_ft, drawQ_apply, z0, z1, eq_faultL, Bool.not_false, Bool.not_true, aPick, ← eh1, wc_eq w1, aUn, l0, y0, y1, f0, f1, f2, f3, d0, d1, d2, b0, b1, if_pos b2, ap, l3, d3]
  refine ⟨draw_of_cls rfl, ?_⟩
  subst hb'
  refine wpr_round' fun b hb' => ?_
  have z2 : ((1 : Int) < 16) = True := eq_true (by decide)
  simp only [a30_l10, a30_3, a30_11, wpc_skip, wpc_ops, wpc_draw, wpc_seq, wpc_cond, wpc_block, wpc_loop, wpc_exit, wpc_scope, wpc_ret, seqQ_norm, seqQ_ret, seqQ_exit, blockQ'_norm, blockQ'_ret, blockQ'_exit, roundQ_norm, roundQ_ret, roundQ_exit, condK_true, condK_false, wpo_nil', wpo_none, wpo_some, opsK_apply, guardK_tt, guardK_ff, guardK_tf, guardK_ft, wp1_call, callK_ret, wp1_mv', wp1_bin', wp1_un', wp1_eq', wp1_extract', wp1_pick', wp1_len', wp1_load', wp1_conv', wp1_store', wp1_idxAddr', wp1_append', wp1_mkIface', wp1_alloc', rd_t, rd_c, ok_t, ok_c, put_some, put_none, get_put, reduceIte, Nat.reduceEqDiff, AV.bool.injEq, Option.some.injEq, exists_eq_left', Option.map_some, Option.bind_some, opds_nil, opds_cons, opd_t, opd_c, aBin, aInt, decide_true, decide_false, negIf, wp1_nilCheck', wp1_fieldAddr', wp1_slice, op_slice, opdo_some, opdo_none, wp1_lit, op_lit, parts_nil, parts_cons, wp1_build, op_build, wp1_box, op_box, z2, eq_nil, Bool.not_true, aPick]
  exact ⟨[.sl h2.next 0 0 3 1 none], by simp only [Env.results, Option.map_some, get_put, reduceIte, Nat.reduceEqDiff], h3, h2.next, by rw [eh3]; exact ho2.new _, Heap.le_trans hle2 hle3, by rw [eh3]; exact at_new _, rfl⟩

theorem refused_ok (h : Heap) : WC env 16 [.nili, .nils] h (fun o => o = .ret ⟨.bool true, h, .write⟩) := by
  refine call_body rfl rfl (.inl rfl) ?_
  have z0 : ((0 : Int) == 0) = true := by decide
  have e0 : aLenOp false h .nils = some ⟨.int .i64 0, h, .none⟩ := rfl
  simp only [a16, a16_0, a16_1, a16_2, Slots.ofList, wpc_skip, wpc_ops, wpc_draw, wpc_seq, wpc_cond, wpc_block, wpc_loop, wpc_exit, wpc_scope, wpc_ret, seqQ_norm, seqQ_ret, seqQ_exit, blockQ'_norm, blockQ'_ret, blockQ'_exit, roundQ_norm, roundQ_ret, roundQ_exit, condK_true, condK_false, wpo_nil', wpo_none, wpo_some, opsK_apply, guardK_tt, guardK_ff, guardK_tf, guardK_ft, wp1_call, callK_ret, wp1_mv', wp1_bin', wp1_un', wp1_eq', wp1_extract', wp1_pick', wp1_len', wp1_load', wp1_conv', wp1_store', wp1_idxAddr', wp1_append', wp1_mkIface', wp1_alloc', rd_t, rd_c, ok_t, ok_c, put_some, put_none, get_put, reduceIte, Nat.reduceEqDiff, AV.bool.injEq, Option.some.injEq, exists_eq_left', Option.map_some, Option.bind_some, opds_nil, opds_cons, opd_t, opd_c, aBin, aInt, decide_true, decide_false, negIf, wp1_nilCheck', wp1_fieldAddr', wp1_slice, op_slice, opdo_some, opdo_none, wp1_lit, op_lit, parts_nil, parts_cons, wp1_build, op_build, wp1_box, op_box, e0, z0, eq_nil]
  exact ⟨[.bool true], by simp only [Env.results, Option.map_some, get_put, reduceIte, Nat.reduceEqDiff], rfl⟩

theorem eqs_link (l : List UInt8) (a c : Int) : aEq (.struct [(0, 1, false, .str), (1, 1, false, .int), (2, 1, false, .int)]) (.agg [.str l, .int .i64 a, .int .i64 c]) (.agg [.str l, .int .i64 a, .int .i64 c]) = some true := by
  simp [aEq, aEqs, aEqScalar]

theorem refused_hit {l : List UInt8} {a c : Int} {h : Heap} (ho : HeapOk h) : WC env 16 [faultL l a c, linkV l a c] h (fun o => ∃ h', HeapOk h' ∧ h.le h' ∧ o = .ret ⟨.bool true, h', .write⟩) := by
  obtain ⟨o, ev, h1, id, ho1, hle1, hat1, rfl⟩ := chain_hit (l := l) (a := a) (c := c) ho
  have w1 : WC env 30 [faultL l a c] h (fun o => o = _) := ⟨_, ev, rfl⟩
  refine call_body rfl rfl (.inl rfl) ?_
  have z0 : ((1 : Int) == 0) = false := by decide
  have z1 : ((1 : Int) != 1) = false := by decide
  have z2 : ((0 : Int) < 1) = True := eq_true (by decide)
  have z3 : IntKind.wrap .i64 ((0 : Int) + 1) = 1 := by decide
  have z4 : ((1 : Int) < 1) = False := eq_false (by decide)
  have z5 : IntKind.wrap .i64 ((1 : Int) - 1) = 0 := by decide
  have e0 : ∀ h, aLenOp false h (linkV l a c) = some ⟨.int .i64 1, h, .none⟩ := fun h => rfl
  have e1 : ∀ h, aLenOp false h (.sl id 0 0 3 1 none) = some ⟨.int .i64 1, h, .none⟩ := fun h => rfl
  have i0 : aIdxAddr 3 (.sl id 0 0 3 1 none) (.int .i64 0) = some (.ptr id 0 0) := rfl
  have i1 : aIdxAddr 3 (linkV l a c) (.int .i64 0) = some (.fp [.str l, .int .i64 a, .int .i64 c]) := rfl
  have l0 : aLoad h1 true 3 (.ptr id 0 0) = some ⟨.agg [.str l, .int .i64 a, .int .i64 c], h1, .read⟩ := by simp only [aLoad, hat1, Option.bind_some]; rfl
  have l1 : aLoad h1 true 3 (.fp [.str l, .int .i64 a, .int .i64 c]) = some ⟨.agg [.str l, .int .i64 a, .int .i64 c], h1, .none⟩ := rfl
  have f2 : aFieldAddr 2 (.fp [.str l, .int .i64 a, .int .i64 c]) = some (.fp [.int .i64 c]) := rfl
  have l2 : aLoad h1 false 1 (.fp [.int .i64 c]) = some ⟨.int .i64 c, h1, .none⟩ := rfl
  simp only [a16, a16_0, a16_1, a16_3, a16_4, a16_6, Slots.ofList, wpc_skip, wpc_ops, wpc_draw, wpc_seq, wpc_cond, wpc_block, wpc_loop, wpc_exit, wpc_scope, wpc_ret, seqQ_norm, seqQ_ret, seqQ_exit, blockQ'_norm, blockQ'_ret, blockQ'_exit, roundQ_norm, roundQ_ret, roundQ_exit, condK_true, condK_false, wpo_nil', wpo_none, wpo_some, opsK_apply, guardK_tt, guardK_ff, guardK_tf, guardK_ft, wp1_call, callK_ret, wp1_mv', wp1_bin', wp1_un', wp1_eq', wp1_extract', wp1_pick', wp1_len', wp1_load', wp1_conv', wp1_store', wp1_idxAddr', wp1_append', wp1_mkIface', wp1_alloc', rd_t, rd_c, ok_t, ok_c, put_some, put_none, get_put, reduceIte, Nat.reduceEqDiff, AV.bool.injEq, Option.some.injEq, exists_eq_left', Option.map_some, Option.bind_some, opds_nil, opds_cons, opd_t, opd_c, aBin, aInt, decide_true, decide_false, negIf, wp1_nilCheck', wp1_fieldAddr', wp1_slice, op_slice, opdo_some, opdo_none, wp1_lit, op_lit, parts_nil, parts_cons, wp1_build, op_build, wp1_box, op_box, e0, z0, wc_eq w1, e1, z1]
  refine wpr_round' fun b hb' => ?_
  simp only [a16_l11, a16_7, a16_8, a16_10, wpc_skip, wpc_ops, wpc_draw, wpc_seq, wpc_cond, wpc_block, wpc_loop, wpc_exit, wpc_scope, wpc_ret, seqQ_norm, seqQ_ret, seqQ_exit, blockQ'_norm, blockQ'_ret, blockQ'_exit, roundQ_norm, roundQ_ret, roundQ_exit, condK_true, condK_false, wpo_nil', wpo_none, wpo_some, opsK_apply, guardK_tt, guardK_ff, guardK_tf, guardK_ft, wp1_call, callK_ret, wp1_mv', wp1_bin', wp1_un', wp1_eq', wp1_extract', wp1_pick', wp1_len', wp1_load', wp1_conv', wp1_store', wp1_idxAddr', wp1_append', wp1_mkIface', wp1_alloc', rd_t, rd_c, ok_t, ok_c, put_some, put_none, get_put, reduceIte, Nat.reduceEqDiff, AV.bool.injEq, Option.some.injEq, exists_eq_left', Option.map_some, Option.bind_some, opds_nil, opds_cons, opd_t, opd_c, aBin, aInt, decide_true, decide_false, negIf, wp1_nilCheck', wp1_fieldAddr', wp1_slice, op_slice, opdo_some, opdo_none, wp1_lit, op_lit, parts_nil, parts_cons, wp1_build, op_build, wp1_box, op_box, wpl_nil', wpl_none, wpl_some, logK_apply, logQ_apply, guardL_tt, guardL_ff, guardL_tf, guardL_ft, drawQ_apply, e0, z2, i0, i1, l0, l1, eqs_link, Bool.not_true, z3]
  refine ⟨draw_of_cls rfl, ?_⟩
  subst hb'
  refine wpr_round' fun b hb' => ?_
  simp only [a16_l11, a16_7, a16_12, wpc_skip, wpc_ops, wpc_draw, wpc_seq, wpc_cond, wpc_block, wpc_loop, wpc_exit, wpc_scope, wpc_ret, seqQ_norm, seqQ_ret, seqQ_exit, blockQ'_norm, blockQ'_ret, blockQ'_exit, roundQ_norm, roundQ_ret, roundQ_exit, condK_true, condK_false, wpo_nil', wpo_none, wpo_some, opsK_apply, guardK_tt, guardK_ff, guardK_tf, guardK_ft, wp1_call, callK_ret, wp1_mv', wp1_bin', wp1_un', wp1_eq', wp1_extract', wp1_pick', wp1_len', wp1_load', wp1_conv', wp1_store', wp1_idxAddr', wp1_append', wp1_mkIface', wp1_alloc', rd_t, rd_c, ok_t, ok_c, put_some, put_none, get_put, reduceIte, Nat.reduceEqDiff, AV.bool.injEq, Option.some.injEq, exists_eq_left', Option.map_some, Option.bind_some, opds_nil, opds_cons, opd_t, opd_c, aBin, aInt, decide_true, decide_false, negIf, wp1_nilCheck', wp1_fieldAddr', wp1_slice, op_slice, opdo_some, opdo_none, wp1_lit, op_lit, parts_nil, parts_cons, wp1_build, op_build, wp1_box, op_box, e0, z4, z5, i1, f2, l2, wc_eq (is_wc (l := l) (a := a) (c := c) (h := h1))]
  exact ⟨[.bool true], by simp only [Env.results, Option.map_some, get_put, reduceIte, Nat.reduceEqDiff], h1, ho1, hle1, rfl⟩

/-- package stream's own -/
def lnk (c : Int) : AV := linkV [115, 116, 114, 101, 97, 109] 0 c
theorem ref_L (c : Int) : refV c = faultL [115, 116, 114, 101, 97, 109] 0 c := rfl
theorem one_spec (l : List UInt8) (a c : Int) (h : Heap) : WC env 17 [.str l, .int .i64 a, .int .i64 c] h (fun o => o = .ret ⟨linkV l a c, h, .none⟩) := by
  refine call_pure rfl rfl rfl rfl ?_
  simp [a17, a17_0, a17_1, Slots.ofList, get_put, pureQ, Env.results, oneOrTup, linkV, aFill, splice, frz_noRef]
theorem refused_ref {c : Int} {h : Heap} (ho : HeapOk h) : WC env 16 [refV c, lnk c] h (fun o => ∃ h', HeapOk h' ∧ h.le h' ∧ o = .ret ⟨.bool true, h', .write⟩) := refused_hit (l := [115, 116, 114, 101, 97, 109]) ho

/-- what State tells of an end -/
def pipe (cl : Bool) (t : Sd) : List AV := [.int .i64 t.u.length, .int .i64 t.c.length, .int .i64 t.sent, .int .i64 t.moved, .int .i64 t.read, .bool t.st, .bool cl]

theorem se_side {h : Heap} {id e : Nat} {cl : Bool} {t o : Sd} {tu tc ou oc : AV} (he : e = 0 ∨ e = 1) (e1 : h.at_ id 0 = some (SE e cl t o tu tc ou oc)) : aLoad h true 6 (.ptr id 0 (tb e)) = some ⟨.agg [tu, tc, .int .i64 t.sent, .int .i64 t.moved, .int .i64 t.read, .bool t.st], h, .read⟩ := by
  rcases he with rfl | rfl <;> (simp only [aLoad, e1, Option.bind_some]; rfl)

theorem state_spec {h : Heap} {id e : Nat} {cl : Bool} {t o : Sd} {tu tc ou oc : AV} (ho : HeapOk h) (k : Sr h id e cl t o tu tc ou oc) (he : e = 0 ∨ e = 1) :
    WC env 15 [.ptr id 0 0, .int .i64 e] h (fun x => ∃ h', HeapOk h' ∧ h.le h' ∧ x = .ret ⟨.tup [.agg (pipe cl t), .nili], h', .write⟩) := by
  obtain ⟨h1, eh1⟩ : ∃ h1, h1 = h.new [AV.int .i64 0, .int .i64 0, .int .i64 0, .int .i64 0, .int .i64 0, .bool false, .bool false] := ⟨_, rfl⟩
  have ho1 : HeapOk h1 := by rw [eh1]; exact ho.new _
  have hle1 : h.le h1 := by rw [eh1]; exact le_new ho _
  have a1 : h1.at_ h.next 0 = some [AV.int .i64 0, .int .i64 0, .int .i64 0, .int .i64 0, .int .i64 0, .bool false, .bool false] := by rw [eh1]; exact at_new _
  have hat1 := hle1.2 _ _ _ k.hat
  have w1 := asked_ok hat1 he
  have l0 := se_side he hat1
  obtain ⟨h2, eh2⟩ : ∃ h2, h2 = h1.new [AV.nils, .nils, .int .i64 0, .int .i64 0, .int .i64 0, .bool false] := ⟨_, rfl⟩
  have ho2 : HeapOk h2 := by rw [eh2]; exact ho1.new _
  have hle2 : h1.le h2 := by rw [eh2]; exact le_new ho1 _
  have a2 : h2.at_ h1.next 0 = some [AV.nils, .nils, .int .i64 0, .int .i64 0, .int .i64 0, .bool false] := by rw [eh2]; exact at_new _
  have n01 : h.next < h1.next := ho1.lt a1
  obtain ⟨h3, eh3⟩ : ∃ h3, h3 = h2.upd h1.next 0 [tu, tc, .int .i64 t.sent, .int .i64 t.moved, .int .i64 t.read, .bool t.st] := ⟨_, rfl⟩
  have t0 : aStore h2 6 (.ptr h1.next 0 0) (.agg [tu, tc, .int .i64 t.sent, .int .i64 t.moved, .int .i64 t.read, .bool t.st]) = some ⟨.undef, h3, .write⟩ := by
    rw [eh3]; simp only [aStore, a2, Option.bind_some]; rfl
  have ho3 : HeapOk h3 := by rw [eh3]; exact ho2.upd (at_look.1 a2) _ _
  have a3 : h3.at_ h1.next 0 = some [tu, tc, .int .i64 t.sent, .int .i64 t.moved, .int .i64 t.read, .bool t.st] := by rw [eh3]; exact at_upd
  have keep3 : ∀ {i g cs}, i ≠ h1.next → h2.at_ i g = some cs → h3.at_ i g = some cs := fun hne e => by rw [eh3, at_upd_ne hne]; exact e
  have hid : id < h.next := ho.lt k.hat
  have hat3 := keep3 (by omega) (hle2.2 _ _ _ hat1)
  have ld : ∀ j v, [tu, tc, .int .i64 t.sent, .int .i64 t.moved, .int .i64 t.read, .bool t.st][j]? = some v → aLoad h3 false 1 (.ptr h1.next 0 j) = some ⟨v, h3, .read⟩ := by
    intro j v hj
    simp only [aLoad, a3, Option.bind_some, ldCells, List.head?_drop, hj, Option.map_some]
  have d0 := ld 0 tu rfl
  have d1 := ld 1 tc rfl
  have d2 := ld 2 _ rfl
  have d3 := ld 3 _ rfl
  have d4 := ld 4 _ rfl
  have d5 := ld 5 _ rfl
  have e0 := k.atu.lenOp (acc_len k.atu) h3
  have e1 := k.atc.lenOp (acc_len k.atc) h3
  have d6 := se_cl hat3
  have b0 : aFill [AV.int .i64 0, .int .i64 0, .int .i64 0, .int .i64 0, .int .i64 0, .bool false, .bool false] [(0, 1, .int .i64 t.u.length), (1, 1, .int .i64 t.c.length), (2, 1, .int .i64 t.sent), (3, 1, .int .i64 t.moved), (4, 1, .int .i64 t.read), (5, 1, .bool t.st), (6, 1, .bool cl)] = some (pipe cl t) := rfl
  have a4 : h3.at_ h.next 0 = some [AV.int .i64 0, .int .i64 0, .int .i64 0, .int .i64 0, .int .i64 0, .bool false, .bool false] := keep3 (by omega) (hle2.2 _ _ _ a1)
  obtain ⟨h4, eh4⟩ : ∃ h4, h4 = h3.upd h.next 0 (pipe cl t) := ⟨_, rfl⟩
  have t1 : aStore h3 7 (.ptr h.next 0 0) (.agg (pipe cl t)) = some ⟨.undef, h4, .write⟩ := by
    rw [eh4]; simp only [aStore, a4, Option.bind_some]; rfl
  have l4 : aLoad h4 true 7 (.ptr h.next 0 0) = some ⟨.agg (pipe cl t), h4, .read⟩ := by
    rw [eh4]; simp only [aLoad, at_upd, Option.bind_some]; rfl
  refine call_body rfl rfl (.inl rfl) ?_
  simp only [a15, a15_0, a15_1, a15_2, a15_4, a15_5, Slots.ofList, wpc_skip, wpc_ops, wpc_draw, wpc_seq, wpc_cond, wpc_block, wpc_loop, wpc_exit, wpc_scope, wpc_ret, seqQ_norm, seqQ_ret, seqQ_exit, blockQ'_norm, blockQ'_ret, blockQ'_exit, roundQ_norm, roundQ_ret, roundQ_exit, condK_true, condK_false, wpo_nil', wpo_none, wpo_some, opsK_apply, guardK_tt, guardK_ff, guardK_tf, guardK_ft, wp1_call, callK_ret, wp1_mv', wp1_bin', wp1_un', wp1_eq', wp1_extract', wp1_pick', wp1_len', wp1_load', wp1_conv', wp1_store', wp1_idxAddr', wp1_append', wp1_mkIface', wp1_alloc', rd_t, rd_c, ok_t, ok_c, put_some, put_none, get_put, reduceIte, Nat.reduceEqDiff, AV.bool.injEq, Option.some.injEq, exists_eq_left', Option.map_some, Option.bind_some, opds_nil, opds_cons, opd_t, opd_c, aBin, aInt, decide_true, decide_false, negIf, wp1_nilCheck', wp1_fieldAddr', wp1_slice, op_slice, opdo_some, opdo_none, wp1_lit, op_lit, parts_nil, parts_cons, wp1_build, op_build, wp1_box, op_box, wpl_nil', wpl_none, wpl_some, logK_apply, logQ_apply, guardL_tt, guardL_ff, guardL_tf, guardL_ft, drawQ_apply, wp1_idxAddrArr, op_idxAddrArr, ← eh1, wc_eq w1, eq_nil, Bool.not_true, aNil_ptr, aFieldAddr, Nat.zero_add, idx_this he, l0, ← eh2, t0, d0, d1, d2, d3, d4, d5, e0, e1, d6, b0, t1]
  refine ⟨draw_of_cls rfl, [.agg (pipe cl t), .nili], ?_, h4, by rw [eh4]; exact ho3.upd (at_look.1 a4) _ _, ⟨by rw [eh4, eh3]; exact Nat.le_trans hle1.1 hle2.1, fun i g cs e => ?_⟩, rfl⟩
  · simp only [Env.results, Option.map_some, Option.bind_some, get_put, reduceIte, Nat.reduceEqDiff, l4]
  · have := ho.lt e
    rw [eh4, at_upd_ne (by omega)]
    exact keep3 (by omega) (hle2.2 _ _ _ (hle1.2 _ _ _ e))
end Go.St
