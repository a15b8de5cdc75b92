/-
  StreamOrders: the check.
-/
import Derived.Test.YtdolfkffgcmcgaaDoorStOrd2
import Derived.Test.YtdolfkffgcmcgaaDoorAmWpk
set_option linter.unusedVariables false
set_option linter.unusedSimpArgs false
set_option maxRecDepth 20000
namespace Go.St
open Go.AM


section
variable {h : Heap} {σ : Slots} {i4 i5 e : Nat} {s s' r r' : AV} {S' R : List UInt8}
theorem chk1 (he : e = 0 ∨ e = 1) (a4 : h.at_ i4 0 = some (P2 e s s')) (a5 : h.at_ i5 0 = some (P2 e r r')) (hs : Bytes h s' S') (hr : Bytes h r R) (hle : R.length ≤ S'.length)
    (g4 : σ.get 4 = .ptr i4 0 0) (g5 : σ.get 5 = .ptr i5 0 0) (g10 : σ.get 10 = .int .i64 e) {Q : St → List Cls → Prop}
    (hQ : ∀ σ', σ'.get 113 = .bool false → (∀ n, n < 11 → σ'.get n = σ.get n) → Q ⟨σ', h⟩ [.none, .none, .read, .none, .none, .none, .none, .read, .none, .none, .none]) : wpk env (a6_26.take 11) ⟨σ, h⟩ Q := by
  have l1 := p2_this he a5
  have l2 := p2_other he a4
  have n1 := hr.lenOp
  have n2 := hs.lenOp
  have z1 : ((R.length : Int) > (S'.length : Int)) = False := eq_false (by omega)
  simp only [a6_26, List.take_succ_cons, List.take_zero, wpc_skip, wpc_ops, wpc_draw, wpc_seq, wpc_cond, wpc_block, wpc_loop, wpc_exit, wpc_scope, wpc_ret, seqQ_norm, seqQ_ret, seqQ_exit, blockQ'_norm, blockQ'_ret, blockQ'_exit, roundQ_norm, roundQ_ret, roundQ_exit, condK_true, condK_false, wpo_nil', wpo_none, wpo_tt, wpo_ff, wpo_tf, wpo_ft, opsK_c, isC_none, isC_read, isC_write, wp1_call, callK_ret, wp1_mv', wp1_bin', wp1_un', wp1_eq', wp1_extract', wp1_pick', wp1_len', wp1_load', wp1_conv', wp1_store', wp1_idxAddr', wp1_append', wp1_mkIface', wp1_alloc', rd_t, rd_c, ok_t, ok_c, put_some, put_none, get_put, reduceIte, Nat.reduceEqDiff, AV.bool.injEq, Option.some.injEq, exists_eq_left', Option.map_some, Option.bind_some, opds_nil, opds_cons, opd_t, opd_c, aBin, aInt, decide_true, decide_false, negIf, wp1_nilCheck', wp1_fieldAddr', wp1_slice, op_slice, opdo_some, opdo_none, wp1_lit, op_lit, parts_nil, parts_cons, wp1_build, op_build, wp1_box, op_box, wpk_nil, wpk_none, wpk_tt, wpk_ff, wpk_tf, wpk_ft, clsK_c, logC_apply, drawC_apply, wp1_idxAddrArr, op_idxAddrArr, g4, g5, g10, ri_this he, ri_other he, sub_end he, Nat.zero_add, l1, l2, n1, n2, z1]
  refine hQ _ (by simp only [get_put, reduceIte, Nat.reduceEqDiff]) fun n hn => ?_
  simp only [get_put]
  repeat rw [if_neg (by omega)]
theorem chk2 (he : e = 0 ∨ e = 1) (a4 : h.at_ i4 0 = some (P2 e s s')) (a5 : h.at_ i5 0 = some (P2 e r r')) {c1 : Cls} (b1 : aConv h .b2s r = some ⟨.str R, h, c1⟩)
    (g4 : σ.get 4 = .ptr i4 0 0) (g5 : σ.get 5 = .ptr i5 0 0) (g10 : σ.get 10 = .int .i64 e) (g113 : σ.get 113 = .bool false) {Q : St → List Cls → Prop}
    (hQ : ∀ σ', σ'.get 113 = .bool false → σ'.get 117 = .str R → σ'.get 121 = s' → (∀ n, n < 11 → σ'.get n = σ.get n) → Q ⟨σ', h⟩ [.none, .none, .read, c1, .none, .none, .none, .read]) : wpk env ((a6_26.drop 11).take 8) ⟨σ, h⟩ Q := by
  have l1 := p2_this he a5
  have l2 := p2_other he a4
  simp only [a6_26, List.take_succ_cons, List.take_zero, List.drop_succ_cons, List.drop_zero, wpc_skip, wpc_ops, wpc_draw, wpc_seq, wpc_cond, wpc_block, wpc_loop, wpc_exit, wpc_scope, wpc_ret, seqQ_norm, seqQ_ret, seqQ_exit, blockQ'_norm, blockQ'_ret, blockQ'_exit, roundQ_norm, roundQ_ret, roundQ_exit, condK_true, condK_false, wpo_nil', wpo_none, wpo_tt, wpo_ff, wpo_tf, wpo_ft, opsK_c, isC_none, isC_read, isC_write, wp1_call, callK_ret, wp1_mv', wp1_bin', wp1_un', wp1_eq', wp1_extract', wp1_pick', wp1_len', wp1_load', wp1_conv', wp1_store', wp1_idxAddr', wp1_append', wp1_mkIface', wp1_alloc', rd_t, rd_c, ok_t, ok_c, put_some, put_none, get_put, reduceIte, Nat.reduceEqDiff, AV.bool.injEq, Option.some.injEq, exists_eq_left', Option.map_some, Option.bind_some, opds_nil, opds_cons, opd_t, opd_c, aBin, aInt, decide_true, decide_false, negIf, wp1_nilCheck', wp1_fieldAddr', wp1_slice, op_slice, opdo_some, opdo_none, wp1_lit, op_lit, parts_nil, parts_cons, wp1_build, op_build, wp1_box, op_box, wpk_nil, wpk_none, wpk_tt, wpk_ff, wpk_tf, wpk_ft, clsK_c, logC_apply, drawC_apply, isC c1, wp1_idxAddrArr, op_idxAddrArr, g4, g5, g10, g113, ri_this he, ri_other he, sub_end he, Nat.zero_add, l1, l2, b1]
  refine hQ _ (by simp only [get_put, reduceIte, Nat.reduceEqDiff, g113]) (by simp only [get_put, reduceIte, Nat.reduceEqDiff]) (by simp only [get_put, reduceIte, Nat.reduceEqDiff]) fun n hn => ?_
  simp only [get_put]
  repeat rw [if_neg (by omega)]
theorem chk3 (he : e = 0 ∨ e = 1) (a5 : h.at_ i5 0 = some (P2 e r r')) (hr : Bytes h r R) {c2 : Cls} {v' : AV} (t1 : aSlice 1 s' none (some (.int .i64 R.length)) none = some v') (b2 : aConv h .b2s v' = some ⟨.str R, h, c2⟩)
    (g5 : σ.get 5 = .ptr i5 0 0) (g10 : σ.get 10 = .int .i64 e) (g113 : σ.get 113 = .bool false) (g117 : σ.get 117 = .str R) (g121 : σ.get 121 = s') {Q : St → List Cls → Prop}
    (hQ : ∀ σ', σ'.get 129 = .bool false → (∀ n, n < 11 → σ'.get n = σ.get n) → Q ⟨σ', h⟩ [.none, .none, .read, .none, .none, c2, .none, .none]) : wpk env (a6_26.drop 19) ⟨σ, h⟩ Q := by
  have l1 := p2_this he a5
  have n1 := hr.lenOp
  have z3 := ne_self R
  simp only [a6_26, List.drop_succ_cons, List.drop_zero, wpc_skip, wpc_ops, wpc_draw, wpc_seq, wpc_cond, wpc_block, wpc_loop, wpc_exit, wpc_scope, wpc_ret, seqQ_norm, seqQ_ret, seqQ_exit, blockQ'_norm, blockQ'_ret, blockQ'_exit, roundQ_norm, roundQ_ret, roundQ_exit, condK_true, condK_false, wpo_nil', wpo_none, wpo_tt, wpo_ff, wpo_tf, wpo_ft, opsK_c, isC_none, isC_read, isC_write, wp1_call, callK_ret, wp1_mv', wp1_bin', wp1_un', wp1_eq', wp1_extract', wp1_pick', wp1_len', wp1_load', wp1_conv', wp1_store', wp1_idxAddr', wp1_append', wp1_mkIface', wp1_alloc', rd_t, rd_c, ok_t, ok_c, put_some, put_none, get_put, reduceIte, Nat.reduceEqDiff, AV.bool.injEq, Option.some.injEq, exists_eq_left', Option.map_some, Option.bind_some, opds_nil, opds_cons, opd_t, opd_c, aBin, aInt, decide_true, decide_false, negIf, wp1_nilCheck', wp1_fieldAddr', wp1_slice, op_slice, opdo_some, opdo_none, wp1_lit, op_lit, parts_nil, parts_cons, wp1_build, op_build, wp1_box, op_box, wpk_nil, wpk_none, wpk_tt, wpk_ff, wpk_tf, wpk_ft, clsK_c, logC_apply, drawC_apply, isC c2, wp1_idxAddrArr, op_idxAddrArr, g5, g10, g113, g117, g121, ri_this he, Nat.zero_add, l1, n1, t1, b2, aStr, z3, aPick]
  refine hQ _ (by simp only [get_put, reduceIte, Nat.reduceEqDiff]) fun n hn => ?_
  simp only [get_put]
  repeat rw [if_neg (by omega)]
end
theorem chk_cls {c1 c2 : Cls} (h1 : c1 ≠ .write) (h2 : c2 ≠ .write) : clsDraw 0 ([.none, .none, .read, .none, .none, .none, .none, .read, .none, .none, .none] ++ ([.none, .none, .read, c1, .none, .none, .none, .read] ++ [.none, .none, .read, .none, .none, c2, .none, .none])) a6_26b = true := by
  cases c1 <;> cases c2 <;> first | decide | exact absurd rfl h1 | exact absurd rfl h2
theorem chk_parts : a6_26 = a6_26.take 11 ++ ((a6_26.drop 11).take 8 ++ a6_26.drop 19) := rfl

/-- what one end has read is a beginning of what the other one has sent -/
theorem check_round {h : Heap} {σ : Slots} {i4 i5 e : Nat} {s s' r r' : AV} {S' R y : List UInt8} (he : e = 0 ∨ e = 1) (a4 : h.at_ i4 0 = some (P2 e s s')) (a5 : h.at_ i5 0 = some (P2 e r r')) (hs : Bytes h s' S') (hr : Bytes h r R) (hp : R ++ y = S')
    (g4 : σ.get 4 = .ptr i4 0 0) (g5 : σ.get 5 = .ptr i5 0 0) (g10 : σ.get 10 = .int .i64 e) {Q : AExit → St → Prop} (hQ : ∀ σ', σ'.get 10 = .int .i64 ((e + 1 : Nat) : Int) → (∀ n, n < 10 → σ'.get n = σ.get n) → Q .norm ⟨σ', h⟩) : wpc env a6_l29 ⟨σ, h⟩ Q := by
  have l1 := p2_this he a5
  have l2 := p2_other he a4
  have n1 := hr.lenOp
  have n2 := hs.lenOp
  obtain ⟨c1, hc1, b1⟩ := hr.b2s
  have hle : R.length ≤ S'.length := by rw [← hp]; simp
  obtain ⟨v', t1, hv⟩ := hs.to (kd := .i64) hle
  have ht : S'.take R.length = R := by rw [← hp]; simp
  rw [ht] at hv
  obtain ⟨c2, hc2, b2⟩ := hv.b2s
  have z0 : ((e : Int) < 2) = True := eq_true (by omega)
  have z1 : ((R.length : Int) > (S'.length : Int)) = False := eq_false (by omega)
  have z2 : IntKind.wrap .i64 ((e : Int) + 1) = ((e + 1 : Nat) : Int) := wrap_nat (by omega) (by omega)
  have z3 := ne_self R
  have q1 := hr.lenOp
  have ea : a6_26 = _ := chk_parts
  rw [a6_l29]
  simp only [a6_25, wpc_skip, wpc_ops, wpc_seq, wpc_cond, wpc_block, wpc_loop, wpc_exit, wpc_scope, wpc_ret, seqQ_norm, seqQ_ret, seqQ_exit, blockQ'_norm, blockQ'_ret, blockQ'_exit, roundQ_norm, roundQ_ret, roundQ_exit, condK_true, condK_false, wpo_nil', wpo_none, wpo_tt, wpo_ff, wpo_tf, wpo_ft, opsK_c, isC_none, isC_read, isC_write, wp1_call, callK_ret, wp1_mv', wp1_bin', wp1_un', wp1_eq', wp1_extract', wp1_pick', wp1_len', wp1_load', wp1_conv', wp1_store', wp1_idxAddr', wp1_append', wp1_mkIface', wp1_alloc', rd_t, rd_c, ok_t, ok_c, put_some, put_none, get_put, reduceIte, Nat.reduceEqDiff, AV.bool.injEq, Option.some.injEq, exists_eq_left', Option.map_some, Option.bind_some, opds_nil, opds_cons, opd_t, opd_c, aBin, aInt, decide_true, decide_false, negIf, wp1_nilCheck', wp1_fieldAddr', wp1_slice, op_slice, opdo_some, opdo_none, wp1_lit, op_lit, parts_nil, parts_cons, wp1_build, op_build, wp1_box, op_box, g10, z0]
  refine wpc_draw_k ?_
  rw [chk_parts]
  refine wpk_append _ _ _ (chk1 he a4 a5 hs hr hle (by simp only [get_put, reduceIte, Nat.reduceEqDiff, g4]) (by simp only [get_put, reduceIte, Nat.reduceEqDiff, g5]) (by simp only [get_put, reduceIte, Nat.reduceEqDiff, g10]) fun σ1 x1 s1 => ?_)
  have k1 : ∀ n, n < 11 → σ1.get n = σ.get n := fun n hn => by
    rw [s1 n hn]
    simp only [get_put]
    repeat rw [if_neg (by omega)]
  refine wpk_append _ _ _ (chk2 he a4 a5 b1 (by rw [k1 4 (by omega), g4]) (by rw [k1 5 (by omega), g5]) (by rw [k1 10 (by omega), g10]) x1 fun σ2 x2 y2 w2 s2 => ?_)
  have k2 : ∀ n, n < 11 → σ2.get n = σ.get n := fun n hn => by rw [s2 n hn, k1 n hn]
  refine chk3 he a5 hr t1 b2 (by rw [k2 5 (by omega), g5]) (by rw [k2 10 (by omega), g10]) x2 y2 w2 fun σ3 x3 s3 => ?_
  have k3 : ∀ n, n < 11 → σ3.get n = σ.get n := fun n hn => by rw [s3 n hn, k2 n hn]
  have p10 : σ3.get 10 = .int .i64 e := by rw [k3 10 (by omega), g10]
  refine ⟨chk_cls hc1 hc2, ?_⟩
  simp only [a6_28, wpc_skip, wpc_ops, wpc_draw, wpc_seq, wpc_cond, wpc_block, wpc_loop, wpc_exit, wpc_scope, wpc_ret, seqQ_norm, seqQ_ret, seqQ_exit, blockQ'_norm, blockQ'_ret, blockQ'_exit, roundQ_norm, roundQ_ret, roundQ_exit, condK_true, condK_false, wpo_nil', wpo_none, wpo_tt, wpo_ff, wpo_tf, wpo_ft, opsK_c, isC_none, isC_read, isC_write, wp1_call, callK_ret, wp1_mv', wp1_bin', wp1_un', wp1_eq', wp1_extract', wp1_pick', wp1_len', wp1_load', wp1_conv', wp1_store', wp1_idxAddr', wp1_append', wp1_mkIface', wp1_alloc', rd_t, rd_c, ok_t, ok_c, put_some, put_none, get_put, reduceIte, Nat.reduceEqDiff, AV.bool.injEq, Option.some.injEq, exists_eq_left', Option.map_some, Option.bind_some, opds_nil, opds_cons, opd_t, opd_c, aBin, aInt, decide_true, decide_false, negIf, wp1_nilCheck', wp1_fieldAddr', wp1_slice, op_slice, opdo_some, opdo_none, wp1_lit, op_lit, parts_nil, parts_cons, wp1_build, op_build, wp1_box, op_box, x3, p10, z2]
  refine hQ _ (by simp only [get_put, reduceIte, Nat.reduceEqDiff]) fun n hn => ?_
  simp only [get_put]
  repeat rw [if_neg (by omega)]
  exact k3 n (by omega)
end Go.St
