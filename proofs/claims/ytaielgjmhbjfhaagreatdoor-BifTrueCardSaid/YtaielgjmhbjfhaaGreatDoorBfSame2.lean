/-
  The reference's Same of any two terms; BifTrue (written by tools/bfsame.py).
-/
import Derived.Test.YtaielgjmhbjfhaaGreatDoorBfSame
set_option linter.unusedVariables false
set_option linter.unusedSimpArgs false
set_option maxRecDepth 20000
namespace Go.Bf
open Go.AM

theorem same_spec : ∀ a : Tm, a.Ok → SameOk a := by
  refine tm_ind fun k i s c nf ns af ar ih ok b okb h => ?_
  rcases b with ⟨k', i', s', c', nf', ns', af', ar'⟩
  obtain ⟨_, sn, sa, sr⟩ := ok.lens
  obtain ⟨_, sn', sa', sr'⟩ := okb.lens
  have hP : ∀ t, t ∈ ar → SameOk t := fun t m => ih t m (sr.get m)
  obtain ⟨a, eta⟩ : ∃ a : Tm, a = .mk k i s c nf ns af ar := ⟨_, rfl⟩
  obtain ⟨b, etb⟩ : ∃ b : Tm, b = .mk k' i' s' c' nf' ns' af' ar' := ⟨_, rfl⟩
  have es : sameF a b = (k == k' && i == i' && s == s' && c == c' && ns.length == ns'.length && ar.length == ar'.length && ns == ns' && sameFs ar ar') := by rw [eta, etb, sameF]
  rw [← eta, ← etb]
  refine call_pure rfl rfl rfl (by simp only [AV.noRefs, AV.noRef, noRef_tc, Bool.and_self]) ?_
  obtain ⟨ca, ea⟩ : ∃ ca, ca = tc a := ⟨_, rfl⟩
  obtain ⟨cb, eb⟩ : ∃ cb, cb = tc b := ⟨_, rfl⟩
  rw [← ea, ← eb]
  have ea' : ca = [.int .i64 k, .int .i64 i, .str s, .int .u32 c, slAV nf ns.length (u32s ns), slAV af ar.length (tcs ar)] := by rw [ea, eta]; rfl
  have eb' : cb = [.int .i64 k', .int .i64 i', .str s', .int .u32 c', slAV nf' ns'.length (u32s ns'), slAV af' ar'.length (tcs ar')] := by rw [eb, etb]; rfl
  obtain ⟨i2, ei2⟩ : ∃ i2, i2 = Heap.empty.next := ⟨_, rfl⟩
  obtain ⟨h1, eh1⟩ : ∃ h1, h1 = Heap.empty.new ca := ⟨_, rfl⟩
  have ho1 : HeapOk h1 := by rw [eh1]; exact HeapOk.empty.new _
  have a1' : h1.at_ i2 0 = some ca := by rw [eh1, ei2]; exact at_new _
  obtain ⟨i3, ei3⟩ : ∃ i3, i3 = h1.next := ⟨_, rfl⟩
  obtain ⟨h2, eh2⟩ : ∃ h2, h2 = h1.new cb := ⟨_, rfl⟩
  have a2' : h2.at_ i2 0 = some ca := by rw [eh2]; exact (le_new ho1 _).2 _ _ _ a1'
  have b2' : h2.at_ i3 0 = some cb := by rw [eh2, ei3]; exact at_new _
  have y1 : (AV.agg ca).row = some ca := rfl
  have y2 : ca.length = 6 := by rw [ea']; rfl
  have y3 : (AV.agg cb).row = some cb := rfl
  have y4 : cb.length = 6 := by rw [eb']; rfl
  rw [ea'] at a2'
  rw [eb'] at b2'
  have p0 := ld60 a2'
  have p1 := ld61 a2'
  have p2 := ld62 a2'
  have p3 := ld63 a2'
  have p4 := ld64 a2'
  have p5 := ld65 a2'
  have q0 := ld60 b2'
  have q1 := ld61 b2'
  have q2 := ld62 b2'
  have q3 := ld63 b2'
  have q4 := ld64 b2'
  have q5 := ld65 b2'
  have n1 : ∀ h, aLenOp false h (slAV nf ns.length (u32s ns)) = some ⟨.int .i64 ns.length, h, .none⟩ := fun h => len_sl _ _ _ (fun _ => trivial) h
  have n2 : ∀ h, aLenOp false h (slAV nf' ns'.length (u32s ns')) = some ⟨.int .i64 ns'.length, h, .none⟩ := fun h => len_sl _ _ _ (fun _ => trivial) h
  have n3 : ∀ h, aLenOp false h (slAV af ar.length (tcs ar)) = some ⟨.int .i64 ar.length, h, .none⟩ := fun h => len_sl _ _ _ (fun _ => trivial) h
  have n4 : ∀ h, aLenOp false h (slAV af' ar'.length (tcs ar')) = some ⟨.int .i64 ar'.length, h, .none⟩ := fun h => len_sl _ _ _ (fun _ => trivial) h
  by_cases c0 : k = k'
  case neg =>
    have z0 : (k != k') = true := by simp; omega
    have er : sameF a b = false := by rw [es]; simp [c0]
    simp only [a19, a19_0, a19_1, a19_2, Slots.ofList, wpc_skip, wpc_ops, wpc_seq, wpc_cond, wpc_block, wpc_loop, wpc_exit, wpc_scope, wpc_ret, seqQ_norm, seqQ_ret, seqQ_exit, blockQ'_norm, blockQ'_ret, blockQ'_exit, roundQ_norm, roundQ_ret, roundQ_exit, condK_true, condK_false, wpo_nil', wpo_none, wpo_tt, wpo_ff, wpo_tf, wpo_ft, opsK_c, isC_none, isC_read, isC_write, wp1_call, callK_ret, wp1_mv', wp1_bin', wp1_un', wp1_eq', wp1_extract', wp1_pick', wp1_len', wp1_load', wp1_conv', wp1_store', wp1_idxAddr', wp1_append', wp1_mkIface', wp1_alloc', rd_t, rd_c, ok_t, ok_c, put_some, put_none, get_put, reduceIte, Nat.reduceEqDiff, AV.bool.injEq, Option.some.injEq, exists_eq_left', Option.map_some, Option.bind_some, opds_nil, opds_cons, opd_t, opd_c, aBin, aInt, decide_true, decide_false, negIf, wp1_nilCheck', wp1_fieldAddr', wp1_slice, op_slice, opdo_some, opdo_none, wp1_lit, op_lit, parts_nil, parts_cons, wp1_build, op_build, wp1_box, op_box, y1, y2, y3, y4, ← eh1, ← eh2, ← ei2, ← ei3, aFieldAddr, Nat.zero_add, aPick, aStr, p0, p1, p2, p3, p4, p5, q0, q1, q2, q3, q4, q5, n1, n2, n3, n4, z0]
    exact finB (by simp only [get_put, reduceIte, Nat.reduceEqDiff]; rw [er]) rfl
  have z0 : (k != k') = false := by simp; omega
  by_cases c1 : i = i'
  case neg =>
    have z1 : (i != i') = true := by simp; omega
    have er : sameF a b = false := by rw [es]; simp [c1]
    simp only [a19, a19_0, a19_1, a19_2, Slots.ofList, wpc_skip, wpc_ops, wpc_seq, wpc_cond, wpc_block, wpc_loop, wpc_exit, wpc_scope, wpc_ret, seqQ_norm, seqQ_ret, seqQ_exit, blockQ'_norm, blockQ'_ret, blockQ'_exit, roundQ_norm, roundQ_ret, roundQ_exit, condK_true, condK_false, wpo_nil', wpo_none, wpo_tt, wpo_ff, wpo_tf, wpo_ft, opsK_c, isC_none, isC_read, isC_write, wp1_call, callK_ret, wp1_mv', wp1_bin', wp1_un', wp1_eq', wp1_extract', wp1_pick', wp1_len', wp1_load', wp1_conv', wp1_store', wp1_idxAddr', wp1_append', wp1_mkIface', wp1_alloc', rd_t, rd_c, ok_t, ok_c, put_some, put_none, get_put, reduceIte, Nat.reduceEqDiff, AV.bool.injEq, Option.some.injEq, exists_eq_left', Option.map_some, Option.bind_some, opds_nil, opds_cons, opd_t, opd_c, aBin, aInt, decide_true, decide_false, negIf, wp1_nilCheck', wp1_fieldAddr', wp1_slice, op_slice, opdo_some, opdo_none, wp1_lit, op_lit, parts_nil, parts_cons, wp1_build, op_build, wp1_box, op_box, y1, y2, y3, y4, ← eh1, ← eh2, ← ei2, ← ei3, aFieldAddr, Nat.zero_add, aPick, aStr, p0, p1, p2, p3, p4, p5, q0, q1, q2, q3, q4, q5, n1, n2, n3, n4, z0, z1]
    exact finB (by simp only [get_put, reduceIte, Nat.reduceEqDiff]; rw [er]) rfl
  have z1 : (i != i') = false := by simp; omega
  by_cases c2 : s = s'
  case neg =>
    have z2 : (!(s == s')) = true := by simpa using c2
    have er : sameF a b = false := by rw [es]; simp [c2]
    simp only [a19, a19_0, a19_1, a19_2, Slots.ofList, wpc_skip, wpc_ops, wpc_seq, wpc_cond, wpc_block, wpc_loop, wpc_exit, wpc_scope, wpc_ret, seqQ_norm, seqQ_ret, seqQ_exit, blockQ'_norm, blockQ'_ret, blockQ'_exit, roundQ_norm, roundQ_ret, roundQ_exit, condK_true, condK_false, wpo_nil', wpo_none, wpo_tt, wpo_ff, wpo_tf, wpo_ft, opsK_c, isC_none, isC_read, isC_write, wp1_call, callK_ret, wp1_mv', wp1_bin', wp1_un', wp1_eq', wp1_extract', wp1_pick', wp1_len', wp1_load', wp1_conv', wp1_store', wp1_idxAddr', wp1_append', wp1_mkIface', wp1_alloc', rd_t, rd_c, ok_t, ok_c, put_some, put_none, get_put, reduceIte, Nat.reduceEqDiff, AV.bool.injEq, Option.some.injEq, exists_eq_left', Option.map_some, Option.bind_some, opds_nil, opds_cons, opd_t, opd_c, aBin, aInt, decide_true, decide_false, negIf, wp1_nilCheck', wp1_fieldAddr', wp1_slice, op_slice, opdo_some, opdo_none, wp1_lit, op_lit, parts_nil, parts_cons, wp1_build, op_build, wp1_box, op_box, y1, y2, y3, y4, ← eh1, ← eh2, ← ei2, ← ei3, aFieldAddr, Nat.zero_add, aPick, aStr, p0, p1, p2, p3, p4, p5, q0, q1, q2, q3, q4, q5, n1, n2, n3, n4, z0, z1, z2]
    exact finB (by simp only [get_put, reduceIte, Nat.reduceEqDiff]; rw [er]) rfl
  have z2 : (!(s == s')) = false := by simpa using c2
  by_cases c3 : c = c'
  case neg =>
    have z3 : (c != c') = true := by simp; omega
    have er : sameF a b = false := by rw [es]; simp [c3]
    simp only [a19, a19_0, a19_1, a19_2, Slots.ofList, wpc_skip, wpc_ops, wpc_seq, wpc_cond, wpc_block, wpc_loop, wpc_exit, wpc_scope, wpc_ret, seqQ_norm, seqQ_ret, seqQ_exit, blockQ'_norm, blockQ'_ret, blockQ'_exit, roundQ_norm, roundQ_ret, roundQ_exit, condK_true, condK_false, wpo_nil', wpo_none, wpo_tt, wpo_ff, wpo_tf, wpo_ft, opsK_c, isC_none, isC_read, isC_write, wp1_call, callK_ret, wp1_mv', wp1_bin', wp1_un', wp1_eq', wp1_extract', wp1_pick', wp1_len', wp1_load', wp1_conv', wp1_store', wp1_idxAddr', wp1_append', wp1_mkIface', wp1_alloc', rd_t, rd_c, ok_t, ok_c, put_some, put_none, get_put, reduceIte, Nat.reduceEqDiff, AV.bool.injEq, Option.some.injEq, exists_eq_left', Option.map_some, Option.bind_some, opds_nil, opds_cons, opd_t, opd_c, aBin, aInt, decide_true, decide_false, negIf, wp1_nilCheck', wp1_fieldAddr', wp1_slice, op_slice, opdo_some, opdo_none, wp1_lit, op_lit, parts_nil, parts_cons, wp1_build, op_build, wp1_box, op_box, y1, y2, y3, y4, ← eh1, ← eh2, ← ei2, ← ei3, aFieldAddr, Nat.zero_add, aPick, aStr, p0, p1, p2, p3, p4, p5, q0, q1, q2, q3, q4, q5, n1, n2, n3, n4, z0, z1, z2, z3]
    exact finB (by simp only [get_put, reduceIte, Nat.reduceEqDiff]; rw [er]) rfl
  have z3 : (c != c') = false := by simp; omega
  by_cases c4 : ns.length = ns'.length
  case neg =>
    have z4 : ((ns.length : Int) != (ns'.length : Int)) = true := by simp; omega
    have er : sameF a b = false := by rw [es]; simp [c4]
    simp only [a19, a19_0, a19_1, a19_2, Slots.ofList, wpc_skip, wpc_ops, wpc_seq, wpc_cond, wpc_block, wpc_loop, wpc_exit, wpc_scope, wpc_ret, seqQ_norm, seqQ_ret, seqQ_exit, blockQ'_norm, blockQ'_ret, blockQ'_exit, roundQ_norm, roundQ_ret, roundQ_exit, condK_true, condK_false, wpo_nil', wpo_none, wpo_tt, wpo_ff, wpo_tf, wpo_ft, opsK_c, isC_none, isC_read, isC_write, wp1_call, callK_ret, wp1_mv', wp1_bin', wp1_un', wp1_eq', wp1_extract', wp1_pick', wp1_len', wp1_load', wp1_conv', wp1_store', wp1_idxAddr', wp1_append', wp1_mkIface', wp1_alloc', rd_t, rd_c, ok_t, ok_c, put_some, put_none, get_put, reduceIte, Nat.reduceEqDiff, AV.bool.injEq, Option.some.injEq, exists_eq_left', Option.map_some, Option.bind_some, opds_nil, opds_cons, opd_t, opd_c, aBin, aInt, decide_true, decide_false, negIf, wp1_nilCheck', wp1_fieldAddr', wp1_slice, op_slice, opdo_some, opdo_none, wp1_lit, op_lit, parts_nil, parts_cons, wp1_build, op_build, wp1_box, op_box, y1, y2, y3, y4, ← eh1, ← eh2, ← ei2, ← ei3, aFieldAddr, Nat.zero_add, aPick, aStr, p0, p1, p2, p3, p4, p5, q0, q1, q2, q3, q4, q5, n1, n2, n3, n4, z0, z1, z2, z3, z4]
    exact finB (by simp only [get_put, reduceIte, Nat.reduceEqDiff]; rw [er]) rfl
  have z4 : ((ns.length : Int) != (ns'.length : Int)) = false := by simp; omega
  by_cases c5 : ar.length = ar'.length
  case neg =>
    have z5 : ((ar.length : Int) != (ar'.length : Int)) = true := by simp; omega
    have er : sameF a b = false := by rw [es]; simp [c5]
    simp only [a19, a19_0, a19_1, a19_2, Slots.ofList, wpc_skip, wpc_ops, wpc_seq, wpc_cond, wpc_block, wpc_loop, wpc_exit, wpc_scope, wpc_ret, seqQ_norm, seqQ_ret, seqQ_exit, blockQ'_norm, blockQ'_ret, blockQ'_exit, roundQ_norm, roundQ_ret, roundQ_exit, condK_true, condK_false, wpo_nil', wpo_none, wpo_tt, wpo_ff, wpo_tf, wpo_ft, opsK_c, isC_none, isC_read, isC_write, wp1_call, callK_ret, wp1_mv', wp1_bin', wp1_un', wp1_eq', wp1_extract', wp1_pick', wp1_len', wp1_load', wp1_conv', wp1_store', wp1_idxAddr', wp1_append', wp1_mkIface', wp1_alloc', rd_t, rd_c, ok_t, ok_c, put_some, put_none, get_put, reduceIte, Nat.reduceEqDiff, AV.bool.injEq, Option.some.injEq, exists_eq_left', Option.map_some, Option.bind_some, opds_nil, opds_cons, opd_t, opd_c, aBin, aInt, decide_true, decide_false, negIf, wp1_nilCheck', wp1_fieldAddr', wp1_slice, op_slice, opdo_some, opdo_none, wp1_lit, op_lit, parts_nil, parts_cons, wp1_build, op_build, wp1_box, op_box, y1, y2, y3, y4, ← eh1, ← eh2, ← ei2, ← ei3, aFieldAddr, Nat.zero_add, aPick, aStr, p0, p1, p2, p3, p4, p5, q0, q1, q2, q3, q4, q5, n1, n2, n3, n4, z0, z1, z2, z3, z4, z5]
    exact finB (by simp only [get_put, reduceIte, Nat.reduceEqDiff]; rw [er]) rfl
  have z5 : ((ar.length : Int) != (ar'.length : Int)) = false := by simp; omega
  have er : sameF a b = (ns == ns' && sameFs ar ar') := by rw [es]; simp [c0, c1, c2, c3, c4, c5]
  simp only [a19, a19_0, a19_1, a19_3, Slots.ofList, wpc_skip, wpc_ops, wpc_seq, wpc_cond, wpc_block, wpc_loop, wpc_exit, wpc_scope, wpc_ret, seqQ_norm, seqQ_ret, seqQ_exit, blockQ'_norm, blockQ'_ret, blockQ'_exit, roundQ_norm, roundQ_ret, roundQ_exit, condK_true, condK_false, wpo_nil', wpo_none, wpo_tt, wpo_ff, wpo_tf, wpo_ft, opsK_c, isC_none, isC_read, isC_write, wp1_call, callK_ret, wp1_mv', wp1_bin', wp1_un', wp1_eq', wp1_extract', wp1_pick', wp1_len', wp1_load', wp1_conv', wp1_store', wp1_idxAddr', wp1_append', wp1_mkIface', wp1_alloc', rd_t, rd_c, ok_t, ok_c, put_some, put_none, get_put, reduceIte, Nat.reduceEqDiff, AV.bool.injEq, Option.some.injEq, exists_eq_left', Option.map_some, Option.bind_some, opds_nil, opds_cons, opd_t, opd_c, aBin, aInt, decide_true, decide_false, negIf, wp1_nilCheck', wp1_fieldAddr', wp1_slice, op_slice, opdo_some, opdo_none, wp1_lit, op_lit, parts_nil, parts_cons, wp1_build, op_build, wp1_box, op_box, y1, y2, y3, y4, ← eh1, ← eh2, ← ei2, ← ei3, aFieldAddr, Nat.zero_add, aPick, aStr, p0, p1, p2, p3, p4, p5, q0, q1, q2, q3, q4, q5, n1, n2, n3, n4, z0, z1, z2, z3, z4, z5]
  refine same_nums (i2 := i2) (i3 := i3) p4 q4 c4 sn (ns.length + 1) 0 _ (by omega) (by omega) ?_ ?_ ?_ fun σ' => ⟨fun g e => ?_, fun g2 g3 e => ?_⟩
  · simp only [get_put, reduceIte, Nat.reduceEqDiff]
  · simp only [get_put, reduceIte, Nat.reduceEqDiff]
  · simp only [get_put, reduceIte, Nat.reduceEqDiff]; rfl
  · have e : (ns == ns') = false := by simpa using e
    simp only [wpc_skip, wpc_ops, wpc_seq, wpc_cond, wpc_block, wpc_loop, wpc_exit, wpc_scope, wpc_ret, seqQ_norm, seqQ_ret, seqQ_exit, blockQ'_norm, blockQ'_ret, blockQ'_exit, roundQ_norm, roundQ_ret, roundQ_exit, condK_true, condK_false, wpo_nil', wpo_none, wpo_tt, wpo_ff, wpo_tf, wpo_ft, opsK_c, isC_none, isC_read, isC_write, wp1_call, callK_ret, wp1_mv', wp1_bin', wp1_un', wp1_eq', wp1_extract', wp1_pick', wp1_len', wp1_load', wp1_conv', wp1_store', wp1_idxAddr', wp1_append', wp1_mkIface', wp1_alloc', rd_t, rd_c, ok_t, ok_c, put_some, put_none, get_put, reduceIte, Nat.reduceEqDiff, AV.bool.injEq, Option.some.injEq, exists_eq_left', Option.map_some, Option.bind_some, opds_nil, opds_cons, opd_t, opd_c, aBin, aInt, decide_true, decide_false, negIf, wp1_nilCheck', wp1_fieldAddr', wp1_slice, op_slice, opdo_some, opdo_none, wp1_lit, op_lit, parts_nil, parts_cons, wp1_build, op_build, wp1_box, op_box]
    exact finB g (by rw [er, e]; rfl)
  have e : (ns == ns') = true := by simpa using e
  rw [e, Bool.true_and] at er
  simp only [a19_9, wpc_skip, wpc_ops, wpc_seq, wpc_cond, wpc_block, wpc_loop, wpc_exit, wpc_scope, wpc_ret, seqQ_norm, seqQ_ret, seqQ_exit, blockQ'_norm, blockQ'_ret, blockQ'_exit, roundQ_norm, roundQ_ret, roundQ_exit, condK_true, condK_false, wpo_nil', wpo_none, wpo_tt, wpo_ff, wpo_tf, wpo_ft, opsK_c, isC_none, isC_read, isC_write, wp1_call, callK_ret, wp1_mv', wp1_bin', wp1_un', wp1_eq', wp1_extract', wp1_pick', wp1_len', wp1_load', wp1_conv', wp1_store', wp1_idxAddr', wp1_append', wp1_mkIface', wp1_alloc', rd_t, rd_c, ok_t, ok_c, put_some, put_none, get_put, reduceIte, Nat.reduceEqDiff, AV.bool.injEq, Option.some.injEq, exists_eq_left', Option.map_some, Option.bind_some, opds_nil, opds_cons, opd_t, opd_c, aBin, aInt, decide_true, decide_false, negIf, wp1_nilCheck', wp1_fieldAddr', wp1_slice, op_slice, opdo_some, opdo_none, wp1_lit, op_lit, parts_nil, parts_cons, wp1_build, op_build, wp1_box, op_box]
  refine same_args (i2 := i2) (i3 := i3) p5 q5 hP sr' c5 sa (ar.length + 1) 0 _ (by omega) (by omega) ?_ ?_ ?_ fun σ' => ⟨fun g e => ?_, fun e => ?_⟩
  · simp only [get_put, reduceIte, Nat.reduceEqDiff, g2]
  · simp only [get_put, reduceIte, Nat.reduceEqDiff, g3]
  · simp only [get_put, reduceIte, Nat.reduceEqDiff]; rfl
  · simp only [wpc_skip, wpc_ops, wpc_seq, wpc_cond, wpc_block, wpc_loop, wpc_exit, wpc_scope, wpc_ret, seqQ_norm, seqQ_ret, seqQ_exit, blockQ'_norm, blockQ'_ret, blockQ'_exit, roundQ_norm, roundQ_ret, roundQ_exit, condK_true, condK_false, wpo_nil', wpo_none, wpo_tt, wpo_ff, wpo_tf, wpo_ft, opsK_c, isC_none, isC_read, isC_write, wp1_call, callK_ret, wp1_mv', wp1_bin', wp1_un', wp1_eq', wp1_extract', wp1_pick', wp1_len', wp1_load', wp1_conv', wp1_store', wp1_idxAddr', wp1_append', wp1_mkIface', wp1_alloc', rd_t, rd_c, ok_t, ok_c, put_some, put_none, get_put, reduceIte, Nat.reduceEqDiff, AV.bool.injEq, Option.some.injEq, exists_eq_left', Option.map_some, Option.bind_some, opds_nil, opds_cons, opd_t, opd_c, aBin, aInt, decide_true, decide_false, negIf, wp1_nilCheck', wp1_fieldAddr', wp1_slice, op_slice, opdo_some, opdo_none, wp1_lit, op_lit, parts_nil, parts_cons, wp1_build, op_build, wp1_box, op_box]
    exact finB g (by rw [er]; rw [List.drop_zero, List.drop_zero] at e; rw [e])
  · rw [List.drop_zero, List.drop_zero] at e
    simp only [a19_15, wpc_skip, wpc_ops, wpc_seq, wpc_cond, wpc_block, wpc_loop, wpc_exit, wpc_scope, wpc_ret, seqQ_norm, seqQ_ret, seqQ_exit, blockQ'_norm, blockQ'_ret, blockQ'_exit, roundQ_norm, roundQ_ret, roundQ_exit, condK_true, condK_false, wpo_nil', wpo_none, wpo_tt, wpo_ff, wpo_tf, wpo_ft, opsK_c, isC_none, isC_read, isC_write, wp1_call, callK_ret, wp1_mv', wp1_bin', wp1_un', wp1_eq', wp1_extract', wp1_pick', wp1_len', wp1_load', wp1_conv', wp1_store', wp1_idxAddr', wp1_append', wp1_mkIface', wp1_alloc', rd_t, rd_c, ok_t, ok_c, put_some, put_none, get_put, reduceIte, Nat.reduceEqDiff, AV.bool.injEq, Option.some.injEq, exists_eq_left', Option.map_some, Option.bind_some, opds_nil, opds_cons, opd_t, opd_c, aBin, aInt, decide_true, decide_false, negIf, wp1_nilCheck', wp1_fieldAddr', wp1_slice, op_slice, opdo_some, opdo_none, wp1_lit, op_lit, parts_nil, parts_cons, wp1_build, op_build, wp1_box, op_box]
    exact finB (by simp only [get_put, reduceIte, Nat.reduceEqDiff]; rw [er, e]) rfl

theorem rtrue_spec (t : Tm) (ok : t.Ok) (h : Heap) : WC env 23 [.agg (tc t)] h (fun o => o = .ret ⟨.bool (sameF t trueT), h, .none⟩) := by
  refine call_pure rfl rfl rfl (by simp only [AV.noRefs, AV.noRef, noRef_tc, Bool.and_self]) ?_
  obtain ⟨h1, eh1⟩ : ∃ h1, h1 = Heap.empty.new (tc t) := ⟨_, rfl⟩
  have a1 : h1.at_ Heap.empty.next 0 = some (tc t) := by rw [eh1]; exact at_new _
  have y1 : (AV.agg (tc t)).row = some (tc t) := rfl
  have y2 : (tc t).length = 6 := tc_length t
  have l6 := ld_t a1
  have we : ∀ h, WC env 19 [.agg (tc t), .agg (tc (atomT [116, 114, 117, 101]))] h (fun o => o = .ret ⟨.bool (sameF t trueT), h, .none⟩) := fun h => same_spec t ok trueT trueT_ok h
  simp only [a23, a23_0, Slots.ofList, wpc_skip, wpc_ops, wpc_seq, wpc_cond, wpc_block, wpc_loop, wpc_exit, wpc_scope, wpc_ret, seqQ_norm, seqQ_ret, seqQ_exit, blockQ'_norm, blockQ'_ret, blockQ'_exit, roundQ_norm, roundQ_ret, roundQ_exit, condK_true, condK_false, wpo_nil', wpo_none, wpo_tt, wpo_ff, wpo_tf, wpo_ft, opsK_c, isC_none, isC_read, isC_write, wp1_call, callK_ret, wp1_mv', wp1_bin', wp1_un', wp1_eq', wp1_extract', wp1_pick', wp1_len', wp1_load', wp1_conv', wp1_store', wp1_idxAddr', wp1_append', wp1_mkIface', wp1_alloc', rd_t, rd_c, ok_t, ok_c, put_some, put_none, get_put, reduceIte, Nat.reduceEqDiff, AV.bool.injEq, Option.some.injEq, exists_eq_left', Option.map_some, Option.bind_some, opds_nil, opds_cons, opd_t, opd_c, aBin, aInt, decide_true, decide_false, negIf, wp1_nilCheck', wp1_fieldAddr', wp1_slice, op_slice, opdo_some, opdo_none, wp1_lit, op_lit, parts_nil, parts_cons, wp1_build, op_build, wp1_box, op_box, y1, y2, ← eh1]
  refine wpc_draw_k ?_
  simp only [wpc_skip, wpc_ops, wpc_seq, wpc_cond, wpc_block, wpc_loop, wpc_exit, wpc_scope, wpc_ret, seqQ_norm, seqQ_ret, seqQ_exit, blockQ'_norm, blockQ'_ret, blockQ'_exit, roundQ_norm, roundQ_ret, roundQ_exit, condK_true, condK_false, wpo_nil', wpo_none, wpo_tt, wpo_ff, wpo_tf, wpo_ft, opsK_c, isC_none, isC_read, isC_write, wp1_call, callK_ret, wp1_mv', wp1_bin', wp1_un', wp1_eq', wp1_extract', wp1_pick', wp1_len', wp1_load', wp1_conv', wp1_store', wp1_idxAddr', wp1_append', wp1_mkIface', wp1_alloc', rd_t, rd_c, ok_t, ok_c, put_some, put_none, get_put, reduceIte, Nat.reduceEqDiff, AV.bool.injEq, Option.some.injEq, exists_eq_left', Option.map_some, Option.bind_some, opds_nil, opds_cons, opd_t, opd_c, aBin, aInt, decide_true, decide_false, negIf, wp1_nilCheck', wp1_fieldAddr', wp1_slice, op_slice, opdo_some, opdo_none, wp1_lit, op_lit, parts_nil, parts_cons, wp1_build, op_build, wp1_box, op_box, wpk_nil, wpk_none, wpk_tt, wpk_ff, wpk_tf, wpk_ft, clsK_c, logC_apply, drawC_apply, a23_1, l6, wc_eq (ratom_spec _ _), wc_eq (we _)]
  refine ⟨rfl, ?_⟩
  exact finB (by simp only [get_put, reduceIte, Nat.reduceEqDiff]) rfl

/-! the law -/
theorem true_law (t : Tm) : eqF t trueT = sameF t trueT := by
  rcases t with ⟨k, i, s, c, nf, ns, af, ar⟩
  have sf : sameF (.mk k i s c nf ns af ar) trueT = true ↔ k = 2 ∧ i = 0 ∧ s = [116, 114, 117, 101] ∧ c = 0 ∧ ns = [] ∧ ar = [] := by
    rw [trueT, sameF]
    cases ns <;> cases ar <;> simp [sameFs, and_assoc]
  have h1 : eqF (.mk k i s c nf ns af ar) trueT = true → sameF (.mk k i s c nf ns af ar) trueT = true := by
    intro h
    rw [eqF, Bool.and_eq_true, Bool.and_eq_true] at h
    obtain ⟨⟨h1, _⟩, h2⟩ := h
    have w := isT_wf h1
    have h2 : ordF (.mk k i s c nf ns af ar) trueT = 0 := by simpa using h2
    rw [trueT, ordF] at h2
    by_cases hk : k = 2
    · subst hk
      have h3 : cmpS s [116, 114, 117, 101] = 0 := by simpa using h2
      have hs : s = [116, 114, 117, 101] := by
        rw [cmpS] at h3
        split at h3
        · cases h3
        split at h3
        · rename_i e; simpa using e
        · cases h3
      have hw := w.1
      rw [kindOk] at hw
      simp [emptyF] at hw
      refine sf.2 ⟨rfl, hw.2, hs, hw.1.1.2, hw.1.1.1, hw.1.2⟩
    · rw [if_pos hk, cmpI] at h2
      split at h2
      · cases h2
      split at h2
      · cases h2
      · omega
  cases e : sameF (.mk k i s c nf ns af ar) trueT with
  | false =>
    cases e2 : eqF (.mk k i s c nf ns af ar) trueT with
    | false => rfl
    | true => rw [h1 e2] at e; cases e
  | true =>
    obtain ⟨rfl, rfl, rfl, rfl, rfl, rfl⟩ := sf.1 e
    show eqF (.mk 2 0 [116, 114, 117, 101] 0 nf [] af []) trueT = true
    kernel_rfl

theorem true_row (t : Tm) (ok : t.Ok) : WC env 7 [.agg (tc t)] .empty (fun o => ∃ h', o = .ret ⟨.bool true, h', .write⟩) := by
  refine call_body rfl rfl (.inl rfl) ?_
  obtain ⟨h1, eh1⟩ : ∃ h1, h1 = Heap.empty.new (tc t) := ⟨_, rfl⟩
  have a1 : h1.at_ Heap.empty.next 0 = some (tc t) := by rw [eh1]; exact at_new _
  have y1 : (AV.agg (tc t)).row = some (tc t) := rfl
  have y2 : (tc t).length = 6 := tc_length t
  have l6 := ld_t a1
  have wt := true_spec t ok
  rw [true_law t] at wt
  have zz : (sameF t trueT == sameF t trueT) = true := by simp
  have ez : ∀ b : Bool, aEq .bool (.bool b) (.bool b) = some true := fun b => by cases b <;> rfl
  simp only [a7, a7_0, Slots.ofList, wpc_skip, wpc_ops, wpc_seq, wpc_cond, wpc_block, wpc_loop, wpc_exit, wpc_scope, wpc_ret, seqQ_norm, seqQ_ret, seqQ_exit, blockQ'_norm, blockQ'_ret, blockQ'_exit, roundQ_norm, roundQ_ret, roundQ_exit, condK_true, condK_false, wpo_nil', wpo_none, wpo_tt, wpo_ff, wpo_tf, wpo_ft, opsK_c, isC_none, isC_read, isC_write, wp1_call, callK_ret, wp1_mv', wp1_bin', wp1_un', wp1_eq', wp1_extract', wp1_pick', wp1_len', wp1_load', wp1_conv', wp1_store', wp1_idxAddr', wp1_append', wp1_mkIface', wp1_alloc', rd_t, rd_c, ok_t, ok_c, put_some, put_none, get_put, reduceIte, Nat.reduceEqDiff, AV.bool.injEq, Option.some.injEq, exists_eq_left', Option.map_some, Option.bind_some, opds_nil, opds_cons, opd_t, opd_c, aBin, aInt, decide_true, decide_false, negIf, wp1_nilCheck', wp1_fieldAddr', wp1_slice, op_slice, opdo_some, opdo_none, wp1_lit, op_lit, parts_nil, parts_cons, wp1_build, op_build, wp1_box, op_box, y1, y2, ← eh1]
  refine wpc_draw_k ?_
  simp only [wpc_skip, wpc_ops, wpc_seq, wpc_cond, wpc_block, wpc_loop, wpc_exit, wpc_scope, wpc_ret, seqQ_norm, seqQ_ret, seqQ_exit, blockQ'_norm, blockQ'_ret, blockQ'_exit, roundQ_norm, roundQ_ret, roundQ_exit, condK_true, condK_false, wpo_nil', wpo_none, wpo_tt, wpo_ff, wpo_tf, wpo_ft, opsK_c, isC_none, isC_read, isC_write, wp1_call, callK_ret, wp1_mv', wp1_bin', wp1_un', wp1_eq', wp1_extract', wp1_pick', wp1_len', wp1_load', wp1_conv', wp1_store', wp1_idxAddr', wp1_append', wp1_mkIface', wp1_alloc', rd_t, rd_c, ok_t, ok_c, put_some, put_none, get_put, reduceIte, Nat.reduceEqDiff, AV.bool.injEq, Option.some.injEq, exists_eq_left', Option.map_some, Option.bind_some, opds_nil, opds_cons, opd_t, opd_c, aBin, aInt, decide_true, decide_false, negIf, wp1_nilCheck', wp1_fieldAddr', wp1_slice, op_slice, opdo_some, opdo_none, wp1_lit, op_lit, parts_nil, parts_cons, wp1_build, op_build, wp1_box, op_box, wpk_nil, wpk_none, wpk_tt, wpk_ff, wpk_tf, wpk_ft, clsK_c, logC_apply, drawC_apply, a7_1, l6, wc_eq (wt _), wc_eq (rtrue_spec t ok _), ez, zz, wc_eq (alive_spec _), aPick]
  refine ⟨rfl, ?_⟩
  exact ⟨[.bool true], by simp only [Env.results, Option.map_some, get_put, reduceIte, Nat.reduceEqDiff], h1, rfl⟩
end Go.Bf
