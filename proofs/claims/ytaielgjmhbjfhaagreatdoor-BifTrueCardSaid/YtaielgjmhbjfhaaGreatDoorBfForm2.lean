/-
  What form answers: its walk, kind by kind (written by tools/bfform.py).
-/
import Derived.Test.YtaielgjmhbjfhaaGreatDoorBfTerm
set_option linter.unusedVariables false
set_option linter.unusedSimpArgs false
set_option maxRecDepth 20000
namespace Go.Bf
open Go.AM

/-- one body is run in the heap that holds one part -/
theorem fin1 {s : St} {n : Nat} {v : AV} {h : Heap} {Q : COut → Prop} (hg : s.σ.get n = v) (hv : v.noRef = true) (h1 : v.one = true) (hq : Q (.ret ⟨v, h, .none⟩)) : pureQ env [.tmp n] h Q .ret s := by
  refine ⟨[v], v, by simp only [Env.results, Option.map_some, hg], ?_, hq⟩
  exact (frz_noRef (v := v) hv).2 rfl
theorem wc_ex {f : Nat} {args : List AV} {h : Heap} {α : Type} {r : α → COut} (w : WC env f args h (fun o => ∃ q, o = r q)) : ∃ q, WC env f args h (fun o => o = r q) := by
  obtain ⟨o, h1, q, h2⟩ := w
  exact ⟨q, o, h1, h2⟩
theorem form_one (a : Int) (x : Option (Int × Und)) : (formAV a x).one = true := by
  rcases x with _ | ⟨c, u⟩ <;> rfl
theorem form_k1 (i : Int) (s : List UInt8) (c : Int) (nf : Option Bool) (ns : List Int) (af : Option Bool) (ar : List Tm) (ho : Tm.Ok (.mk 1 i s c nf ns af ar)) (p : Int) (h : Heap) : WC env 130 [.agg (tc (.mk 1 i s c nf ns af ar)), .int .i64 p] h (fun o => o = .ret ⟨formAV p (formF (.mk 1 i s c nf ns af ar)), h, .none⟩) := by
  obtain ⟨ss, sn, sa, _⟩ := ho.lens
  refine call_pure rfl rfl rfl (by simp only [AV.noRefs, AV.noRef, noRef_tc, Bool.and_self, Bool.true_and]) ?_
  obtain ⟨t, et⟩ : ∃ t : Tm, t = (.mk 1 i s c nf ns af ar) := ⟨_, rfl⟩
  rw [← et]
  obtain ⟨cs, ec⟩ : ∃ cs, cs = tc t := ⟨_, rfl⟩
  obtain ⟨nv, en⟩ : ∃ nv, nv = slAV nf ns.length (u32s ns) := ⟨_, rfl⟩
  obtain ⟨av, ea⟩ : ∃ av, av = slAV af ar.length (tcs ar) := ⟨_, rfl⟩
  have ec' : cs = [.int .i64 1, .int .i64 i, .str s, .int .u32 c, nv, av] := by rw [ec, et, en, ea]; rfl
  obtain ⟨h1, eh1⟩ : ∃ h1, h1 = Heap.empty.new cs := ⟨_, rfl⟩
  have a1 : h1.at_ Heap.empty.next 0 = some [.int .i64 1, .int .i64 i, .str s, .int .u32 c, nv, av] := by rw [← ec', eh1]; exact at_new _
  rw [← ec]
  have y1 : (AV.agg cs).row = some cs := rfl
  have y2 : cs.length = 6 := by rw [ec']; rfl
  have l0 := ld60 a1
  have l1 := ld61 a1
  have l2 := ld62 a1
  have l4 := ld64 a1
  have l5 := ld65 a1
  have l6 : aLoad h1 true 6 (.ptr Heap.empty.next 0 0) = some ⟨.agg cs, h1, .read⟩ := by rw [ec']; exact ld6 a1
  have we : ∀ bt bn ba h, WC env 139 [.agg cs, .bool bt, .bool bn, .bool ba] h (fun o => o = .ret ⟨.bool (emptyF t bt bn ba), h, .none⟩) := fun bt bn ba h => by rw [ec]; exact empty_spec t bt bn ba h
  have nl : ∀ h, aLenOp false h nv = some ⟨.int .i64 ns.length, h, .none⟩ := fun h => by rw [en]; exact len_sl _ _ _ (fun _ => trivial) h
  have al : ∀ h, aLenOp false h av = some ⟨.int .i64 ar.length, h, .none⟩ := fun h => by rw [ea]; exact len_sl _ _ _ (fun _ => trivial) h
  cases e1 : emptyF t false false false with
  | false =>
    have ef : formF t = some (40, none) := by rw [et, formF, ← et, if_pos (by rw [et, kindOk, ← et]; simp [e1])]
    simp only [a130, a130_0, a130_1, a130_2, a130_3, a130_4, a130_17, Slots.ofList, wpo_u, wpc_skip, wpc_ops, wpc_draw, wpc_seq, wpc_cond, wpc_block, wpc_loop, wpc_exit, wpc_scope, wpc_ret, seqQ_norm, seqQ_ret, seqQ_exit, blockQ'_norm, blockQ'_ret, blockQ'_exit, roundQ_norm, roundQ_ret, roundQ_exit, condK_true, condK_false, wpo_nil', wpo_none, wpo_tt, wpo_ff, wpo_tf, wpo_ft, opsK_c, isC_none, isC_read, isC_write, wp1_call, callK_ret, wp1_mv', wp1_bin', wp1_un', wp1_eq', wp1_extract', wp1_pick', wp1_len', wp1_load', wp1_conv', wp1_store', wp1_idxAddr', wp1_append', wp1_mkIface', wp1_alloc', rd_t, rd_c, ok_t, ok_c, put_some, put_none, get_put, reduceIte, Nat.reduceEqDiff, AV.bool.injEq, Option.some.injEq, exists_eq_left', Option.map_some, Option.bind_some, opds_nil, opds_cons, opd_t, opd_c, aBin, aInt, decide_true, decide_false, negIf, wp1_nilCheck', wp1_fieldAddr', wp1_slice, op_slice, opdo_some, opdo_none, wp1_lit, op_lit, parts_nil, parts_cons, wp1_build, op_build, wp1_box, op_box, y1, y2, ← eh1, aFieldAddr, Nat.zero_add, l0, l6, wc_eq (we _ _ _ _), nl, al, aUn, aPick, Int.reduceBEq, Int.reduceBNe, Int.reduceEq, Nat.reduceBEq, a130_18, Bool.not_false, wc_eq (tfault_nil _ _ _), e1]
    exact fin1 (v := formAV p (formF t)) (by simp only [get_put, reduceIte, Nat.reduceEqDiff]; rw [ef]; rfl) (noRef_form _ _) (form_one _ _) rfl
  | true =>
    have ek : ¬ kindOk t = false := by rw [et, kindOk, ← et]; simp [e1]
    by_cases c1 : i < -576460752303423488
    · have z1 : (i < -576460752303423488) = True := eq_true c1
      have ef : formF t = some (2, none) := by rw [et, formF, ← et, if_neg ek, if_pos rfl, if_pos (.inl c1)]
      simp only [a130, a130_0, a130_1, a130_2, a130_3, a130_4, a130_17, Slots.ofList, wpo_u, wpc_skip, wpc_ops, wpc_draw, wpc_seq, wpc_cond, wpc_block, wpc_loop, wpc_exit, wpc_scope, wpc_ret, seqQ_norm, seqQ_ret, seqQ_exit, blockQ'_norm, blockQ'_ret, blockQ'_exit, roundQ_norm, roundQ_ret, roundQ_exit, condK_true, condK_false, wpo_nil', wpo_none, wpo_tt, wpo_ff, wpo_tf, wpo_ft, opsK_c, isC_none, isC_read, isC_write, wp1_call, callK_ret, wp1_mv', wp1_bin', wp1_un', wp1_eq', wp1_extract', wp1_pick', wp1_len', wp1_load', wp1_conv', wp1_store', wp1_idxAddr', wp1_append', wp1_mkIface', wp1_alloc', rd_t, rd_c, ok_t, ok_c, put_some, put_none, get_put, reduceIte, Nat.reduceEqDiff, AV.bool.injEq, Option.some.injEq, exists_eq_left', Option.map_some, Option.bind_some, opds_nil, opds_cons, opd_t, opd_c, aBin, aInt, decide_true, decide_false, negIf, wp1_nilCheck', wp1_fieldAddr', wp1_slice, op_slice, opdo_some, opdo_none, wp1_lit, op_lit, parts_nil, parts_cons, wp1_build, op_build, wp1_box, op_box, y1, y2, ← eh1, aFieldAddr, Nat.zero_add, l0, l6, wc_eq (we _ _ _ _), nl, al, aUn, aPick, Int.reduceBEq, Int.reduceBNe, Int.reduceEq, Nat.reduceBEq, a130_19, a130_20, Bool.not_true, e1, a130_21, a130_22, a130_23, l1, z1, wc_eq (tfault_nil _ _ _)]
      exact fin1 (v := formAV p (formF t)) (by simp only [get_put, reduceIte, Nat.reduceEqDiff]; rw [ef]; rfl) (noRef_form _ _) (form_one _ _) rfl
    have z1 : (i < -576460752303423488) = False := eq_false c1
    by_cases c2 : i > 576460752303423487
    · have z2 : (i > 576460752303423487) = True := eq_true c2
      have ef : formF t = some (2, none) := by rw [et, formF, ← et, if_neg ek, if_pos rfl, if_pos (.inr c2)]
      simp only [a130, a130_0, a130_1, a130_2, a130_3, a130_4, a130_17, Slots.ofList, wpo_u, wpc_skip, wpc_ops, wpc_draw, wpc_seq, wpc_cond, wpc_block, wpc_loop, wpc_exit, wpc_scope, wpc_ret, seqQ_norm, seqQ_ret, seqQ_exit, blockQ'_norm, blockQ'_ret, blockQ'_exit, roundQ_norm, roundQ_ret, roundQ_exit, condK_true, condK_false, wpo_nil', wpo_none, wpo_tt, wpo_ff, wpo_tf, wpo_ft, opsK_c, isC_none, isC_read, isC_write, wp1_call, callK_ret, wp1_mv', wp1_bin', wp1_un', wp1_eq', wp1_extract', wp1_pick', wp1_len', wp1_load', wp1_conv', wp1_store', wp1_idxAddr', wp1_append', wp1_mkIface', wp1_alloc', rd_t, rd_c, ok_t, ok_c, put_some, put_none, get_put, reduceIte, Nat.reduceEqDiff, AV.bool.injEq, Option.some.injEq, exists_eq_left', Option.map_some, Option.bind_some, opds_nil, opds_cons, opd_t, opd_c, aBin, aInt, decide_true, decide_false, negIf, wp1_nilCheck', wp1_fieldAddr', wp1_slice, op_slice, opdo_some, opdo_none, wp1_lit, op_lit, parts_nil, parts_cons, wp1_build, op_build, wp1_box, op_box, y1, y2, ← eh1, aFieldAddr, Nat.zero_add, l0, l6, wc_eq (we _ _ _ _), nl, al, aUn, aPick, Int.reduceBEq, Int.reduceBNe, Int.reduceEq, Nat.reduceBEq, a130_19, a130_20, Bool.not_true, e1, a130_21, a130_22, a130_23, l1, z1, z2, wc_eq (tfault_nil _ _ _)]
      exact fin1 (v := formAV p (formF t)) (by simp only [get_put, reduceIte, Nat.reduceEqDiff]; rw [ef]; rfl) (noRef_form _ _) (form_one _ _) rfl
    have z2 : (i > 576460752303423487) = False := eq_false c2
    have ef : formF t = none := by rw [et, formF, ← et, if_neg ek, if_pos rfl, if_neg (by rintro (h | h); exact c1 h; exact c2 h)]
    simp only [a130, a130_0, a130_1, a130_2, a130_3, a130_4, a130_17, Slots.ofList, wpo_u, wpc_skip, wpc_ops, wpc_draw, wpc_seq, wpc_cond, wpc_block, wpc_loop, wpc_exit, wpc_scope, wpc_ret, seqQ_norm, seqQ_ret, seqQ_exit, blockQ'_norm, blockQ'_ret, blockQ'_exit, roundQ_norm, roundQ_ret, roundQ_exit, condK_true, condK_false, wpo_nil', wpo_none, wpo_tt, wpo_ff, wpo_tf, wpo_ft, opsK_c, isC_none, isC_read, isC_write, wp1_call, callK_ret, wp1_mv', wp1_bin', wp1_un', wp1_eq', wp1_extract', wp1_pick', wp1_len', wp1_load', wp1_conv', wp1_store', wp1_idxAddr', wp1_append', wp1_mkIface', wp1_alloc', rd_t, rd_c, ok_t, ok_c, put_some, put_none, get_put, reduceIte, Nat.reduceEqDiff, AV.bool.injEq, Option.some.injEq, exists_eq_left', Option.map_some, Option.bind_some, opds_nil, opds_cons, opd_t, opd_c, aBin, aInt, decide_true, decide_false, negIf, wp1_nilCheck', wp1_fieldAddr', wp1_slice, op_slice, opdo_some, opdo_none, wp1_lit, op_lit, parts_nil, parts_cons, wp1_build, op_build, wp1_box, op_box, y1, y2, ← eh1, aFieldAddr, Nat.zero_add, l0, l6, wc_eq (we _ _ _ _), nl, al, aUn, aPick, Int.reduceBEq, Int.reduceBNe, Int.reduceEq, Nat.reduceBEq, a130_19, a130_20, Bool.not_true, e1, a130_21, a130_22, a130_29, a130_31, l1, z1, z2, eq_nil]
    exact fin1 (v := formAV p (formF t)) (by simp only [get_put, reduceIte, Nat.reduceEqDiff]; rw [ef]; rfl) (noRef_form _ _) (form_one _ _) rfl
theorem form_k2 (i : Int) (s : List UInt8) (c : Int) (nf : Option Bool) (ns : List Int) (af : Option Bool) (ar : List Tm) (ho : Tm.Ok (.mk 2 i s c nf ns af ar)) (p : Int) (h : Heap) : WC env 130 [.agg (tc (.mk 2 i s c nf ns af ar)), .int .i64 p] h (fun o => o = .ret ⟨formAV p (formF (.mk 2 i s c nf ns af ar)), h, .none⟩) := by
  obtain ⟨ss, sn, sa, _⟩ := ho.lens
  refine call_pure rfl rfl rfl (by simp only [AV.noRefs, AV.noRef, noRef_tc, Bool.and_self, Bool.true_and]) ?_
  obtain ⟨t, et⟩ : ∃ t : Tm, t = (.mk 2 i s c nf ns af ar) := ⟨_, rfl⟩
  rw [← et]
  obtain ⟨cs, ec⟩ : ∃ cs, cs = tc t := ⟨_, rfl⟩
  obtain ⟨nv, en⟩ : ∃ nv, nv = slAV nf ns.length (u32s ns) := ⟨_, rfl⟩
  obtain ⟨av, ea⟩ : ∃ av, av = slAV af ar.length (tcs ar) := ⟨_, rfl⟩
  have ec' : cs = [.int .i64 2, .int .i64 i, .str s, .int .u32 c, nv, av] := by rw [ec, et, en, ea]; rfl
  obtain ⟨h1, eh1⟩ : ∃ h1, h1 = Heap.empty.new cs := ⟨_, rfl⟩
  have a1 : h1.at_ Heap.empty.next 0 = some [.int .i64 2, .int .i64 i, .str s, .int .u32 c, nv, av] := by rw [← ec', eh1]; exact at_new _
  rw [← ec]
  have y1 : (AV.agg cs).row = some cs := rfl
  have y2 : cs.length = 6 := by rw [ec']; rfl
  have l0 := ld60 a1
  have l1 := ld61 a1
  have l2 := ld62 a1
  have l4 := ld64 a1
  have l5 := ld65 a1
  have l6 : aLoad h1 true 6 (.ptr Heap.empty.next 0 0) = some ⟨.agg cs, h1, .read⟩ := by rw [ec']; exact ld6 a1
  have we : ∀ bt bn ba h, WC env 139 [.agg cs, .bool bt, .bool bn, .bool ba] h (fun o => o = .ret ⟨.bool (emptyF t bt bn ba), h, .none⟩) := fun bt bn ba h => by rw [ec]; exact empty_spec t bt bn ba h
  have nl : ∀ h, aLenOp false h nv = some ⟨.int .i64 ns.length, h, .none⟩ := fun h => by rw [en]; exact len_sl _ _ _ (fun _ => trivial) h
  have al : ∀ h, aLenOp false h av = some ⟨.int .i64 ar.length, h, .none⟩ := fun h => by rw [ea]; exact len_sl _ _ _ (fun _ => trivial) h
  cases e1 : emptyF t true false false with
  | false =>
    have ef : formF t = some (40, none) := by rw [et, formF, ← et, if_pos (by rw [et, kindOk, ← et]; simp [e1])]
    simp only [a130, a130_0, a130_1, a130_2, a130_3, a130_5, a130_6, a130_17, Slots.ofList, wpo_u, wpc_skip, wpc_ops, wpc_draw, wpc_seq, wpc_cond, wpc_block, wpc_loop, wpc_exit, wpc_scope, wpc_ret, seqQ_norm, seqQ_ret, seqQ_exit, blockQ'_norm, blockQ'_ret, blockQ'_exit, roundQ_norm, roundQ_ret, roundQ_exit, condK_true, condK_false, wpo_nil', wpo_none, wpo_tt, wpo_ff, wpo_tf, wpo_ft, opsK_c, isC_none, isC_read, isC_write, wp1_call, callK_ret, wp1_mv', wp1_bin', wp1_un', wp1_eq', wp1_extract', wp1_pick', wp1_len', wp1_load', wp1_conv', wp1_store', wp1_idxAddr', wp1_append', wp1_mkIface', wp1_alloc', rd_t, rd_c, ok_t, ok_c, put_some, put_none, get_put, reduceIte, Nat.reduceEqDiff, AV.bool.injEq, Option.some.injEq, exists_eq_left', Option.map_some, Option.bind_some, opds_nil, opds_cons, opd_t, opd_c, aBin, aInt, decide_true, decide_false, negIf, wp1_nilCheck', wp1_fieldAddr', wp1_slice, op_slice, opdo_some, opdo_none, wp1_lit, op_lit, parts_nil, parts_cons, wp1_build, op_build, wp1_box, op_box, y1, y2, ← eh1, aFieldAddr, Nat.zero_add, l0, l6, wc_eq (we _ _ _ _), nl, al, aUn, aPick, Int.reduceBEq, Int.reduceBNe, Int.reduceEq, Nat.reduceBEq, a130_18, Bool.not_false, wc_eq (tfault_nil _ _ _), e1]
    exact fin1 (v := formAV p (formF t)) (by simp only [get_put, reduceIte, Nat.reduceEqDiff]; rw [ef]; rfl) (noRef_form _ _) (form_one _ _) rfl
  | true =>
    have ek : ¬ kindOk t = false := by rw [et, kindOk, ← et]; simp [e1]
    obtain ⟨q, wq⟩ := wc_ex (quote_spec s h1)
    cases eq : quoteErr s with
    | none =>
      rw [eq] at wq
      have wq : WC env 140 [.str s] h1 (fun o => o = .ret ⟨.tup [.str q, .nili], h1, .none⟩) := wq
      have ef : formF t = none := by rw [et, formF, ← et, if_neg ek, if_neg (by decide), if_pos rfl, eq]
      simp only [a130, a130_0, a130_1, a130_2, a130_3, a130_5, a130_6, a130_17, Slots.ofList, wpo_u, wpc_skip, wpc_ops, wpc_draw, wpc_seq, wpc_cond, wpc_block, wpc_loop, wpc_exit, wpc_scope, wpc_ret, seqQ_norm, seqQ_ret, seqQ_exit, blockQ'_norm, blockQ'_ret, blockQ'_exit, roundQ_norm, roundQ_ret, roundQ_exit, condK_true, condK_false, wpo_nil', wpo_none, wpo_tt, wpo_ff, wpo_tf, wpo_ft, opsK_c, isC_none, isC_read, isC_write, wp1_call, callK_ret, wp1_mv', wp1_bin', wp1_un', wp1_eq', wp1_extract', wp1_pick', wp1_len', wp1_load', wp1_conv', wp1_store', wp1_idxAddr', wp1_append', wp1_mkIface', wp1_alloc', rd_t, rd_c, ok_t, ok_c, put_some, put_none, get_put, reduceIte, Nat.reduceEqDiff, AV.bool.injEq, Option.some.injEq, exists_eq_left', Option.map_some, Option.bind_some, opds_nil, opds_cons, opd_t, opd_c, aBin, aInt, decide_true, decide_false, negIf, wp1_nilCheck', wp1_fieldAddr', wp1_slice, op_slice, opdo_some, opdo_none, wp1_lit, op_lit, parts_nil, parts_cons, wp1_build, op_build, wp1_box, op_box, y1, y2, ← eh1, aFieldAddr, Nat.zero_add, l0, l6, wc_eq (we _ _ _ _), nl, al, aUn, aPick, Int.reduceBEq, Int.reduceBNe, Int.reduceEq, Nat.reduceBEq, a130_19, a130_20, Bool.not_true, e1, a130_21, a130_24, a130_25, a130_29, a130_31, l2, wc_eq wq, aExtract, ex0, ex1, eq_nil]
      exact fin1 (v := formAV p (formF t)) (by simp only [get_put, reduceIte, Nat.reduceEqDiff]; rw [ef]; rfl) (noRef_form _ _) (form_one _ _) rfl
    | some pc =>
      obtain ⟨pp, cc⟩ := pc
      rw [eq] at wq
      have wq : WC env 140 [.str s] h1 (fun o => o = .ret ⟨.tup [.str q, errA pp cc], h1, .none⟩) := wq
      have ef : formF t = some (cc, some (pp, cc)) := by rw [et, formF, ← et, if_neg ek, if_neg (by decide), if_pos rfl, eq]
      simp only [a130, a130_0, a130_1, a130_2, a130_3, a130_5, a130_6, a130_17, Slots.ofList, wpo_u, wpc_skip, wpc_ops, wpc_draw, wpc_seq, wpc_cond, wpc_block, wpc_loop, wpc_exit, wpc_scope, wpc_ret, seqQ_norm, seqQ_ret, seqQ_exit, blockQ'_norm, blockQ'_ret, blockQ'_exit, roundQ_norm, roundQ_ret, roundQ_exit, condK_true, condK_false, wpo_nil', wpo_none, wpo_tt, wpo_ff, wpo_tf, wpo_ft, opsK_c, isC_none, isC_read, isC_write, wp1_call, callK_ret, wp1_mv', wp1_bin', wp1_un', wp1_eq', wp1_extract', wp1_pick', wp1_len', wp1_load', wp1_conv', wp1_store', wp1_idxAddr', wp1_append', wp1_mkIface', wp1_alloc', rd_t, rd_c, ok_t, ok_c, put_some, put_none, get_put, reduceIte, Nat.reduceEqDiff, AV.bool.injEq, Option.some.injEq, exists_eq_left', Option.map_some, Option.bind_some, opds_nil, opds_cons, opd_t, opd_c, aBin, aInt, decide_true, decide_false, negIf, wp1_nilCheck', wp1_fieldAddr', wp1_slice, op_slice, opdo_some, opdo_none, wp1_lit, op_lit, parts_nil, parts_cons, wp1_build, op_build, wp1_box, op_box, y1, y2, ← eh1, aFieldAddr, Nat.zero_add, l0, l6, wc_eq (we _ _ _ _), nl, al, aUn, aPick, Int.reduceBEq, Int.reduceBNe, Int.reduceEq, Nat.reduceBEq, a130_19, a130_20, Bool.not_true, e1, a130_21, a130_24, a130_25, a130_29, a130_30, l2, wc_eq wq, aExtract, ex0, ex1, aEq_errA, Bool.not_false, wc_eq (tcode_err _ _ _), wc_eq (tfault_err _ _ _ _ _)]
      exact fin1 (v := formAV p (formF t)) (by simp only [get_put, reduceIte, Nat.reduceEqDiff]; rw [ef]; rfl) (noRef_form _ _) (form_one _ _) rfl
theorem form_k3 (i : Int) (s : List UInt8) (c : Int) (nf : Option Bool) (ns : List Int) (af : Option Bool) (ar : List Tm) (ho : Tm.Ok (.mk 3 i s c nf ns af ar)) (p : Int) (h : Heap) : WC env 130 [.agg (tc (.mk 3 i s c nf ns af ar)), .int .i64 p] h (fun o => o = .ret ⟨formAV p (formF (.mk 3 i s c nf ns af ar)), h, .none⟩) := by
  obtain ⟨ss, sn, sa, _⟩ := ho.lens
  refine call_pure rfl rfl rfl (by simp only [AV.noRefs, AV.noRef, noRef_tc, Bool.and_self, Bool.true_and]) ?_
  obtain ⟨t, et⟩ : ∃ t : Tm, t = (.mk 3 i s c nf ns af ar) := ⟨_, rfl⟩
  rw [← et]
  obtain ⟨cs, ec⟩ : ∃ cs, cs = tc t := ⟨_, rfl⟩
  obtain ⟨nv, en⟩ : ∃ nv, nv = slAV nf ns.length (u32s ns) := ⟨_, rfl⟩
  obtain ⟨av, ea⟩ : ∃ av, av = slAV af ar.length (tcs ar) := ⟨_, rfl⟩
  have ec' : cs = [.int .i64 3, .int .i64 i, .str s, .int .u32 c, nv, av] := by rw [ec, et, en, ea]; rfl
  obtain ⟨h1, eh1⟩ : ∃ h1, h1 = Heap.empty.new cs := ⟨_, rfl⟩
  have a1 : h1.at_ Heap.empty.next 0 = some [.int .i64 3, .int .i64 i, .str s, .int .u32 c, nv, av] := by rw [← ec', eh1]; exact at_new _
  rw [← ec]
  have y1 : (AV.agg cs).row = some cs := rfl
  have y2 : cs.length = 6 := by rw [ec']; rfl
  have l0 := ld60 a1
  have l1 := ld61 a1
  have l2 := ld62 a1
  have l4 := ld64 a1
  have l5 := ld65 a1
  have l6 : aLoad h1 true 6 (.ptr Heap.empty.next 0 0) = some ⟨.agg cs, h1, .read⟩ := by rw [ec']; exact ld6 a1
  have we : ∀ bt bn ba h, WC env 139 [.agg cs, .bool bt, .bool bn, .bool ba] h (fun o => o = .ret ⟨.bool (emptyF t bt bn ba), h, .none⟩) := fun bt bn ba h => by rw [ec]; exact empty_spec t bt bn ba h
  have nl : ∀ h, aLenOp false h nv = some ⟨.int .i64 ns.length, h, .none⟩ := fun h => by rw [en]; exact len_sl _ _ _ (fun _ => trivial) h
  have al : ∀ h, aLenOp false h av = some ⟨.int .i64 ar.length, h, .none⟩ := fun h => by rw [ea]; exact len_sl _ _ _ (fun _ => trivial) h
  cases e1 : emptyF t true true false with
  | false =>
    have ef : formF t = some (40, none) := by rw [et, formF, ← et, if_pos (by rw [et, kindOk, ← et]; simp [e1])]
    simp only [a130, a130_0, a130_1, a130_2, a130_3, a130_5, a130_7, a130_8, a130_17, Slots.ofList, wpo_u, wpc_skip, wpc_ops, wpc_draw, wpc_seq, wpc_cond, wpc_block, wpc_loop, wpc_exit, wpc_scope, wpc_ret, seqQ_norm, seqQ_ret, seqQ_exit, blockQ'_norm, blockQ'_ret, blockQ'_exit, roundQ_norm, roundQ_ret, roundQ_exit, condK_true, condK_false, wpo_nil', wpo_none, wpo_tt, wpo_ff, wpo_tf, wpo_ft, opsK_c, isC_none, isC_read, isC_write, wp1_call, callK_ret, wp1_mv', wp1_bin', wp1_un', wp1_eq', wp1_extract', wp1_pick', wp1_len', wp1_load', wp1_conv', wp1_store', wp1_idxAddr', wp1_append', wp1_mkIface', wp1_alloc', rd_t, rd_c, ok_t, ok_c, put_some, put_none, get_put, reduceIte, Nat.reduceEqDiff, AV.bool.injEq, Option.some.injEq, exists_eq_left', Option.map_some, Option.bind_some, opds_nil, opds_cons, opd_t, opd_c, aBin, aInt, decide_true, decide_false, negIf, wp1_nilCheck', wp1_fieldAddr', wp1_slice, op_slice, opdo_some, opdo_none, wp1_lit, op_lit, parts_nil, parts_cons, wp1_build, op_build, wp1_box, op_box, y1, y2, ← eh1, aFieldAddr, Nat.zero_add, l0, l6, wc_eq (we _ _ _ _), nl, al, aUn, aPick, Int.reduceBEq, Int.reduceBNe, Int.reduceEq, Nat.reduceBEq, a130_18, Bool.not_false, wc_eq (tfault_nil _ _ _), e1]
    exact fin1 (v := formAV p (formF t)) (by simp only [get_put, reduceIte, Nat.reduceEqDiff]; rw [ef]; rfl) (noRef_form _ _) (form_one _ _) rfl
  | true =>
    cases e2 : (ns.length == 3) with
    | false =>
      have z : ((ns.length : Int) == 3) = false := by simp at e2 ⊢; omega
      have ef : formF t = some (40, none) := by rw [et, formF, ← et, if_pos (by rw [et, kindOk, ← et]; simp [e1, e2])]
      simp only [a130, a130_0, a130_1, a130_2, a130_3, a130_5, a130_7, a130_8, a130_17, Slots.ofList, wpo_u, wpc_skip, wpc_ops, wpc_draw, wpc_seq, wpc_cond, wpc_block, wpc_loop, wpc_exit, wpc_scope, wpc_ret, seqQ_norm, seqQ_ret, seqQ_exit, blockQ'_norm, blockQ'_ret, blockQ'_exit, roundQ_norm, roundQ_ret, roundQ_exit, condK_true, condK_false, wpo_nil', wpo_none, wpo_tt, wpo_ff, wpo_tf, wpo_ft, opsK_c, isC_none, isC_read, isC_write, wp1_call, callK_ret, wp1_mv', wp1_bin', wp1_un', wp1_eq', wp1_extract', wp1_pick', wp1_len', wp1_load', wp1_conv', wp1_store', wp1_idxAddr', wp1_append', wp1_mkIface', wp1_alloc', rd_t, rd_c, ok_t, ok_c, put_some, put_none, get_put, reduceIte, Nat.reduceEqDiff, AV.bool.injEq, Option.some.injEq, exists_eq_left', Option.map_some, Option.bind_some, opds_nil, opds_cons, opd_t, opd_c, aBin, aInt, decide_true, decide_false, negIf, wp1_nilCheck', wp1_fieldAddr', wp1_slice, op_slice, opdo_some, opdo_none, wp1_lit, op_lit, parts_nil, parts_cons, wp1_build, op_build, wp1_box, op_box, y1, y2, ← eh1, aFieldAddr, Nat.zero_add, l0, l6, wc_eq (we _ _ _ _), nl, al, aUn, aPick, Int.reduceBEq, Int.reduceBNe, Int.reduceEq, Nat.reduceBEq, a130_18, Bool.not_false, wc_eq (tfault_nil _ _ _), e1, l4, z]
      exact fin1 (v := formAV p (formF t)) (by simp only [get_put, reduceIte, Nat.reduceEqDiff]; rw [ef]; rfl) (noRef_form _ _) (form_one _ _) rfl
    | true =>
      have z : ((ns.length : Int) == 3) = true := by simp at e2 ⊢; omega
      have ek : ¬ kindOk t = false := by rw [et, kindOk, ← et]; simp [e1, e2]
      obtain ⟨q1, q2, wq⟩ := wc_ex2 (node_spec s ss h1)
      cases eq : nodeF s with
      | true =>
        rw [eq] at wq
        have wq : WC env 141 [.str s] h1 (fun o => o = .ret ⟨.tup [.str q1, .str q2, .nili], h1, .none⟩) := wq
        have ef : formF t = none := by rw [et, formF, ← et, if_neg ek, if_neg (by decide), if_neg (by decide), if_pos (by decide), eq]; rfl
        simp only [a130, a130_0, a130_1, a130_2, a130_3, a130_5, a130_7, a130_8, a130_17, Slots.ofList, wpo_u, wpc_skip, wpc_ops, wpc_draw, wpc_seq, wpc_cond, wpc_block, wpc_loop, wpc_exit, wpc_scope, wpc_ret, seqQ_norm, seqQ_ret, seqQ_exit, blockQ'_norm, blockQ'_ret, blockQ'_exit, roundQ_norm, roundQ_ret, roundQ_exit, condK_true, condK_false, wpo_nil', wpo_none, wpo_tt, wpo_ff, wpo_tf, wpo_ft, opsK_c, isC_none, isC_read, isC_write, wp1_call, callK_ret, wp1_mv', wp1_bin', wp1_un', wp1_eq', wp1_extract', wp1_pick', wp1_len', wp1_load', wp1_conv', wp1_store', wp1_idxAddr', wp1_append', wp1_mkIface', wp1_alloc', rd_t, rd_c, ok_t, ok_c, put_some, put_none, get_put, reduceIte, Nat.reduceEqDiff, AV.bool.injEq, Option.some.injEq, exists_eq_left', Option.map_some, Option.bind_some, opds_nil, opds_cons, opd_t, opd_c, aBin, aInt, decide_true, decide_false, negIf, wp1_nilCheck', wp1_fieldAddr', wp1_slice, op_slice, opdo_some, opdo_none, wp1_lit, op_lit, parts_nil, parts_cons, wp1_build, op_build, wp1_box, op_box, y1, y2, ← eh1, aFieldAddr, Nat.zero_add, l0, l6, wc_eq (we _ _ _ _), nl, al, aUn, aPick, Int.reduceBEq, Int.reduceBNe, Int.reduceEq, Nat.reduceBEq, a130_19, a130_20, Bool.not_true, e1, l4, z, a130_21, a130_24, a130_26, a130_28, a130_29, a130_31, l2, wc_eq wq, aExtract, x30, x31, x32, eq_nil]
        exact fin1 (v := formAV p (formF t)) (by simp only [get_put, reduceIte, Nat.reduceEqDiff]; rw [ef]; rfl) (noRef_form _ _) (form_one _ _) rfl
      | false =>
        rw [eq] at wq
        have wq : WC env 141 [.str s] h1 (fun o => o = .ret ⟨.tup [.str q1, .str q2, errA 0 24], h1, .none⟩) := wq
        have ef : formF t = some (24, some (0, 24)) := by rw [et, formF, ← et, if_neg ek, if_neg (by decide), if_neg (by decide), if_pos (by decide), eq]; rfl
        simp only [a130, a130_0, a130_1, a130_2, a130_3, a130_5, a130_7, a130_8, a130_17, Slots.ofList, wpo_u, wpc_skip, wpc_ops, wpc_draw, wpc_seq, wpc_cond, wpc_block, wpc_loop, wpc_exit, wpc_scope, wpc_ret, seqQ_norm, seqQ_ret, seqQ_exit, blockQ'_norm, blockQ'_ret, blockQ'_exit, roundQ_norm, roundQ_ret, roundQ_exit, condK_true, condK_false, wpo_nil', wpo_none, wpo_tt, wpo_ff, wpo_tf, wpo_ft, opsK_c, isC_none, isC_read, isC_write, wp1_call, callK_ret, wp1_mv', wp1_bin', wp1_un', wp1_eq', wp1_extract', wp1_pick', wp1_len', wp1_load', wp1_conv', wp1_store', wp1_idxAddr', wp1_append', wp1_mkIface', wp1_alloc', rd_t, rd_c, ok_t, ok_c, put_some, put_none, get_put, reduceIte, Nat.reduceEqDiff, AV.bool.injEq, Option.some.injEq, exists_eq_left', Option.map_some, Option.bind_some, opds_nil, opds_cons, opd_t, opd_c, aBin, aInt, decide_true, decide_false, negIf, wp1_nilCheck', wp1_fieldAddr', wp1_slice, op_slice, opdo_some, opdo_none, wp1_lit, op_lit, parts_nil, parts_cons, wp1_build, op_build, wp1_box, op_box, y1, y2, ← eh1, aFieldAddr, Nat.zero_add, l0, l6, wc_eq (we _ _ _ _), nl, al, aUn, aPick, Int.reduceBEq, Int.reduceBNe, Int.reduceEq, Nat.reduceBEq, a130_19, a130_20, Bool.not_true, e1, l4, z, a130_21, a130_24, a130_26, a130_28, a130_29, a130_30, l2, wc_eq wq, aExtract, x30, x31, x32, aEq_errA, Bool.not_false, wc_eq (tcode_err _ _ _), wc_eq (tfault_err _ _ _ _ _)]
        exact fin1 (v := formAV p (formF t)) (by simp only [get_put, reduceIte, Nat.reduceEqDiff]; rw [ef]; rfl) (noRef_form _ _) (form_one _ _) rfl
theorem form_k4 (i : Int) (s : List UInt8) (c : Int) (nf : Option Bool) (ns : List Int) (af : Option Bool) (ar : List Tm) (ho : Tm.Ok (.mk 4 i s c nf ns af ar)) (p : Int) (h : Heap) : WC env 130 [.agg (tc (.mk 4 i s c nf ns af ar)), .int .i64 p] h (fun o => o = .ret ⟨formAV p (formF (.mk 4 i s c nf ns af ar)), h, .none⟩) := by
  obtain ⟨ss, sn, sa, _⟩ := ho.lens
  refine call_pure rfl rfl rfl (by simp only [AV.noRefs, AV.noRef, noRef_tc, Bool.and_self, Bool.true_and]) ?_
  obtain ⟨t, et⟩ : ∃ t : Tm, t = (.mk 4 i s c nf ns af ar) := ⟨_, rfl⟩
  rw [← et]
  obtain ⟨cs, ec⟩ : ∃ cs, cs = tc t := ⟨_, rfl⟩
  obtain ⟨nv, en⟩ : ∃ nv, nv = slAV nf ns.length (u32s ns) := ⟨_, rfl⟩
  obtain ⟨av, ea⟩ : ∃ av, av = slAV af ar.length (tcs ar) := ⟨_, rfl⟩
  have ec' : cs = [.int .i64 4, .int .i64 i, .str s, .int .u32 c, nv, av] := by rw [ec, et, en, ea]; rfl
  obtain ⟨h1, eh1⟩ : ∃ h1, h1 = Heap.empty.new cs := ⟨_, rfl⟩
  have a1 : h1.at_ Heap.empty.next 0 = some [.int .i64 4, .int .i64 i, .str s, .int .u32 c, nv, av] := by rw [← ec', eh1]; exact at_new _
  rw [← ec]
  have y1 : (AV.agg cs).row = some cs := rfl
  have y2 : cs.length = 6 := by rw [ec']; rfl
  have l0 := ld60 a1
  have l1 := ld61 a1
  have l2 := ld62 a1
  have l4 := ld64 a1
  have l5 := ld65 a1
  have l6 : aLoad h1 true 6 (.ptr Heap.empty.next 0 0) = some ⟨.agg cs, h1, .read⟩ := by rw [ec']; exact ld6 a1
  have we : ∀ bt bn ba h, WC env 139 [.agg cs, .bool bt, .bool bn, .bool ba] h (fun o => o = .ret ⟨.bool (emptyF t bt bn ba), h, .none⟩) := fun bt bn ba h => by rw [ec]; exact empty_spec t bt bn ba h
  have nl : ∀ h, aLenOp false h nv = some ⟨.int .i64 ns.length, h, .none⟩ := fun h => by rw [en]; exact len_sl _ _ _ (fun _ => trivial) h
  have al : ∀ h, aLenOp false h av = some ⟨.int .i64 ar.length, h, .none⟩ := fun h => by rw [ea]; exact len_sl _ _ _ (fun _ => trivial) h
  cases e1 : emptyF t true true false with
  | false =>
    have ef : formF t = some (40, none) := by rw [et, formF, ← et, if_pos (by rw [et, kindOk, ← et]; simp [e1])]
    simp only [a130, a130_0, a130_1, a130_2, a130_3, a130_5, a130_7, a130_9, a130_10, a130_17, Slots.ofList, wpo_u, wpc_skip, wpc_ops, wpc_draw, wpc_seq, wpc_cond, wpc_block, wpc_loop, wpc_exit, wpc_scope, wpc_ret, seqQ_norm, seqQ_ret, seqQ_exit, blockQ'_norm, blockQ'_ret, blockQ'_exit, roundQ_norm, roundQ_ret, roundQ_exit, condK_true, condK_false, wpo_nil', wpo_none, wpo_tt, wpo_ff, wpo_tf, wpo_ft, opsK_c, isC_none, isC_read, isC_write, wp1_call, callK_ret, wp1_mv', wp1_bin', wp1_un', wp1_eq', wp1_extract', wp1_pick', wp1_len', wp1_load', wp1_conv', wp1_store', wp1_idxAddr', wp1_append', wp1_mkIface', wp1_alloc', rd_t, rd_c, ok_t, ok_c, put_some, put_none, get_put, reduceIte, Nat.reduceEqDiff, AV.bool.injEq, Option.some.injEq, exists_eq_left', Option.map_some, Option.bind_some, opds_nil, opds_cons, opd_t, opd_c, aBin, aInt, decide_true, decide_false, negIf, wp1_nilCheck', wp1_fieldAddr', wp1_slice, op_slice, opdo_some, opdo_none, wp1_lit, op_lit, parts_nil, parts_cons, wp1_build, op_build, wp1_box, op_box, y1, y2, ← eh1, aFieldAddr, Nat.zero_add, l0, l6, wc_eq (we _ _ _ _), nl, al, aUn, aPick, Int.reduceBEq, Int.reduceBNe, Int.reduceEq, Nat.reduceBEq, a130_18, Bool.not_false, wc_eq (tfault_nil _ _ _), e1]
    exact fin1 (v := formAV p (formF t)) (by simp only [get_put, reduceIte, Nat.reduceEqDiff]; rw [ef]; rfl) (noRef_form _ _) (form_one _ _) rfl
  | true =>
    cases e2 : (ns.length == 2) with
    | false =>
      have z : ((ns.length : Int) == 2) = false := by simp at e2 ⊢; omega
      have ef : formF t = some (40, none) := by rw [et, formF, ← et, if_pos (by rw [et, kindOk, ← et]; simp [e1, e2])]
      simp only [a130, a130_0, a130_1, a130_2, a130_3, a130_5, a130_7, a130_9, a130_10, a130_17, Slots.ofList, wpo_u, wpc_skip, wpc_ops, wpc_draw, wpc_seq, wpc_cond, wpc_block, wpc_loop, wpc_exit, wpc_scope, wpc_ret, seqQ_norm, seqQ_ret, seqQ_exit, blockQ'_norm, blockQ'_ret, blockQ'_exit, roundQ_norm, roundQ_ret, roundQ_exit, condK_true, condK_false, wpo_nil', wpo_none, wpo_tt, wpo_ff, wpo_tf, wpo_ft, opsK_c, isC_none, isC_read, isC_write, wp1_call, callK_ret, wp1_mv', wp1_bin', wp1_un', wp1_eq', wp1_extract', wp1_pick', wp1_len', wp1_load', wp1_conv', wp1_store', wp1_idxAddr', wp1_append', wp1_mkIface', wp1_alloc', rd_t, rd_c, ok_t, ok_c, put_some, put_none, get_put, reduceIte, Nat.reduceEqDiff, AV.bool.injEq, Option.some.injEq, exists_eq_left', Option.map_some, Option.bind_some, opds_nil, opds_cons, opd_t, opd_c, aBin, aInt, decide_true, decide_false, negIf, wp1_nilCheck', wp1_fieldAddr', wp1_slice, op_slice, opdo_some, opdo_none, wp1_lit, op_lit, parts_nil, parts_cons, wp1_build, op_build, wp1_box, op_box, y1, y2, ← eh1, aFieldAddr, Nat.zero_add, l0, l6, wc_eq (we _ _ _ _), nl, al, aUn, aPick, Int.reduceBEq, Int.reduceBNe, Int.reduceEq, Nat.reduceBEq, a130_18, Bool.not_false, wc_eq (tfault_nil _ _ _), e1, l4, z]
      exact fin1 (v := formAV p (formF t)) (by simp only [get_put, reduceIte, Nat.reduceEqDiff]; rw [ef]; rfl) (noRef_form _ _) (form_one _ _) rfl
    | true =>
      have z : ((ns.length : Int) == 2) = true := by simp at e2 ⊢; omega
      have ek : ¬ kindOk t = false := by rw [et, kindOk, ← et]; simp [e1, e2]
      obtain ⟨q1, q2, wq⟩ := wc_ex2 (node_spec s ss h1)
      cases eq : nodeF s with
      | true =>
        rw [eq] at wq
        have wq : WC env 141 [.str s] h1 (fun o => o = .ret ⟨.tup [.str q1, .str q2, .nili], h1, .none⟩) := wq
        have ef : formF t = none := by rw [et, formF, ← et, if_neg ek, if_neg (by decide), if_neg (by decide), if_pos (by decide), eq]; rfl
        simp only [a130, a130_0, a130_1, a130_2, a130_3, a130_5, a130_7, a130_9, a130_10, a130_17, Slots.ofList, wpo_u, wpc_skip, wpc_ops, wpc_draw, wpc_seq, wpc_cond, wpc_block, wpc_loop, wpc_exit, wpc_scope, wpc_ret, seqQ_norm, seqQ_ret, seqQ_exit, blockQ'_norm, blockQ'_ret, blockQ'_exit, roundQ_norm, roundQ_ret, roundQ_exit, condK_true, condK_false, wpo_nil', wpo_none, wpo_tt, wpo_ff, wpo_tf, wpo_ft, opsK_c, isC_none, isC_read, isC_write, wp1_call, callK_ret, wp1_mv', wp1_bin', wp1_un', wp1_eq', wp1_extract', wp1_pick', wp1_len', wp1_load', wp1_conv', wp1_store', wp1_idxAddr', wp1_append', wp1_mkIface', wp1_alloc', rd_t, rd_c, ok_t, ok_c, put_some, put_none, get_put, reduceIte, Nat.reduceEqDiff, AV.bool.injEq, Option.some.injEq, exists_eq_left', Option.map_some, Option.bind_some, opds_nil, opds_cons, opd_t, opd_c, aBin, aInt, decide_true, decide_false, negIf, wp1_nilCheck', wp1_fieldAddr', wp1_slice, op_slice, opdo_some, opdo_none, wp1_lit, op_lit, parts_nil, parts_cons, wp1_build, op_build, wp1_box, op_box, y1, y2, ← eh1, aFieldAddr, Nat.zero_add, l0, l6, wc_eq (we _ _ _ _), nl, al, aUn, aPick, Int.reduceBEq, Int.reduceBNe, Int.reduceEq, Nat.reduceBEq, a130_19, a130_20, Bool.not_true, e1, l4, z, a130_21, a130_24, a130_26, a130_27, a130_28, a130_29, a130_31, l2, wc_eq wq, aExtract, x30, x31, x32, eq_nil]
        exact fin1 (v := formAV p (formF t)) (by simp only [get_put, reduceIte, Nat.reduceEqDiff]; rw [ef]; rfl) (noRef_form _ _) (form_one _ _) rfl
      | false =>
        rw [eq] at wq
        have wq : WC env 141 [.str s] h1 (fun o => o = .ret ⟨.tup [.str q1, .str q2, errA 0 24], h1, .none⟩) := wq
        have ef : formF t = some (24, some (0, 24)) := by rw [et, formF, ← et, if_neg ek, if_neg (by decide), if_neg (by decide), if_pos (by decide), eq]; rfl
        simp only [a130, a130_0, a130_1, a130_2, a130_3, a130_5, a130_7, a130_9, a130_10, a130_17, Slots.ofList, wpo_u, wpc_skip, wpc_ops, wpc_draw, wpc_seq, wpc_cond, wpc_block, wpc_loop, wpc_exit, wpc_scope, wpc_ret, seqQ_norm, seqQ_ret, seqQ_exit, blockQ'_norm, blockQ'_ret, blockQ'_exit, roundQ_norm, roundQ_ret, roundQ_exit, condK_true, condK_false, wpo_nil', wpo_none, wpo_tt, wpo_ff, wpo_tf, wpo_ft, opsK_c, isC_none, isC_read, isC_write, wp1_call, callK_ret, wp1_mv', wp1_bin', wp1_un', wp1_eq', wp1_extract', wp1_pick', wp1_len', wp1_load', wp1_conv', wp1_store', wp1_idxAddr', wp1_append', wp1_mkIface', wp1_alloc', rd_t, rd_c, ok_t, ok_c, put_some, put_none, get_put, reduceIte, Nat.reduceEqDiff, AV.bool.injEq, Option.some.injEq, exists_eq_left', Option.map_some, Option.bind_some, opds_nil, opds_cons, opd_t, opd_c, aBin, aInt, decide_true, decide_false, negIf, wp1_nilCheck', wp1_fieldAddr', wp1_slice, op_slice, opdo_some, opdo_none, wp1_lit, op_lit, parts_nil, parts_cons, wp1_build, op_build, wp1_box, op_box, y1, y2, ← eh1, aFieldAddr, Nat.zero_add, l0, l6, wc_eq (we _ _ _ _), nl, al, aUn, aPick, Int.reduceBEq, Int.reduceBNe, Int.reduceEq, Nat.reduceBEq, a130_19, a130_20, Bool.not_true, e1, l4, z, a130_21, a130_24, a130_26, a130_27, a130_28, a130_29, a130_30, l2, wc_eq wq, aExtract, x30, x31, x32, aEq_errA, Bool.not_false, wc_eq (tcode_err _ _ _), wc_eq (tfault_err _ _ _ _ _)]
        exact fin1 (v := formAV p (formF t)) (by simp only [get_put, reduceIte, Nat.reduceEqDiff]; rw [ef]; rfl) (noRef_form _ _) (form_one _ _) rfl
theorem form_k5 (i : Int) (s : List UInt8) (c : Int) (nf : Option Bool) (ns : List Int) (af : Option Bool) (ar : List Tm) (ho : Tm.Ok (.mk 5 i s c nf ns af ar)) (p : Int) (h : Heap) : WC env 130 [.agg (tc (.mk 5 i s c nf ns af ar)), .int .i64 p] h (fun o => o = .ret ⟨formAV p (formF (.mk 5 i s c nf ns af ar)), h, .none⟩) := by
  obtain ⟨ss, sn, sa, _⟩ := ho.lens
  refine call_pure rfl rfl rfl (by simp only [AV.noRefs, AV.noRef, noRef_tc, Bool.and_self, Bool.true_and]) ?_
  obtain ⟨t, et⟩ : ∃ t : Tm, t = (.mk 5 i s c nf ns af ar) := ⟨_, rfl⟩
  rw [← et]
  obtain ⟨cs, ec⟩ : ∃ cs, cs = tc t := ⟨_, rfl⟩
  obtain ⟨nv, en⟩ : ∃ nv, nv = slAV nf ns.length (u32s ns) := ⟨_, rfl⟩
  obtain ⟨av, ea⟩ : ∃ av, av = slAV af ar.length (tcs ar) := ⟨_, rfl⟩
  have ec' : cs = [.int .i64 5, .int .i64 i, .str s, .int .u32 c, nv, av] := by rw [ec, et, en, ea]; rfl
  obtain ⟨h1, eh1⟩ : ∃ h1, h1 = Heap.empty.new cs := ⟨_, rfl⟩
  have a1 : h1.at_ Heap.empty.next 0 = some [.int .i64 5, .int .i64 i, .str s, .int .u32 c, nv, av] := by rw [← ec', eh1]; exact at_new _
  rw [← ec]
  have y1 : (AV.agg cs).row = some cs := rfl
  have y2 : cs.length = 6 := by rw [ec']; rfl
  have l0 := ld60 a1
  have l1 := ld61 a1
  have l2 := ld62 a1
  have l4 := ld64 a1
  have l5 := ld65 a1
  have l6 : aLoad h1 true 6 (.ptr Heap.empty.next 0 0) = some ⟨.agg cs, h1, .read⟩ := by rw [ec']; exact ld6 a1
  have we : ∀ bt bn ba h, WC env 139 [.agg cs, .bool bt, .bool bn, .bool ba] h (fun o => o = .ret ⟨.bool (emptyF t bt bn ba), h, .none⟩) := fun bt bn ba h => by rw [ec]; exact empty_spec t bt bn ba h
  have nl : ∀ h, aLenOp false h nv = some ⟨.int .i64 ns.length, h, .none⟩ := fun h => by rw [en]; exact len_sl _ _ _ (fun _ => trivial) h
  have al : ∀ h, aLenOp false h av = some ⟨.int .i64 ar.length, h, .none⟩ := fun h => by rw [ea]; exact len_sl _ _ _ (fun _ => trivial) h
  cases e1 : emptyF t false false true with
  | false =>
    have ef : formF t = some (40, none) := by rw [et, formF, ← et, if_pos (by rw [et, kindOk, ← et]; simp [e1])]
    simp only [a130, a130_0, a130_1, a130_2, a130_3, a130_5, a130_7, a130_9, a130_11, a130_12, a130_17, Slots.ofList, wpo_u, wpc_skip, wpc_ops, wpc_draw, wpc_seq, wpc_cond, wpc_block, wpc_loop, wpc_exit, wpc_scope, wpc_ret, seqQ_norm, seqQ_ret, seqQ_exit, blockQ'_norm, blockQ'_ret, blockQ'_exit, roundQ_norm, roundQ_ret, roundQ_exit, condK_true, condK_false, wpo_nil', wpo_none, wpo_tt, wpo_ff, wpo_tf, wpo_ft, opsK_c, isC_none, isC_read, isC_write, wp1_call, callK_ret, wp1_mv', wp1_bin', wp1_un', wp1_eq', wp1_extract', wp1_pick', wp1_len', wp1_load', wp1_conv', wp1_store', wp1_idxAddr', wp1_append', wp1_mkIface', wp1_alloc', rd_t, rd_c, ok_t, ok_c, put_some, put_none, get_put, reduceIte, Nat.reduceEqDiff, AV.bool.injEq, Option.some.injEq, exists_eq_left', Option.map_some, Option.bind_some, opds_nil, opds_cons, opd_t, opd_c, aBin, aInt, decide_true, decide_false, negIf, wp1_nilCheck', wp1_fieldAddr', wp1_slice, op_slice, opdo_some, opdo_none, wp1_lit, op_lit, parts_nil, parts_cons, wp1_build, op_build, wp1_box, op_box, y1, y2, ← eh1, aFieldAddr, Nat.zero_add, l0, l6, wc_eq (we _ _ _ _), nl, al, aUn, aPick, Int.reduceBEq, Int.reduceBNe, Int.reduceEq, Nat.reduceBEq, a130_18, Bool.not_false, wc_eq (tfault_nil _ _ _), e1]
    exact fin1 (v := formAV p (formF t)) (by simp only [get_put, reduceIte, Nat.reduceEqDiff]; rw [ef]; rfl) (noRef_form _ _) (form_one _ _) rfl
  | true =>
    have ek : ¬ kindOk t = false := by rw [et, kindOk, ← et]; simp [e1]
    have ef : formF t = none := by rw [et, formF, ← et, if_neg ek, if_neg (by decide), if_neg (by decide), if_neg (by decide)]
    simp only [a130, a130_0, a130_1, a130_2, a130_3, a130_5, a130_7, a130_9, a130_11, a130_12, a130_17, Slots.ofList, wpo_u, wpc_skip, wpc_ops, wpc_draw, wpc_seq, wpc_cond, wpc_block, wpc_loop, wpc_exit, wpc_scope, wpc_ret, seqQ_norm, seqQ_ret, seqQ_exit, blockQ'_norm, blockQ'_ret, blockQ'_exit, roundQ_norm, roundQ_ret, roundQ_exit, condK_true, condK_false, wpo_nil', wpo_none, wpo_tt, wpo_ff, wpo_tf, wpo_ft, opsK_c, isC_none, isC_read, isC_write, wp1_call, callK_ret, wp1_mv', wp1_bin', wp1_un', wp1_eq', wp1_extract', wp1_pick', wp1_len', wp1_load', wp1_conv', wp1_store', wp1_idxAddr', wp1_append', wp1_mkIface', wp1_alloc', rd_t, rd_c, ok_t, ok_c, put_some, put_none, get_put, reduceIte, Nat.reduceEqDiff, AV.bool.injEq, Option.some.injEq, exists_eq_left', Option.map_some, Option.bind_some, opds_nil, opds_cons, opd_t, opd_c, aBin, aInt, decide_true, decide_false, negIf, wp1_nilCheck', wp1_fieldAddr', wp1_slice, op_slice, opdo_some, opdo_none, wp1_lit, op_lit, parts_nil, parts_cons, wp1_build, op_build, wp1_box, op_box, y1, y2, ← eh1, aFieldAddr, Nat.zero_add, l0, l6, wc_eq (we _ _ _ _), nl, al, aUn, aPick, Int.reduceBEq, Int.reduceBNe, Int.reduceEq, Nat.reduceBEq, a130_19, a130_20, Bool.not_true, e1, a130_21, a130_24, a130_26, a130_27, a130_29, a130_31, eq_nil]
    exact fin1 (v := formAV p (formF t)) (by simp only [get_put, reduceIte, Nat.reduceEqDiff]; rw [ef]; rfl) (noRef_form _ _) (form_one _ _) rfl
theorem form_k6 (i : Int) (s : List UInt8) (c : Int) (nf : Option Bool) (ns : List Int) (af : Option Bool) (ar : List Tm) (ho : Tm.Ok (.mk 6 i s c nf ns af ar)) (p : Int) (h : Heap) : WC env 130 [.agg (tc (.mk 6 i s c nf ns af ar)), .int .i64 p] h (fun o => o = .ret ⟨formAV p (formF (.mk 6 i s c nf ns af ar)), h, .none⟩) := by
  obtain ⟨ss, sn, sa, _⟩ := ho.lens
  refine call_pure rfl rfl rfl (by simp only [AV.noRefs, AV.noRef, noRef_tc, Bool.and_self, Bool.true_and]) ?_
  obtain ⟨t, et⟩ : ∃ t : Tm, t = (.mk 6 i s c nf ns af ar) := ⟨_, rfl⟩
  rw [← et]
  obtain ⟨cs, ec⟩ : ∃ cs, cs = tc t := ⟨_, rfl⟩
  obtain ⟨nv, en⟩ : ∃ nv, nv = slAV nf ns.length (u32s ns) := ⟨_, rfl⟩
  obtain ⟨av, ea⟩ : ∃ av, av = slAV af ar.length (tcs ar) := ⟨_, rfl⟩
  have ec' : cs = [.int .i64 6, .int .i64 i, .str s, .int .u32 c, nv, av] := by rw [ec, et, en, ea]; rfl
  obtain ⟨h1, eh1⟩ : ∃ h1, h1 = Heap.empty.new cs := ⟨_, rfl⟩
  have a1 : h1.at_ Heap.empty.next 0 = some [.int .i64 6, .int .i64 i, .str s, .int .u32 c, nv, av] := by rw [← ec', eh1]; exact at_new _
  rw [← ec]
  have y1 : (AV.agg cs).row = some cs := rfl
  have y2 : cs.length = 6 := by rw [ec']; rfl
  have l0 := ld60 a1
  have l1 := ld61 a1
  have l2 := ld62 a1
  have l4 := ld64 a1
  have l5 := ld65 a1
  have l6 : aLoad h1 true 6 (.ptr Heap.empty.next 0 0) = some ⟨.agg cs, h1, .read⟩ := by rw [ec']; exact ld6 a1
  have we : ∀ bt bn ba h, WC env 139 [.agg cs, .bool bt, .bool bn, .bool ba] h (fun o => o = .ret ⟨.bool (emptyF t bt bn ba), h, .none⟩) := fun bt bn ba h => by rw [ec]; exact empty_spec t bt bn ba h
  have nl : ∀ h, aLenOp false h nv = some ⟨.int .i64 ns.length, h, .none⟩ := fun h => by rw [en]; exact len_sl _ _ _ (fun _ => trivial) h
  have al : ∀ h, aLenOp false h av = some ⟨.int .i64 ar.length, h, .none⟩ := fun h => by rw [ea]; exact len_sl _ _ _ (fun _ => trivial) h
  cases e1 : emptyF t false false false with
  | false =>
    have ef : formF t = some (40, none) := by rw [et, formF, ← et, if_pos (by rw [et, kindOk, ← et]; simp [e1])]
    simp only [a130, a130_0, a130_1, a130_2, a130_3, a130_5, a130_7, a130_9, a130_11, a130_13, a130_14, a130_17, Slots.ofList, wpo_u, wpc_skip, wpc_ops, wpc_draw, wpc_seq, wpc_cond, wpc_block, wpc_loop, wpc_exit, wpc_scope, wpc_ret, seqQ_norm, seqQ_ret, seqQ_exit, blockQ'_norm, blockQ'_ret, blockQ'_exit, roundQ_norm, roundQ_ret, roundQ_exit, condK_true, condK_false, wpo_nil', wpo_none, wpo_tt, wpo_ff, wpo_tf, wpo_ft, opsK_c, isC_none, isC_read, isC_write, wp1_call, callK_ret, wp1_mv', wp1_bin', wp1_un', wp1_eq', wp1_extract', wp1_pick', wp1_len', wp1_load', wp1_conv', wp1_store', wp1_idxAddr', wp1_append', wp1_mkIface', wp1_alloc', rd_t, rd_c, ok_t, ok_c, put_some, put_none, get_put, reduceIte, Nat.reduceEqDiff, AV.bool.injEq, Option.some.injEq, exists_eq_left', Option.map_some, Option.bind_some, opds_nil, opds_cons, opd_t, opd_c, aBin, aInt, decide_true, decide_false, negIf, wp1_nilCheck', wp1_fieldAddr', wp1_slice, op_slice, opdo_some, opdo_none, wp1_lit, op_lit, parts_nil, parts_cons, wp1_build, op_build, wp1_box, op_box, y1, y2, ← eh1, aFieldAddr, Nat.zero_add, l0, l6, wc_eq (we _ _ _ _), nl, al, aUn, aPick, Int.reduceBEq, Int.reduceBNe, Int.reduceEq, Nat.reduceBEq, a130_18, Bool.not_false, wc_eq (tfault_nil _ _ _), e1]
    exact fin1 (v := formAV p (formF t)) (by simp only [get_put, reduceIte, Nat.reduceEqDiff]; rw [ef]; rfl) (noRef_form _ _) (form_one _ _) rfl
  | true =>
    have ek : ¬ kindOk t = false := by rw [et, kindOk, ← et]; simp [e1]
    have ef : formF t = none := by rw [et, formF, ← et, if_neg ek, if_neg (by decide), if_neg (by decide), if_neg (by decide)]
    simp only [a130, a130_0, a130_1, a130_2, a130_3, a130_5, a130_7, a130_9, a130_11, a130_13, a130_14, a130_17, Slots.ofList, wpo_u, wpc_skip, wpc_ops, wpc_draw, wpc_seq, wpc_cond, wpc_block, wpc_loop, wpc_exit, wpc_scope, wpc_ret, seqQ_norm, seqQ_ret, seqQ_exit, blockQ'_norm, blockQ'_ret, blockQ'_exit, roundQ_norm, roundQ_ret, roundQ_exit, condK_true, condK_false, wpo_nil', wpo_none, wpo_tt, wpo_ff, wpo_tf, wpo_ft, opsK_c, isC_none, isC_read, isC_write, wp1_call, callK_ret, wp1_mv', wp1_bin', wp1_un', wp1_eq', wp1_extract', wp1_pick', wp1_len', wp1_load', wp1_conv', wp1_store', wp1_idxAddr', wp1_append', wp1_mkIface', wp1_alloc', rd_t, rd_c, ok_t, ok_c, put_some, put_none, get_put, reduceIte, Nat.reduceEqDiff, AV.bool.injEq, Option.some.injEq, exists_eq_left', Option.map_some, Option.bind_some, opds_nil, opds_cons, opd_t, opd_c, aBin, aInt, decide_true, decide_false, negIf, wp1_nilCheck', wp1_fieldAddr', wp1_slice, op_slice, opdo_some, opdo_none, wp1_lit, op_lit, parts_nil, parts_cons, wp1_build, op_build, wp1_box, op_box, y1, y2, ← eh1, aFieldAddr, Nat.zero_add, l0, l6, wc_eq (we _ _ _ _), nl, al, aUn, aPick, Int.reduceBEq, Int.reduceBNe, Int.reduceEq, Nat.reduceBEq, a130_19, a130_20, Bool.not_true, e1, a130_21, a130_24, a130_26, a130_27, a130_29, a130_31, eq_nil]
    exact fin1 (v := formAV p (formF t)) (by simp only [get_put, reduceIte, Nat.reduceEqDiff]; rw [ef]; rfl) (noRef_form _ _) (form_one _ _) rfl
theorem form_k7 (i : Int) (s : List UInt8) (c : Int) (nf : Option Bool) (ns : List Int) (af : Option Bool) (ar : List Tm) (ho : Tm.Ok (.mk 7 i s c nf ns af ar)) (p : Int) (h : Heap) : WC env 130 [.agg (tc (.mk 7 i s c nf ns af ar)), .int .i64 p] h (fun o => o = .ret ⟨formAV p (formF (.mk 7 i s c nf ns af ar)), h, .none⟩) := by
  obtain ⟨ss, sn, sa, _⟩ := ho.lens
  refine call_pure rfl rfl rfl (by simp only [AV.noRefs, AV.noRef, noRef_tc, Bool.and_self, Bool.true_and]) ?_
  obtain ⟨t, et⟩ : ∃ t : Tm, t = (.mk 7 i s c nf ns af ar) := ⟨_, rfl⟩
  rw [← et]
  obtain ⟨cs, ec⟩ : ∃ cs, cs = tc t := ⟨_, rfl⟩
  obtain ⟨nv, en⟩ : ∃ nv, nv = slAV nf ns.length (u32s ns) := ⟨_, rfl⟩
  obtain ⟨av, ea⟩ : ∃ av, av = slAV af ar.length (tcs ar) := ⟨_, rfl⟩
  have ec' : cs = [.int .i64 7, .int .i64 i, .str s, .int .u32 c, nv, av] := by rw [ec, et, en, ea]; rfl
  obtain ⟨h1, eh1⟩ : ∃ h1, h1 = Heap.empty.new cs := ⟨_, rfl⟩
  have a1 : h1.at_ Heap.empty.next 0 = some [.int .i64 7, .int .i64 i, .str s, .int .u32 c, nv, av] := by rw [← ec', eh1]; exact at_new _
  rw [← ec]
  have y1 : (AV.agg cs).row = some cs := rfl
  have y2 : cs.length = 6 := by rw [ec']; rfl
  have l0 := ld60 a1
  have l1 := ld61 a1
  have l2 := ld62 a1
  have l4 := ld64 a1
  have l5 := ld65 a1
  have l6 : aLoad h1 true 6 (.ptr Heap.empty.next 0 0) = some ⟨.agg cs, h1, .read⟩ := by rw [ec']; exact ld6 a1
  have we : ∀ bt bn ba h, WC env 139 [.agg cs, .bool bt, .bool bn, .bool ba] h (fun o => o = .ret ⟨.bool (emptyF t bt bn ba), h, .none⟩) := fun bt bn ba h => by rw [ec]; exact empty_spec t bt bn ba h
  have nl : ∀ h, aLenOp false h nv = some ⟨.int .i64 ns.length, h, .none⟩ := fun h => by rw [en]; exact len_sl _ _ _ (fun _ => trivial) h
  have al : ∀ h, aLenOp false h av = some ⟨.int .i64 ar.length, h, .none⟩ := fun h => by rw [ea]; exact len_sl _ _ _ (fun _ => trivial) h
  cases e1 : emptyF t false false true with
  | false =>
    have ef : formF t = some (40, none) := by rw [et, formF, ← et, if_pos (by rw [et, kindOk, ← et]; simp [e1])]
    simp only [a130, a130_0, a130_1, a130_2, a130_3, a130_5, a130_7, a130_9, a130_11, a130_13, a130_15, a130_16, a130_17, Slots.ofList, wpo_u, wpc_skip, wpc_ops, wpc_draw, wpc_seq, wpc_cond, wpc_block, wpc_loop, wpc_exit, wpc_scope, wpc_ret, seqQ_norm, seqQ_ret, seqQ_exit, blockQ'_norm, blockQ'_ret, blockQ'_exit, roundQ_norm, roundQ_ret, roundQ_exit, condK_true, condK_false, wpo_nil', wpo_none, wpo_tt, wpo_ff, wpo_tf, wpo_ft, opsK_c, isC_none, isC_read, isC_write, wp1_call, callK_ret, wp1_mv', wp1_bin', wp1_un', wp1_eq', wp1_extract', wp1_pick', wp1_len', wp1_load', wp1_conv', wp1_store', wp1_idxAddr', wp1_append', wp1_mkIface', wp1_alloc', rd_t, rd_c, ok_t, ok_c, put_some, put_none, get_put, reduceIte, Nat.reduceEqDiff, AV.bool.injEq, Option.some.injEq, exists_eq_left', Option.map_some, Option.bind_some, opds_nil, opds_cons, opd_t, opd_c, aBin, aInt, decide_true, decide_false, negIf, wp1_nilCheck', wp1_fieldAddr', wp1_slice, op_slice, opdo_some, opdo_none, wp1_lit, op_lit, parts_nil, parts_cons, wp1_build, op_build, wp1_box, op_box, y1, y2, ← eh1, aFieldAddr, Nat.zero_add, l0, l6, wc_eq (we _ _ _ _), nl, al, aUn, aPick, Int.reduceBEq, Int.reduceBNe, Int.reduceEq, Nat.reduceBEq, a130_18, Bool.not_false, wc_eq (tfault_nil _ _ _), e1]
    exact fin1 (v := formAV p (formF t)) (by simp only [get_put, reduceIte, Nat.reduceEqDiff]; rw [ef]; rfl) (noRef_form _ _) (form_one _ _) rfl
  | true =>
    by_cases c2 : ar.length ≥ 2
    case neg =>
      have z : ((ar.length : Int) ≥ 2) = False := eq_false (by omega)
      have ef : formF t = some (40, none) := by rw [et, formF, ← et, if_pos (by rw [et, kindOk, ← et]; simp [e1, c2])]
      simp only [a130, a130_0, a130_1, a130_2, a130_3, a130_5, a130_7, a130_9, a130_11, a130_13, a130_15, a130_16, a130_17, Slots.ofList, wpo_u, wpc_skip, wpc_ops, wpc_draw, wpc_seq, wpc_cond, wpc_block, wpc_loop, wpc_exit, wpc_scope, wpc_ret, seqQ_norm, seqQ_ret, seqQ_exit, blockQ'_norm, blockQ'_ret, blockQ'_exit, roundQ_norm, roundQ_ret, roundQ_exit, condK_true, condK_false, wpo_nil', wpo_none, wpo_tt, wpo_ff, wpo_tf, wpo_ft, opsK_c, isC_none, isC_read, isC_write, wp1_call, callK_ret, wp1_mv', wp1_bin', wp1_un', wp1_eq', wp1_extract', wp1_pick', wp1_len', wp1_load', wp1_conv', wp1_store', wp1_idxAddr', wp1_append', wp1_mkIface', wp1_alloc', rd_t, rd_c, ok_t, ok_c, put_some, put_none, get_put, reduceIte, Nat.reduceEqDiff, AV.bool.injEq, Option.some.injEq, exists_eq_left', Option.map_some, Option.bind_some, opds_nil, opds_cons, opd_t, opd_c, aBin, aInt, decide_true, decide_false, negIf, wp1_nilCheck', wp1_fieldAddr', wp1_slice, op_slice, opdo_some, opdo_none, wp1_lit, op_lit, parts_nil, parts_cons, wp1_build, op_build, wp1_box, op_box, y1, y2, ← eh1, aFieldAddr, Nat.zero_add, l0, l6, wc_eq (we _ _ _ _), nl, al, aUn, aPick, Int.reduceBEq, Int.reduceBNe, Int.reduceEq, Nat.reduceBEq, a130_18, Bool.not_false, wc_eq (tfault_nil _ _ _), e1, l5, z]
      exact fin1 (v := formAV p (formF t)) (by simp only [get_put, reduceIte, Nat.reduceEqDiff]; rw [ef]; rfl) (noRef_form _ _) (form_one _ _) rfl
    have z : ((ar.length : Int) ≥ 2) = True := eq_true (by omega)
    have zs : IntKind.wrap .i64 ((ar.length : Int) - 1) = ((ar.length - 1 : Nat) : Int) := wrap_nat (by omega) (by omega)
    have hi : ar.length - 1 < ar.length := by omega
    have ix : aIdxAddr 6 av (.int .i64 ((ar.length - 1 : Nat) : Int)) = some (.fp ((tcs ar).drop ((ar.length - 1) * 6))) := by rw [ea]; exact idx_args hi
    have lx : ∀ h, aLoad h false 1 (.fp ((tcs ar).drop ((ar.length - 1) * 6))) = some ⟨.int .i64 (ar[ar.length - 1]).kind, h, .none⟩ := fun h => ld_arg0 hi h
    have ln := lastNot7_get ar hi
    cases e3 : ((ar[ar.length - 1]).kind != 7) with
    | false =>
      rw [e3] at ln
      have e3' : (!((ar[ar.length - 1]).kind == 7)) = false := e3
      have ef : formF t = some (40, none) := by rw [et, formF, ← et, if_pos (by rw [et, kindOk, ← et]; simp [e1, ln])]
      simp only [a130, a130_0, a130_1, a130_2, a130_3, a130_5, a130_7, a130_9, a130_11, a130_13, a130_15, a130_16, a130_17, Slots.ofList, wpo_u, wpc_skip, wpc_ops, wpc_draw, wpc_seq, wpc_cond, wpc_block, wpc_loop, wpc_exit, wpc_scope, wpc_ret, seqQ_norm, seqQ_ret, seqQ_exit, blockQ'_norm, blockQ'_ret, blockQ'_exit, roundQ_norm, roundQ_ret, roundQ_exit, condK_true, condK_false, wpo_nil', wpo_none, wpo_tt, wpo_ff, wpo_tf, wpo_ft, opsK_c, isC_none, isC_read, isC_write, wp1_call, callK_ret, wp1_mv', wp1_bin', wp1_un', wp1_eq', wp1_extract', wp1_pick', wp1_len', wp1_load', wp1_conv', wp1_store', wp1_idxAddr', wp1_append', wp1_mkIface', wp1_alloc', rd_t, rd_c, ok_t, ok_c, put_some, put_none, get_put, reduceIte, Nat.reduceEqDiff, AV.bool.injEq, Option.some.injEq, exists_eq_left', Option.map_some, Option.bind_some, opds_nil, opds_cons, opd_t, opd_c, aBin, aInt, decide_true, decide_false, negIf, wp1_nilCheck', wp1_fieldAddr', wp1_slice, op_slice, opdo_some, opdo_none, wp1_lit, op_lit, parts_nil, parts_cons, wp1_build, op_build, wp1_box, op_box, y1, y2, ← eh1, aFieldAddr, Nat.zero_add, l0, l6, wc_eq (we _ _ _ _), nl, al, aUn, aPick, Int.reduceBEq, Int.reduceBNe, Int.reduceEq, Nat.reduceBEq, a130_18, Bool.not_false, wc_eq (tfault_nil _ _ _), e1, l5, z, zs, ix, lx, e3, fa0, List.drop_zero, e3']
      exact fin1 (v := formAV p (formF t)) (by simp only [get_put, reduceIte, Nat.reduceEqDiff]; rw [ef]; rfl) (noRef_form _ _) (form_one _ _) rfl
    | true =>
      rw [e3] at ln
      have e3' : (!((ar[ar.length - 1]).kind == 7)) = true := e3
      have ek : ¬ kindOk t = false := by rw [et, kindOk, ← et]; simp [e1, ln, c2]
      have ef : formF t = none := by rw [et, formF, ← et, if_neg ek, if_neg (by decide), if_neg (by decide), if_neg (by decide)]
      simp only [a130, a130_0, a130_1, a130_2, a130_3, a130_5, a130_7, a130_9, a130_11, a130_13, a130_15, a130_16, a130_17, Slots.ofList, wpo_u, wpc_skip, wpc_ops, wpc_draw, wpc_seq, wpc_cond, wpc_block, wpc_loop, wpc_exit, wpc_scope, wpc_ret, seqQ_norm, seqQ_ret, seqQ_exit, blockQ'_norm, blockQ'_ret, blockQ'_exit, roundQ_norm, roundQ_ret, roundQ_exit, condK_true, condK_false, wpo_nil', wpo_none, wpo_tt, wpo_ff, wpo_tf, wpo_ft, opsK_c, isC_none, isC_read, isC_write, wp1_call, callK_ret, wp1_mv', wp1_bin', wp1_un', wp1_eq', wp1_extract', wp1_pick', wp1_len', wp1_load', wp1_conv', wp1_store', wp1_idxAddr', wp1_append', wp1_mkIface', wp1_alloc', rd_t, rd_c, ok_t, ok_c, put_some, put_none, get_put, reduceIte, Nat.reduceEqDiff, AV.bool.injEq, Option.some.injEq, exists_eq_left', Option.map_some, Option.bind_some, opds_nil, opds_cons, opd_t, opd_c, aBin, aInt, decide_true, decide_false, negIf, wp1_nilCheck', wp1_fieldAddr', wp1_slice, op_slice, opdo_some, opdo_none, wp1_lit, op_lit, parts_nil, parts_cons, wp1_build, op_build, wp1_box, op_box, y1, y2, ← eh1, aFieldAddr, Nat.zero_add, l0, l6, wc_eq (we _ _ _ _), nl, al, aUn, aPick, Int.reduceBEq, Int.reduceBNe, Int.reduceEq, Nat.reduceBEq, a130_19, a130_20, Bool.not_true, e1, l5, z, zs, ix, lx, e3, fa0, List.drop_zero, e3', a130_21, a130_24, a130_26, a130_27, a130_29, a130_31, eq_nil]
      exact fin1 (v := formAV p (formF t)) (by simp only [get_put, reduceIte, Nat.reduceEqDiff]; rw [ef]; rfl) (noRef_form _ _) (form_one _ _) rfl
theorem form_k0 (k : Int) (i : Int) (s : List UInt8) (c : Int) (nf : Option Bool) (ns : List Int) (af : Option Bool) (ar : List Tm) (ho : Tm.Ok (.mk k i s c nf ns af ar)) (hk : ∀ j : Int, 1 ≤ j → j ≤ 7 → k ≠ j) (p : Int) (h : Heap) : WC env 130 [.agg (tc (.mk k i s c nf ns af ar)), .int .i64 p] h (fun o => o = .ret ⟨formAV p (formF (.mk k i s c nf ns af ar)), h, .none⟩) := by
  obtain ⟨ss, sn, sa, _⟩ := ho.lens
  refine call_pure rfl rfl rfl (by simp only [AV.noRefs, AV.noRef, noRef_tc, Bool.and_self, Bool.true_and]) ?_
  obtain ⟨t, et⟩ : ∃ t : Tm, t = (.mk k i s c nf ns af ar) := ⟨_, rfl⟩
  rw [← et]
  obtain ⟨cs, ec⟩ : ∃ cs, cs = tc t := ⟨_, rfl⟩
  obtain ⟨nv, en⟩ : ∃ nv, nv = slAV nf ns.length (u32s ns) := ⟨_, rfl⟩
  obtain ⟨av, ea⟩ : ∃ av, av = slAV af ar.length (tcs ar) := ⟨_, rfl⟩
  have ec' : cs = [.int .i64 k, .int .i64 i, .str s, .int .u32 c, nv, av] := by rw [ec, et, en, ea]; rfl
  obtain ⟨h1, eh1⟩ : ∃ h1, h1 = Heap.empty.new cs := ⟨_, rfl⟩
  have a1 : h1.at_ Heap.empty.next 0 = some [.int .i64 k, .int .i64 i, .str s, .int .u32 c, nv, av] := by rw [← ec', eh1]; exact at_new _
  rw [← ec]
  have y1 : (AV.agg cs).row = some cs := rfl
  have y2 : cs.length = 6 := by rw [ec']; rfl
  have l0 := ld60 a1
  have l1 := ld61 a1
  have l2 := ld62 a1
  have l4 := ld64 a1
  have l5 := ld65 a1
  have l6 : aLoad h1 true 6 (.ptr Heap.empty.next 0 0) = some ⟨.agg cs, h1, .read⟩ := by rw [ec']; exact ld6 a1
  have we : ∀ bt bn ba h, WC env 139 [.agg cs, .bool bt, .bool bn, .bool ba] h (fun o => o = .ret ⟨.bool (emptyF t bt bn ba), h, .none⟩) := fun bt bn ba h => by rw [ec]; exact empty_spec t bt bn ba h
  have nl : ∀ h, aLenOp false h nv = some ⟨.int .i64 ns.length, h, .none⟩ := fun h => by rw [en]; exact len_sl _ _ _ (fun _ => trivial) h
  have al : ∀ h, aLenOp false h av = some ⟨.int .i64 ar.length, h, .none⟩ := fun h => by rw [ea]; exact len_sl _ _ _ (fun _ => trivial) h
  have k1 : (k == 1) = false := by simpa using hk 1 (by omega) (by omega)
  have k2 : (k == 2) = false := by simpa using hk 2 (by omega) (by omega)
  have k3 : (k == 3) = false := by simpa using hk 3 (by omega) (by omega)
  have k4 : (k == 4) = false := by simpa using hk 4 (by omega) (by omega)
  have k5 : (k == 5) = false := by simpa using hk 5 (by omega) (by omega)
  have k6 : (k == 6) = false := by simpa using hk 6 (by omega) (by omega)
  have k7 : (k == 7) = false := by simpa using hk 7 (by omega) (by omega)
  have ef : formF t = some (40, none) := by rw [et, formF, ← et, if_pos (by rw [et, kindOk]; simp only [hk 1 (by omega) (by omega), hk 2 (by omega) (by omega), hk 3 (by omega) (by omega), hk 4 (by omega) (by omega), hk 5 (by omega) (by omega), hk 6 (by omega) (by omega), hk 7 (by omega) (by omega), if_false])]
  simp only [a130, a130_0, a130_1, a130_2, a130_3, a130_5, a130_7, a130_9, a130_11, a130_13, a130_15, a130_17, Slots.ofList, wpo_u, wpc_skip, wpc_ops, wpc_draw, wpc_seq, wpc_cond, wpc_block, wpc_loop, wpc_exit, wpc_scope, wpc_ret, seqQ_norm, seqQ_ret, seqQ_exit, blockQ'_norm, blockQ'_ret, blockQ'_exit, roundQ_norm, roundQ_ret, roundQ_exit, condK_true, condK_false, wpo_nil', wpo_none, wpo_tt, wpo_ff, wpo_tf, wpo_ft, opsK_c, isC_none, isC_read, isC_write, wp1_call, callK_ret, wp1_mv', wp1_bin', wp1_un', wp1_eq', wp1_extract', wp1_pick', wp1_len', wp1_load', wp1_conv', wp1_store', wp1_idxAddr', wp1_append', wp1_mkIface', wp1_alloc', rd_t, rd_c, ok_t, ok_c, put_some, put_none, get_put, reduceIte, Nat.reduceEqDiff, AV.bool.injEq, Option.some.injEq, exists_eq_left', Option.map_some, Option.bind_some, opds_nil, opds_cons, opd_t, opd_c, aBin, aInt, decide_true, decide_false, negIf, wp1_nilCheck', wp1_fieldAddr', wp1_slice, op_slice, opdo_some, opdo_none, wp1_lit, op_lit, parts_nil, parts_cons, wp1_build, op_build, wp1_box, op_box, y1, y2, ← eh1, aFieldAddr, Nat.zero_add, l0, l6, wc_eq (we _ _ _ _), nl, al, aUn, aPick, Int.reduceBEq, Int.reduceBNe, Int.reduceEq, Nat.reduceBEq, k1, k2, k3, k4, k5, k6, k7, a130_18, Bool.not_false, wc_eq (tfault_nil _ _ _), Bool.not_false]
  exact fin1 (v := formAV p (formF t)) (by simp only [get_put, reduceIte, Nat.reduceEqDiff]; rw [ef]; rfl) (noRef_form _ _) (form_one _ _) rfl
theorem form_spec (t : Tm) (ho : t.Ok) (p : Int) (h : Heap) : WC env 130 [.agg (tc t), .int .i64 p] h (fun o => o = .ret ⟨formAV p (formF t), h, .none⟩) := by
  rcases t with ⟨k, i, s, c, nf, ns, af, ar⟩
  by_cases e1 : k = 1
  · subst e1; exact form_k1 i s c nf ns af ar ho p h
  by_cases e2 : k = 2
  · subst e2; exact form_k2 i s c nf ns af ar ho p h
  by_cases e3 : k = 3
  · subst e3; exact form_k3 i s c nf ns af ar ho p h
  by_cases e4 : k = 4
  · subst e4; exact form_k4 i s c nf ns af ar ho p h
  by_cases e5 : k = 5
  · subst e5; exact form_k5 i s c nf ns af ar ho p h
  by_cases e6 : k = 6
  · subst e6; exact form_k6 i s c nf ns af ar ho p h
  by_cases e7 : k = 7
  · subst e7; exact form_k7 i s c nf ns af ar ho p h
  exact form_k0 k i s c nf ns af ar ho (fun j h1 h2 => by omega) p h
end Go.Bf
/-
  The walk over a term's parts: Measure, Check.
-/
set_option linter.unusedVariables false
set_option linter.unusedSimpArgs false
set_option maxRecDepth 20000
namespace Go.Bf
open Go.AM

theorem tm_ind {P : Tm → Prop} (h : ∀ k i s c nf ns af ar, (∀ t, t ∈ ar → P t) → P (.mk k i s c nf ns af ar)) : ∀ t, P t := by
  have go : ∀ (n : Nat) (t : Tm), SizeOf.sizeOf t ≤ n → P t := by
    intro n
    induction n with
    | zero => intro t ht; cases t; simp at ht
    | succ n ih =>
      intro t ht
      cases t with
      | mk k i s c nf ns af ar =>
        refine h k i s c nf ns af ar fun t m => ih t ?_
        have := List.sizeOf_lt_of_mem m
        simp at ht
        omega
  exact fun t => go _ t (Nat.le_refl _)

/-- a part's fault: which part, its number, what is under it -/
abbrev WFlt := Option (Int × Int × Und)
def walkAV : WFlt → AV
  | none => .nili
  | some (a, c, u) => errT a c u
theorem noRef_walk (x : WFlt) : (walkAV x).noRef = true := by
  rcases x with _ | ⟨a, c, _ | ⟨p, d⟩⟩ <;> rfl
theorem one_walk (x : WFlt) : (walkAV x).one = true := by
  rcases x with _ | ⟨a, c, u⟩ <;> rfl
mutual
def walkF : Tm → Nat → Nat → Nat → WFlt × Nat × Nat
  | .mk k i s c nf ns af ar, deep, n, d =>
    if n = 4096 then (some ((n : Int), 5, none), n, d)
    else if deep > 256 then (some ((n : Int), 9, none), n, d)
    else match formF (.mk k i s c nf ns af ar) with
      | some (c, u) => (some ((n : Int), c, u), n, d)
      | none => walkFs ar (deep + 1) (n + 1) (max d deep)
def walkFs : List Tm → Nat → Nat → Nat → WFlt × Nat × Nat
  | [], _, n, d => (none, n, d)
  | t :: l, deep, n, d => match walkF t deep n d with
    | (none, n', d') => walkFs l deep n' d'
    | (some e, n', d') => (some e, n', d')
end
theorem walk_le : ∀ t deep n d, n ≤ 4096 → d ≤ 256 → (walkF t deep n d).2.1 ≤ 4096 ∧ (walkF t deep n d).2.2 ≤ 256 := by
  refine tm_ind fun k i s c nf ns af ar ih deep n d hn hd => ?_
  have go : ∀ (l : List Tm), (∀ t, t ∈ l → t ∈ ar) → ∀ deep n d, n ≤ 4096 → d ≤ 256 → (walkFs l deep n d).2.1 ≤ 4096 ∧ (walkFs l deep n d).2.2 ≤ 256 := by
    intro l
    induction l with
    | nil => intro _ deep n d hn hd; exact ⟨hn, hd⟩
    | cons t l ihl =>
      intro hl deep n d hn hd
      have h1 := ih t (hl t (by simp)) deep n d hn hd
      rw [walkFs]
      split
      · rename_i n' d' e
        rw [e] at h1
        exact ihl (fun t m => hl t (by simp [m])) deep n' d' h1.1 h1.2
      · rename_i n' d' e
        rw [e] at h1
        exact h1
  rw [walkF]
  split
  · exact ⟨hn, hd⟩
  split
  · exact ⟨hn, hd⟩
  split
  · exact ⟨hn, hd⟩
  · exact go ar (fun _ m => m) _ _ _ (by omega) (by omega)

def w2 (n d : Nat) : List AV := [.int .i64 n, .int .i64 d]
def WalkOk (t : Tm) : Prop := ∀ (deep n d w : Nat) (h : Heap), HeapOk h → h.at_ w 0 = some (w2 n d) → n ≤ 4096 → deep ≤ 257 → d ≤ 256 →
  ∃ h', HeapOk h' ∧ Chg (fun i => i = w) h h' ∧ h'.at_ w 0 = some (w2 (walkF t deep n d).2.1 (walkF t deep n d).2.2) ∧
    WC env 97 [.ptr w 0 0, .agg (tc t), .int .i64 deep] h (fun o => o = .ret ⟨walkAV (walkF t deep n d).1, h', .write⟩)

theorem box_t {h : Heap} (ho : HeapOk h) (t : Tm) : ∃ h', aStore (h.new [.int .i64 0, .int .i64 0, .str [], .int .u32 0, .nils, .nils]) 6 (.ptr h.next 0 0) (.agg (tc t)) = some ⟨.undef, h', .write⟩ ∧ HeapOk h' ∧ h.le h' ∧ h'.at_ h.next 0 = some (tc t) := by
  cases t with
  | mk k i s c nf ns af ar => exact box6 ho _ _ _ _ _ _
theorem ld_t {h : Heap} {i : Nat} {t : Tm} (hat : h.at_ i 0 = some (tc t)) : aLoad h true 6 (.ptr i 0 0) = some ⟨.agg (tc t), h, .read⟩ := by
  cases t with
  | mk k i s c nf ns af ar => exact ld6 hat
theorem aEq_walk (f : Int × Int × Und) : aEq (.iface true) (walkAV (some f)) .nili = some false := rfl

theorem walk_loop {ar : List Tm} (hP : ∀ t, t ∈ ar → WalkOk t) (hlen : ar.length < 9223372036854775808) {af : Option Bool} {w deep : Nat} (hdeep : deep ≤ 256) {Q : AExit → St → Prop} :
    ∀ (f i : Nat) (σ : Slots) (h : Heap) (n d : Nat), ar.length - i < f → i ≤ ar.length → HeapOk h → h.at_ w 0 = some (w2 n d) → n ≤ 4096 → d ≤ 256 →
    σ.get 0 = .ptr w 0 0 → σ.get 2 = .int .i64 deep → σ.get 49 = slAV af ar.length (tcs ar) → σ.get 50 = .int .i64 ar.length → σ.get 51 = .int .i64 i →
    (∀ σ' h', HeapOk h' → Chg (fun i => i = w) h h' → h'.at_ w 0 = some (w2 (walkFs (ar.drop i) (deep + 1) n d).2.1 (walkFs (ar.drop i) (deep + 1) n d).2.2) →
      ((walkFs (ar.drop i) (deep + 1) n d).1 = none → Q (.exit 1) ⟨σ', h'⟩) ∧ (∀ e, (walkFs (ar.drop i) (deep + 1) n d).1 = some e → σ'.get 6 = walkAV (some e) → Q .ret ⟨σ', h'⟩)) →
    WPr env a97_l18 ⟨σ, h⟩ Q := by
  intro f
  induction f with
  | zero => intro i σ h n d h1; omega
  | succ f ih =>
    intro i σ h n d hf hi ho hw hn hd g0 g2 g49 g50 g51 hQ
    refine wpr_round' fun b hb => ?_
    by_cases c1 : i < ar.length
    · have z0 : ((i : Int) < (ar.length : Int)) = True := eq_true (by omega)
      have zi : IntKind.wrap .i64 ((i : Int) + 1) = ((i + 1 : Nat) : Int) := wrap_nat (by omega) (by omega)
      have zd : IntKind.wrap .i64 ((deep : Int) + 1) = ((deep + 1 : Nat) : Int) := wrap_nat (by omega) (by omega)
      have lx := idx_args (f := af) c1
      have ld := ld_args c1 h
      obtain ⟨t, et⟩ : ∃ t, t = ar[i] := ⟨_, rfl⟩
      have hd' : ar.drop i = t :: ar.drop (i + 1) := by rw [et]; exact List.drop_eq_getElem_cons c1
      rw [← et] at ld
      obtain ⟨h2, st2, ho2, le2, at2⟩ := box_t ho t
      have lt2 := ld_t at2
      have hw2 := le2.2 _ _ _ hw
      obtain ⟨h3, ho3, ch3, hw3, wc3⟩ := hP t (by rw [et]; exact List.getElem_mem c1) (deep + 1) n d w h2 ho2 hw2 hn (by omega) hd
      have bd := walk_le t (deep + 1) n d hn hd
      rw [hd', walkFs] at hQ
      have ec : Chg (fun i => i = w) h h3 := le2.chg.trans ch3
      cases e : (walkF t (deep + 1) n d) with
      | mk r nd =>
        obtain ⟨n', d'⟩ := nd
        rw [e] at hQ hw3 wc3 bd
        cases r with
        | none =>
          have wc3' : WC env 97 [.ptr w 0 0, .agg (tc t), .int .i64 ((deep + 1 : Nat) : Int)] h2 (fun o => o = .ret ⟨.nili, h3, .write⟩) := wc3
          simp only [a97_l18, a97_12, a97_13, a97_14, a97_15, a97_17, wpc_skip, wpc_ops, wpc_draw, wpc_seq, wpc_cond, wpc_block, wpc_loop, wpc_exit, wpc_scope, wpc_ret, seqQ_norm, seqQ_ret, seqQ_exit, blockQ'_norm, blockQ'_ret, blockQ'_exit, roundQ_norm, roundQ_ret, roundQ_exit, condK_true, condK_false, wpo_nil', wpo_none, wpo_tt, wpo_ff, wpo_tf, wpo_ft, opsK_c, isC_none, isC_read, isC_write, wp1_call, callK_ret, wp1_mv', wp1_bin', wp1_un', wp1_eq', wp1_extract', wp1_pick', wp1_len', wp1_load', wp1_conv', wp1_store', wp1_idxAddr', wp1_append', wp1_mkIface', wp1_alloc', rd_t, rd_c, ok_t, ok_c, put_some, put_none, get_put, reduceIte, Nat.reduceEqDiff, AV.bool.injEq, Option.some.injEq, exists_eq_left', Option.map_some, Option.bind_some, opds_nil, opds_cons, opd_t, opd_c, aBin, aInt, decide_true, decide_false, negIf, wp1_nilCheck', wp1_fieldAddr', wp1_slice, op_slice, opdo_some, opdo_none, wp1_lit, op_lit, parts_nil, parts_cons, wp1_build, op_build, wp1_box, op_box, g0, g2, g49, g50, g51, z0, zi, zd, lx, ld, st2, lt2, wc_eq wc3', eq_nil, Bool.not_true]
          subst hb
          refine ih (i + 1) _ h3 n' d' (by omega) (by omega) ho3 hw3 bd.1 bd.2 ?_ ?_ ?_ ?_ ?_ fun σ' h' q1 q2 q3 => hQ σ' h' q1 (ec.trans q2) q3
          · simp only [get_put, reduceIte, Nat.reduceEqDiff, g0]
          · simp only [get_put, reduceIte, Nat.reduceEqDiff, g2]
          · simp only [get_put, reduceIte, Nat.reduceEqDiff, g49]
          · simp only [get_put, reduceIte, Nat.reduceEqDiff, g50]
          · simp only [get_put, reduceIte, Nat.reduceEqDiff]
        | some er =>
          have wc3' : WC env 97 [.ptr w 0 0, .agg (tc t), .int .i64 ((deep + 1 : Nat) : Int)] h2 (fun o => o = .ret ⟨walkAV (some er), h3, .write⟩) := wc3
          simp only [a97_l18, a97_12, a97_13, a97_14, a97_15, a97_16, wpc_skip, wpc_ops, wpc_draw, wpc_seq, wpc_cond, wpc_block, wpc_loop, wpc_exit, wpc_scope, wpc_ret, seqQ_norm, seqQ_ret, seqQ_exit, blockQ'_norm, blockQ'_ret, blockQ'_exit, roundQ_norm, roundQ_ret, roundQ_exit, condK_true, condK_false, wpo_nil', wpo_none, wpo_tt, wpo_ff, wpo_tf, wpo_ft, opsK_c, isC_none, isC_read, isC_write, wp1_call, callK_ret, wp1_mv', wp1_bin', wp1_un', wp1_eq', wp1_extract', wp1_pick', wp1_len', wp1_load', wp1_conv', wp1_store', wp1_idxAddr', wp1_append', wp1_mkIface', wp1_alloc', rd_t, rd_c, ok_t, ok_c, put_some, put_none, get_put, reduceIte, Nat.reduceEqDiff, AV.bool.injEq, Option.some.injEq, exists_eq_left', Option.map_some, Option.bind_some, opds_nil, opds_cons, opd_t, opd_c, aBin, aInt, decide_true, decide_false, negIf, wp1_nilCheck', wp1_fieldAddr', wp1_slice, op_slice, opdo_some, opdo_none, wp1_lit, op_lit, parts_nil, parts_cons, wp1_build, op_build, wp1_box, op_box, g0, g2, g49, g50, g51, z0, zi, zd, lx, ld, st2, lt2, wc_eq wc3', aEq_walk, Bool.not_false]
          exact (hQ _ h3 ho3 ec hw3).2 er rfl (by simp only [get_put, reduceIte, Nat.reduceEqDiff])
    · have z0 : ((i : Int) < (ar.length : Int)) = False := eq_false (by omega)
      have hd' : ar.drop i = [] := List.drop_of_length_le (by omega)
      rw [hd'] at hQ
      simp only [a97_l18, a97_12, wpc_skip, wpc_ops, wpc_draw, wpc_seq, wpc_cond, wpc_block, wpc_loop, wpc_exit, wpc_scope, wpc_ret, seqQ_norm, seqQ_ret, seqQ_exit, blockQ'_norm, blockQ'_ret, blockQ'_exit, roundQ_norm, roundQ_ret, roundQ_exit, condK_true, condK_false, wpo_nil', wpo_none, wpo_tt, wpo_ff, wpo_tf, wpo_ft, opsK_c, isC_none, isC_read, isC_write, wp1_call, callK_ret, wp1_mv', wp1_bin', wp1_un', wp1_eq', wp1_extract', wp1_pick', wp1_len', wp1_load', wp1_conv', wp1_store', wp1_idxAddr', wp1_append', wp1_mkIface', wp1_alloc', rd_t, rd_c, ok_t, ok_c, put_some, put_none, get_put, reduceIte, Nat.reduceEqDiff, AV.bool.injEq, Option.some.injEq, exists_eq_left', Option.map_some, Option.bind_some, opds_nil, opds_cons, opd_t, opd_c, aBin, aInt, decide_true, decide_false, negIf, wp1_nilCheck', wp1_fieldAddr', wp1_slice, op_slice, opdo_some, opdo_none, wp1_lit, op_lit, parts_nil, parts_cons, wp1_build, op_build, wp1_box, op_box, g50, g51, z0]
      exact (hQ _ h ho Chg.refl hw).1 rfl

theorem walk_ok : ∀ t : Tm, t.Ok → WalkOk t := by
  refine tm_ind fun k i s c nf ns af ar ih ok deep n d w h ho hw hn hdeep hd => ?_
  obtain ⟨ss, sn, sa, sr⟩ := ok.lens
  have hP : ∀ t, t ∈ ar → WalkOk t := fun t m => ih t m (sr.get m)
  obtain ⟨t, et⟩ : ∃ t : Tm, t = .mk k i s c nf ns af ar := ⟨_, rfl⟩
  rw [← et] at ok ⊢
  obtain ⟨cs, ec⟩ : ∃ cs, cs = tc t := ⟨_, rfl⟩
  obtain ⟨av, ea⟩ : ∃ av, av = slAV af ar.length (tcs ar) := ⟨_, rfl⟩
  have ec' : cs = [.int .i64 k, .int .i64 i, .str s, .int .u32 c, slAV nf ns.length (u32s ns), av] := by rw [ec, et, ea]; rfl
  have iw := ho.lt hw
  obtain ⟨h1, eh1⟩ : ∃ h1, h1 = h.new cs := ⟨_, rfl⟩
  have ho1 : HeapOk h1 := by rw [eh1]; exact ho.new _
  have le1 : h.le h1 := by rw [eh1]; exact le_new ho _
  have a1 : h1.at_ h.next 0 = some [.int .i64 k, .int .i64 i, .str s, .int .u32 c, slAV nf ns.length (u32s ns), av] := by rw [← ec', eh1]; exact at_new _
  have aw1 : h1.at_ w 0 = some [.int .i64 n, .int .i64 d] := le1.2 _ _ _ hw
  have y1 : (AV.agg cs).row = some cs := rfl
  have y2 : cs.length = 6 := by rw [ec']; rfl
  have l0 := ld20 aw1
  have l6 : aLoad h1 true 6 (.ptr h.next 0 0) = some ⟨.agg cs, h1, .read⟩ := by rw [ec']; exact ld6 a1
  rw [← ec]
  have ef : walkF t deep n d = if n = 4096 then (some ((n : Int), 5, none), n, d)
    else if deep > 256 then (some ((n : Int), 9, none), n, d)
    else match formF t with
      | some (c, u) => (some ((n : Int), c, u), n, d)
      | none => walkFs ar (deep + 1) (n + 1) (max d deep) := by rw [et, walkF]
  by_cases c1 : n = 4096
  · have z : ((n : Int) == 4096) = true := by simp; omega
    have er : walkF t deep n d = (some ((n : Int), 5, none), n, d) := by rw [ef, if_pos c1]
    rw [er]
    refine ⟨h1, ho1, le1.chg, aw1, call_body rfl rfl (.inr (by simp only [AV.noRefs, AV.noRef, Bool.false_and])) ?_⟩
    simp only [a97, a97_0, a97_1, a97_2, a97_3, Slots.ofList, wpc_skip, wpc_ops, wpc_draw, wpc_seq, wpc_cond, wpc_block, wpc_loop, wpc_exit, wpc_scope, wpc_ret, seqQ_norm, seqQ_ret, seqQ_exit, blockQ'_norm, blockQ'_ret, blockQ'_exit, roundQ_norm, roundQ_ret, roundQ_exit, condK_true, condK_false, wpo_nil', wpo_none, wpo_tt, wpo_ff, wpo_tf, wpo_ft, opsK_c, isC_none, isC_read, isC_write, wp1_call, callK_ret, wp1_mv', wp1_bin', wp1_un', wp1_eq', wp1_extract', wp1_pick', wp1_len', wp1_load', wp1_conv', wp1_store', wp1_idxAddr', wp1_append', wp1_mkIface', wp1_alloc', rd_t, rd_c, ok_t, ok_c, put_some, put_none, get_put, reduceIte, Nat.reduceEqDiff, AV.bool.injEq, Option.some.injEq, exists_eq_left', Option.map_some, Option.bind_some, opds_nil, opds_cons, opd_t, opd_c, aBin, aInt, decide_true, decide_false, negIf, wp1_nilCheck', wp1_fieldAddr', wp1_slice, op_slice, opdo_some, opdo_none, wp1_lit, op_lit, parts_nil, parts_cons, wp1_build, op_build, wp1_box, op_box, y1, y2, ← eh1, aNil_ptr, aFieldAddr, Nat.zero_add, l0, z, wc_eq (tfault_nil _ _ _)]
    exact ⟨[errT n 5 none], by simp only [Env.results, Option.map_some, get_put, reduceIte, Nat.reduceEqDiff], rfl⟩
  have z : ((n : Int) == 4096) = false := by simp; omega
  by_cases c2 : deep > 256
  · have z2 : ((deep : Int) > 256) = True := eq_true (by omega)
    have er : walkF t deep n d = (some ((n : Int), 9, none), n, d) := by rw [ef, if_neg c1, if_pos c2]
    rw [er]
    refine ⟨h1, ho1, le1.chg, aw1, call_body rfl rfl (.inr (by simp only [AV.noRefs, AV.noRef, Bool.false_and])) ?_⟩
    simp only [a97, a97_0, a97_1, a97_2, a97_4, a97_5, Slots.ofList, wpc_skip, wpc_ops, wpc_draw, wpc_seq, wpc_cond, wpc_block, wpc_loop, wpc_exit, wpc_scope, wpc_ret, seqQ_norm, seqQ_ret, seqQ_exit, blockQ'_norm, blockQ'_ret, blockQ'_exit, roundQ_norm, roundQ_ret, roundQ_exit, condK_true, condK_false, wpo_nil', wpo_none, wpo_tt, wpo_ff, wpo_tf, wpo_ft, opsK_c, isC_none, isC_read, isC_write, wp1_call, callK_ret, wp1_mv', wp1_bin', wp1_un', wp1_eq', wp1_extract', wp1_pick', wp1_len', wp1_load', wp1_conv', wp1_store', wp1_idxAddr', wp1_append', wp1_mkIface', wp1_alloc', rd_t, rd_c, ok_t, ok_c, put_some, put_none, get_put, reduceIte, Nat.reduceEqDiff, AV.bool.injEq, Option.some.injEq, exists_eq_left', Option.map_some, Option.bind_some, opds_nil, opds_cons, opd_t, opd_c, aBin, aInt, decide_true, decide_false, negIf, wp1_nilCheck', wp1_fieldAddr', wp1_slice, op_slice, opdo_some, opdo_none, wp1_lit, op_lit, parts_nil, parts_cons, wp1_build, op_build, wp1_box, op_box, y1, y2, ← eh1, aNil_ptr, aFieldAddr, Nat.zero_add, l0, z, z2, wc_eq (tfault_nil _ _ _)]
    exact ⟨[errT n 9 none], by simp only [Env.results, Option.map_some, get_put, reduceIte, Nat.reduceEqDiff], rfl⟩
  have z2 : ((deep : Int) > 256) = False := eq_false (by omega)
  have wf : ∀ h, WC env 130 [.agg cs, .int .i64 (n : Int)] h (fun o => o = .ret ⟨formAV n (formF t), h, .none⟩) := fun h => by rw [ec]; exact form_spec t ok n h
  cases e1 : formF t with
  | some cu =>
    obtain ⟨cd, u⟩ := cu
    have er : walkF t deep n d = (some ((n : Int), cd, u), n, d) := by rw [ef, if_neg c1, if_neg c2, e1]
    rw [er]
    have wf : ∀ h, WC env 130 [.agg cs, .int .i64 (n : Int)] h (fun o => o = .ret ⟨errT n cd u, h, .none⟩) := fun h => by have := wf h; rw [e1] at this; exact this
    have aq : aEq (.iface true) (errT n cd u) .nili = some false := rfl
    refine ⟨h1, ho1, le1.chg, aw1, call_body rfl rfl (.inr (by simp only [AV.noRefs, AV.noRef, Bool.false_and])) ?_⟩
    simp only [a97, a97_0, a97_1, a97_2, a97_4, a97_6, a97_7, a97_8, Slots.ofList, wpc_skip, wpc_ops, wpc_draw, wpc_seq, wpc_cond, wpc_block, wpc_loop, wpc_exit, wpc_scope, wpc_ret, seqQ_norm, seqQ_ret, seqQ_exit, blockQ'_norm, blockQ'_ret, blockQ'_exit, roundQ_norm, roundQ_ret, roundQ_exit, condK_true, condK_false, wpo_nil', wpo_none, wpo_tt, wpo_ff, wpo_tf, wpo_ft, opsK_c, isC_none, isC_read, isC_write, wp1_call, callK_ret, wp1_mv', wp1_bin', wp1_un', wp1_eq', wp1_extract', wp1_pick', wp1_len', wp1_load', wp1_conv', wp1_store', wp1_idxAddr', wp1_append', wp1_mkIface', wp1_alloc', rd_t, rd_c, ok_t, ok_c, put_some, put_none, get_put, reduceIte, Nat.reduceEqDiff, AV.bool.injEq, Option.some.injEq, exists_eq_left', Option.map_some, Option.bind_some, opds_nil, opds_cons, opd_t, opd_c, aBin, aInt, decide_true, decide_false, negIf, wp1_nilCheck', wp1_fieldAddr', wp1_slice, op_slice, opdo_some, opdo_none, wp1_lit, op_lit, parts_nil, parts_cons, wp1_build, op_build, wp1_box, op_box, y1, y2, ← eh1, aNil_ptr, aFieldAddr, Nat.zero_add, l0, l6, z, z2, wc_eq (wf _), aq, Bool.not_false]
    exact ⟨[errT n cd u], by simp only [Env.results, Option.map_some, get_put, reduceIte, Nat.reduceEqDiff], rfl⟩
  | none =>
    have er : walkF t deep n d = walkFs ar (deep + 1) (n + 1) (max d deep) := by rw [ef, if_neg c1, if_neg c2, e1]
    rw [er]
    have wf : ∀ h, WC env 130 [.agg cs, .int .i64 (n : Int)] h (fun o => o = .ret ⟨.nili, h, .none⟩) := fun h => by have := wf h; rw [e1] at this; exact this
    obtain ⟨h2, eh2⟩ : ∃ h2, h2 = h1.upd w 0 [.int .i64 ((n + 1 : Nat) : Int), .int .i64 d] := ⟨_, rfl⟩
    have ho2 : HeapOk h2 := by rw [eh2]; exact ho1.upd (at_look.1 aw1) _ _
    have aw2 : h2.at_ w 0 = some [.int .i64 ((n + 1 : Nat) : Int), .int .i64 d] := by rw [eh2]; exact at_upd
    have a2 : h2.at_ h.next 0 = some [.int .i64 k, .int .i64 i, .str s, .int .u32 c, slAV nf ns.length (u32s ns), av] := by rw [eh2, at_upd_ne (by omega)]; exact a1
    obtain ⟨h3, eh3⟩ : ∃ h3, h3 = h2.upd w 0 [.int .i64 ((n + 1 : Nat) : Int), .int .i64 ((max d deep : Nat) : Int)] := ⟨_, rfl⟩
    have ho3 : HeapOk h3 := by rw [eh3]; exact ho2.upd (at_look.1 aw2) _ _
    have aw3 : h3.at_ w 0 = some [.int .i64 ((n + 1 : Nat) : Int), .int .i64 ((max d deep : Nat) : Int)] := by rw [eh3]; exact at_upd
    have a3 : h3.at_ h.next 0 = some [.int .i64 k, .int .i64 i, .str s, .int .u32 c, slAV nf ns.length (u32s ns), av] := by rw [eh3, at_upd_ne (by omega)]; exact a2
    have s1 : aStore h1 1 (.ptr w 0 0) (.int .i64 ((n + 1 : Nat) : Int)) = some ⟨.undef, h2, .write⟩ := by rw [eh2]; exact st20 aw1
    have l1 := ld21 aw2
    have s2 : aStore h2 1 (.ptr w 0 1) (.int .i64 ((max d deep : Nat) : Int)) = some ⟨.undef, h3, .write⟩ := by rw [eh3]; exact st21 aw2
    have l5 := ld65 a3
    have zn : IntKind.wrap .i64 ((n : Int) + 1) = ((n + 1 : Nat) : Int) := wrap_nat (by omega) (by omega)
    have zm : aMinMax true (.int .i64 d) (.int .i64 deep) = some (.int .i64 ((max d deep : Nat) : Int)) := by
      show some (AV.int .i64 (if (d : Int) < deep then (deep : Int) else d)) = _
      split
      · rw [Nat.max_eq_right (by omega)]
      · rw [Nat.max_eq_left (by omega)]
    have al : ∀ h, aLenOp false h av = some ⟨.int .i64 ar.length, h, .none⟩ := fun h => by rw [ea]; exact len_sl _ _ _ (fun _ => trivial) h
    have ch : Chg (fun i => i = w) h h3 := by
      refine (le1.chg (S := fun i => i = w)).trans ?_
      rw [eh3, eh2]
      exact (upd_chg (S := fun i => i = w) rfl).trans (upd_chg (S := fun i => i = w) rfl)
    -- the end of the parts is known ahead: the walk of each is
    obtain ⟨h4, hh4⟩ : ∃ h4 : Heap, True := ⟨h, trivial⟩
    clear hh4 h4
    have hrun : WC env 97 [.ptr w 0 0, .agg cs, .int .i64 deep] h (fun o => ∃ h', o = .ret ⟨walkAV (walkFs ar (deep + 1) (n + 1) (max d deep)).1, h', .write⟩ ∧ HeapOk h' ∧ Chg (fun i => i = w) h h' ∧ h'.at_ w 0 = some (w2 (walkFs ar (deep + 1) (n + 1) (max d deep)).2.1 (walkFs ar (deep + 1) (n + 1) (max d deep)).2.2)) := by
      refine call_body rfl rfl (.inr (by simp only [AV.noRefs, AV.noRef, Bool.false_and])) ?_
      simp only [a97, a97_0, a97_1, a97_2, a97_4, a97_6, a97_7, a97_9, a97_10, a97_11, Slots.ofList, wpc_skip, wpc_ops, wpc_draw, wpc_seq, wpc_cond, wpc_block, wpc_loop, wpc_exit, wpc_scope, wpc_ret, seqQ_norm, seqQ_ret, seqQ_exit, blockQ'_norm, blockQ'_ret, blockQ'_exit, roundQ_norm, roundQ_ret, roundQ_exit, condK_true, condK_false, wpo_nil', wpo_none, wpo_tt, wpo_ff, wpo_tf, wpo_ft, opsK_c, isC_none, isC_read, isC_write, wp1_call, callK_ret, wp1_mv', wp1_bin', wp1_un', wp1_eq', wp1_extract', wp1_pick', wp1_len', wp1_load', wp1_conv', wp1_store', wp1_idxAddr', wp1_append', wp1_mkIface', wp1_alloc', rd_t, rd_c, ok_t, ok_c, put_some, put_none, get_put, reduceIte, Nat.reduceEqDiff, AV.bool.injEq, Option.some.injEq, exists_eq_left', Option.map_some, Option.bind_some, opds_nil, opds_cons, opd_t, opd_c, aBin, aInt, decide_true, decide_false, negIf, wp1_nilCheck', wp1_fieldAddr', wp1_slice, op_slice, opdo_some, opdo_none, wp1_lit, op_lit, parts_nil, parts_cons, wp1_build, op_build, wp1_box, op_box, wp1_minmax, op_minmax, y1, y2, ← eh1, aNil_ptr, aFieldAddr, Nat.zero_add, l0, l6, z, z2, wc_eq (wf _), eq_nil, Bool.not_true, zn, s1, l1, zm, s2, l5, al]
      refine walk_loop (ar := ar) hP sa (af := af) (w := w) (deep := deep) (by omega) (ar.length + 1) 0 _ h3 (n + 1) (max d deep) (by omega) (by omega) ho3 aw3 (by omega) (by omega) ?_ ?_ ?_ ?_ ?_ fun σ' h' q1 q2 q3 => ?_
      · simp only [get_put, reduceIte, Nat.reduceEqDiff]
      · simp only [get_put, reduceIte, Nat.reduceEqDiff]
      · simp only [get_put, reduceIte, Nat.reduceEqDiff, ea]
      · simp only [get_put, reduceIte, Nat.reduceEqDiff]
      · simp only [get_put, reduceIte, Nat.reduceEqDiff]; rfl
      · rw [List.drop_zero] at q3 ⊢
        refine ⟨fun e => ?_, fun e he g => ?_⟩
        · simp only [a97_19, wpc_skip, wpc_ops, wpc_draw, wpc_seq, wpc_cond, wpc_block, wpc_loop, wpc_exit, wpc_scope, wpc_ret, seqQ_norm, seqQ_ret, seqQ_exit, blockQ'_norm, blockQ'_ret, blockQ'_exit, roundQ_norm, roundQ_ret, roundQ_exit, condK_true, condK_false, wpo_nil', wpo_none, wpo_tt, wpo_ff, wpo_tf, wpo_ft, opsK_c, isC_none, isC_read, isC_write, wp1_call, callK_ret, wp1_mv', wp1_bin', wp1_un', wp1_eq', wp1_extract', wp1_pick', wp1_len', wp1_load', wp1_conv', wp1_store', wp1_idxAddr', wp1_append', wp1_mkIface', wp1_alloc', rd_t, rd_c, ok_t, ok_c, put_some, put_none, get_put, reduceIte, Nat.reduceEqDiff, AV.bool.injEq, Option.some.injEq, exists_eq_left', Option.map_some, Option.bind_some, opds_nil, opds_cons, opd_t, opd_c, aBin, aInt, decide_true, decide_false, negIf, wp1_nilCheck', wp1_fieldAddr', wp1_slice, op_slice, opdo_some, opdo_none, wp1_lit, op_lit, parts_nil, parts_cons, wp1_build, op_build, wp1_box, op_box]
          exact ⟨[.nili], by simp only [Env.results, Option.map_some, get_put, reduceIte, Nat.reduceEqDiff], h', by rw [e]; rfl, q1, ch.trans q2, q3⟩
        · simp only [wpc_skip, wpc_ops, wpc_draw, wpc_seq, wpc_cond, wpc_block, wpc_loop, wpc_exit, wpc_scope, wpc_ret, seqQ_norm, seqQ_ret, seqQ_exit, blockQ'_norm, blockQ'_ret, blockQ'_exit, roundQ_norm, roundQ_ret, roundQ_exit, condK_true, condK_false, wpo_nil', wpo_none, wpo_tt, wpo_ff, wpo_tf, wpo_ft, opsK_c, isC_none, isC_read, isC_write, wp1_call, callK_ret, wp1_mv', wp1_bin', wp1_un', wp1_eq', wp1_extract', wp1_pick', wp1_len', wp1_load', wp1_conv', wp1_store', wp1_idxAddr', wp1_append', wp1_mkIface', wp1_alloc', rd_t, rd_c, ok_t, ok_c, put_some, put_none, get_put, reduceIte, Nat.reduceEqDiff, AV.bool.injEq, Option.some.injEq, exists_eq_left', Option.map_some, Option.bind_some, opds_nil, opds_cons, opd_t, opd_c, aBin, aInt, decide_true, decide_false, negIf, wp1_nilCheck', wp1_fieldAddr', wp1_slice, op_slice, opdo_some, opdo_none, wp1_lit, op_lit, parts_nil, parts_cons, wp1_build, op_build, wp1_box, op_box]
          exact ⟨[walkAV (some e)], by simp only [Env.results, Option.map_some, g], h', by rw [he]; rfl, q1, ch.trans q2, q3⟩
    obtain ⟨o, hr, h', ho', p1, p2, p3⟩ := hrun
    exact ⟨h', p1, p2, p3, o, hr, ho'⟩

theorem measure_spec (t : Tm) (ok : t.Ok) (h : Heap) : WC env 54 [.agg (tc t)] h (fun o => o = .ret ⟨match walkF t 1 0 0 with
    | (none, n, d) => .tup [.int .i64 n, .int .i64 d, .nili]
    | (some e, _, _) => .tup [.int .i64 0, .int .i64 0, walkAV (some e)], h, .none⟩) := by
  refine call_pure rfl rfl rfl (by simp only [AV.noRefs, AV.noRef, noRef_tc, Bool.and_self, Bool.true_and]) ?_
  obtain ⟨h1, eh1⟩ : ∃ h1, h1 = Heap.empty.new (tc t) := ⟨_, rfl⟩
  have ho1 : HeapOk h1 := by rw [eh1]; exact HeapOk.empty.new _
  have a1 : h1.at_ Heap.empty.next 0 = some (tc t) := by rw [eh1]; exact at_new _
  obtain ⟨h2, eh2⟩ : ∃ h2, h2 = h1.new [.int .i64 0, .int .i64 0] := ⟨_, rfl⟩
  have ho2 : HeapOk h2 := by rw [eh2]; exact ho1.new _
  have a2 : h2.at_ Heap.empty.next 0 = some (tc t) := by rw [eh2]; exact (le_new ho1 _).2 _ _ _ a1
  have aw2 : h2.at_ h1.next 0 = some (w2 0 0) := by rw [eh2]; exact at_new _
  obtain ⟨h3, ho3, ch3, aw3, w3⟩ := walk_ok t ok 1 0 0 _ h2 ho2 aw2 (by omega) (by omega) (by omega)
  have y1 : (AV.agg (tc t)).row = some (tc t) := rfl
  have y2 : (tc t).length = 6 := tc_length t
  have l6 := ld_t a2
  cases e : walkF t 1 0 0 with
  | mk r nd =>
    obtain ⟨n, d⟩ := nd
    rw [e] at aw3 w3
    cases r with
    | none =>
      have w3' : WC env 97 [.ptr h1.next 0 0, .agg (tc t), .int .i64 1] h2 (fun o => o = .ret ⟨.nili, h3, .write⟩) := w3
      have l0 := ld20 aw3
      have l1 := ld21 aw3
      simp only [a54, a54_0, a54_1, a54_2, a54_3, a54_5, Slots.ofList, wpc_skip, wpc_ops, wpc_seq, wpc_cond, wpc_block, wpc_loop, wpc_exit, wpc_scope, wpc_ret, seqQ_norm, seqQ_ret, seqQ_exit, blockQ'_norm, blockQ'_ret, blockQ'_exit, roundQ_norm, roundQ_ret, roundQ_exit, condK_true, condK_false, wpo_nil', wpo_none, wpo_tt, wpo_ff, wpo_tf, wpo_ft, opsK_c, isC_none, isC_read, isC_write, wp1_call, callK_ret, wp1_mv', wp1_bin', wp1_un', wp1_eq', wp1_extract', wp1_pick', wp1_len', wp1_load', wp1_conv', wp1_store', wp1_idxAddr', wp1_append', wp1_mkIface', wp1_alloc', rd_t, rd_c, ok_t, ok_c, put_some, put_none, get_put, reduceIte, Nat.reduceEqDiff, AV.bool.injEq, Option.some.injEq, exists_eq_left', Option.map_some, Option.bind_some, opds_nil, opds_cons, opd_t, opd_c, aBin, aInt, decide_true, decide_false, negIf, wp1_nilCheck', wp1_fieldAddr', wp1_slice, op_slice, opdo_some, opdo_none, wp1_lit, op_lit, parts_nil, parts_cons, wp1_build, op_build, wp1_box, op_box, y1, y2, ← eh1, ← eh2, l6, wc_eq w3', eq_nil, Bool.not_true]
      refine wpc_draw_k ?_
      simp only [wpc_skip, wpc_ops, wpc_seq, wpc_cond, wpc_block, wpc_loop, wpc_exit, wpc_scope, wpc_ret, seqQ_norm, seqQ_ret, seqQ_exit, blockQ'_norm, blockQ'_ret, blockQ'_exit, roundQ_norm, roundQ_ret, roundQ_exit, condK_true, condK_false, wpo_nil', wpo_none, wpo_tt, wpo_ff, wpo_tf, wpo_ft, opsK_c, isC_none, isC_read, isC_write, wp1_call, callK_ret, wp1_mv', wp1_bin', wp1_un', wp1_eq', wp1_extract', wp1_pick', wp1_len', wp1_load', wp1_conv', wp1_store', wp1_idxAddr', wp1_append', wp1_mkIface', wp1_alloc', rd_t, rd_c, ok_t, ok_c, put_some, put_none, get_put, reduceIte, Nat.reduceEqDiff, AV.bool.injEq, Option.some.injEq, exists_eq_left', Option.map_some, Option.bind_some, opds_nil, opds_cons, opd_t, opd_c, aBin, aInt, decide_true, decide_false, negIf, wp1_nilCheck', wp1_fieldAddr', wp1_slice, op_slice, opdo_some, opdo_none, wp1_lit, op_lit, parts_nil, parts_cons, wp1_build, op_build, wp1_box, op_box, wpk_nil, wpk_none, wpk_tt, wpk_ff, wpk_tf, wpk_ft, clsK_c, logC_apply, drawC_apply, aFieldAddr, Nat.zero_add, l0, l1]
      refine ⟨rfl, ?_⟩
      exact ⟨[.int .i64 n, .int .i64 d, .nili], _, by simp only [Env.results, Option.map_some, get_put, reduceIte, Nat.reduceEqDiff], (frz_noRef (v := .tup [.int .i64 n, .int .i64 d, .nili]) rfl).2 rfl, rfl⟩
    | some er =>
      have w3' : WC env 97 [.ptr h1.next 0 0, .agg (tc t), .int .i64 1] h2 (fun o => o = .ret ⟨walkAV (some er), h3, .write⟩) := w3
      simp only [a54, a54_0, a54_1, a54_2, a54_3, a54_4, Slots.ofList, wpc_skip, wpc_ops, wpc_draw, wpc_seq, wpc_cond, wpc_block, wpc_loop, wpc_exit, wpc_scope, wpc_ret, seqQ_norm, seqQ_ret, seqQ_exit, blockQ'_norm, blockQ'_ret, blockQ'_exit, roundQ_norm, roundQ_ret, roundQ_exit, condK_true, condK_false, wpo_nil', wpo_none, wpo_tt, wpo_ff, wpo_tf, wpo_ft, opsK_c, isC_none, isC_read, isC_write, wp1_call, callK_ret, wp1_mv', wp1_bin', wp1_un', wp1_eq', wp1_extract', wp1_pick', wp1_len', wp1_load', wp1_conv', wp1_store', wp1_idxAddr', wp1_append', wp1_mkIface', wp1_alloc', rd_t, rd_c, ok_t, ok_c, put_some, put_none, get_put, reduceIte, Nat.reduceEqDiff, AV.bool.injEq, Option.some.injEq, exists_eq_left', Option.map_some, Option.bind_some, opds_nil, opds_cons, opd_t, opd_c, aBin, aInt, decide_true, decide_false, negIf, wp1_nilCheck', wp1_fieldAddr', wp1_slice, op_slice, opdo_some, opdo_none, wp1_lit, op_lit, parts_nil, parts_cons, wp1_build, op_build, wp1_box, op_box, y1, y2, ← eh1, ← eh2, l6, wc_eq w3', aEq_walk, Bool.not_false]
      exact ⟨[.int .i64 0, .int .i64 0, walkAV (some er)], .tup [.int .i64 0, .int .i64 0, walkAV (some er)], by simp only [Env.results, Option.map_some, get_put, reduceIte, Nat.reduceEqDiff], (frz_noRef (v := .tup [.int .i64 0, .int .i64 0, walkAV (some er)]) (by simp only [AV.noRef, AV.noRefs, noRef_walk, Bool.and_self])).2 rfl, rfl⟩

/-- the fault that Check finds -/
def chkF (t : Tm) : WFlt := (walkF t 1 0 0).1
theorem check_spec (t : Tm) (ok : t.Ok) (h : Heap) : WC env 36 [.agg (tc t)] h (fun o => o = .ret ⟨walkAV (chkF t), h, .none⟩) := by
  refine call_pure rfl rfl rfl (by simp only [AV.noRefs, AV.noRef, noRef_tc, Bool.and_self, Bool.true_and]) ?_
  obtain ⟨h1, eh1⟩ : ∃ h1, h1 = Heap.empty.new (tc t) := ⟨_, rfl⟩
  have a1 : h1.at_ Heap.empty.next 0 = some (tc t) := by rw [eh1]; exact at_new _
  have y1 : (AV.agg (tc t)).row = some (tc t) := rfl
  have y2 : (tc t).length = 6 := tc_length t
  have l6 := ld_t a1
  obtain ⟨n, d, wm⟩ : ∃ n d : Int, ∀ h, WC env 54 [.agg (tc t)] h (fun o => o = .ret ⟨.tup [.int .i64 n, .int .i64 d, walkAV (chkF t)], h, .none⟩) := by
    have wm := measure_spec t ok
    cases e : walkF t 1 0 0 with
    | mk r nd =>
      obtain ⟨n, d⟩ := nd
      have ec : chkF t = r := by rw [chkF, e]
      rw [e] at wm
      rw [ec]
      cases r with
      | none => exact ⟨n, d, fun h => wm h⟩
      | some er => exact ⟨0, 0, fun h => wm h⟩
  simp only [a36, a36_0, a36_1, a36_2, Slots.ofList, wpc_skip, wpc_ops, wpc_draw, wpc_seq, wpc_cond, wpc_block, wpc_loop, wpc_exit, wpc_scope, wpc_ret, seqQ_norm, seqQ_ret, seqQ_exit, blockQ'_norm, blockQ'_ret, blockQ'_exit, roundQ_norm, roundQ_ret, roundQ_exit, condK_true, condK_false, wpo_nil', wpo_none, wpo_tt, wpo_ff, wpo_tf, wpo_ft, opsK_c, isC_none, isC_read, isC_write, wp1_call, callK_ret, wp1_mv', wp1_bin', wp1_un', wp1_eq', wp1_extract', wp1_pick', wp1_len', wp1_load', wp1_conv', wp1_store', wp1_idxAddr', wp1_append', wp1_mkIface', wp1_alloc', rd_t, rd_c, ok_t, ok_c, put_some, put_none, get_put, reduceIte, Nat.reduceEqDiff, AV.bool.injEq, Option.some.injEq, exists_eq_left', Option.map_some, Option.bind_some, opds_nil, opds_cons, opd_t, opd_c, aBin, aInt, decide_true, decide_false, negIf, wp1_nilCheck', wp1_fieldAddr', wp1_slice, op_slice, opdo_some, opdo_none, wp1_lit, op_lit, parts_nil, parts_cons, wp1_build, op_build, wp1_box, op_box, y1, y2, ← eh1, l6, wc_eq (wm _), aExtract, x30, x31, x32]
  exact fin1 (by simp only [get_put, reduceIte, Nat.reduceEqDiff] <;> rfl) (noRef_walk _) (one_walk _) rfl
end Go.Bf
