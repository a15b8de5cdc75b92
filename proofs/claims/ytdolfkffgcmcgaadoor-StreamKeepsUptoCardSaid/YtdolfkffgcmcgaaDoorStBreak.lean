/-
  Package stream: Break, Close, State of no end.
-/
import Derived.Test.YtdolfkffgcmcgaaDoorStRefused
set_option linter.unusedVariables false
set_option linter.unusedSimpArgs false
set_option maxRecDepth 20000
namespace Go.St
open Go.AM

theorem ss_cl {h : Heap} {id : Nat} {cl : Bool} {t o : Sd} {tu tc ou oc : AV} (e1 : h.at_ id 0 = some (SE 0 cl t o tu tc ou oc)) : aStore h 1 (.ptr id 0 1) (.bool true) = some ⟨.undef, h.upd id 0 (SE 0 true t o tu tc ou oc), .write⟩ := by
  simp only [aStore, e1, Option.bind_some]; rfl
theorem ss_ou {h : Heap} {id : Nat} {cl : Bool} {t o : Sd} {tu tc ou oc : AV} (e1 : h.at_ id 0 = some (SE 0 cl t o tu tc ou oc)) : aStore h 1 (.ptr id 0 (ob 0)) .nils = some ⟨.undef, h.upd id 0 (SE 0 cl t o tu tc .nils oc), .write⟩ := by
  simp only [aStore, e1, Option.bind_some]; rfl

/-- what is under way is lost -/
theorem end_spec {h : Heap} {id : Nat} {cl : Bool} {t o : Sd} {tu tc ou oc : AV} (ho : HeapOk h) (k : Sr h id 0 cl t o tu tc ou oc) :
    WC env 31 [.ptr id 0 0] h (fun x => ∃ h', HeapOk h' ∧ Sr h' id 0 true { t with u := [] } { o with u := [] } .nils tc .nils oc ∧ Chg (fun i => i = id) h h' ∧ x = .ret ⟨.tup [], h', .write⟩) := by
  have t0 := ss_cl k.hat
  have a1 : (h.upd id 0 (SE 0 true t o tu tc ou oc)).at_ id 0 = some (SE 0 true t o tu tc ou oc) := at_upd
  have t1 := ss_u (.inl rfl) a1 (v := .nils) rfl
  have a2 : ((h.upd id 0 (SE 0 true t o tu tc ou oc)).upd id 0 (SE 0 true t o .nils tc ou oc)).at_ id 0 = some (SE 0 true t o .nils tc ou oc) := at_upd
  have t2 := ss_ou a2
  have i0 : aIdxAddrArr 6 2 (.ptr id 0 2) (.int .i64 0) = some (.ptr id 0 (tb 0)) := rfl
  have i1 : aIdxAddrArr 6 2 (.ptr id 0 2) (.int .i64 1) = some (.ptr id 0 (ob 0)) := rfl
  refine call_body rfl rfl (.inl rfl) ?_
  simp only [a31, a31_0, a31_1, Slots.ofList, wpc_skip, wpc_ops, wpc_draw, wpc_seq, wpc_cond, wpc_block, wpc_loop, wpc_exit, wpc_scope, wpc_ret, seqQ_norm, seqQ_ret, seqQ_exit, blockQ'_norm, blockQ'_ret, blockQ'_exit, roundQ_norm, roundQ_ret, roundQ_exit, condK_true, condK_false, wpo_nil', wpo_none, wpo_some, opsK_apply, guardK_tt, guardK_ff, guardK_tf, guardK_ft, wp1_call, callK_ret, wp1_mv', wp1_bin', wp1_un', wp1_eq', wp1_extract', wp1_pick', wp1_len', wp1_load', wp1_conv', wp1_store', wp1_idxAddr', wp1_append', wp1_mkIface', wp1_alloc', rd_t, rd_c, ok_t, ok_c, put_some, put_none, get_put, reduceIte, Nat.reduceEqDiff, AV.bool.injEq, Option.some.injEq, exists_eq_left', Option.map_some, Option.bind_some, opds_nil, opds_cons, opd_t, opd_c, aBin, aInt, decide_true, decide_false, negIf, wp1_nilCheck', wp1_fieldAddr', wp1_slice, op_slice, opdo_some, opdo_none, wp1_lit, op_lit, parts_nil, parts_cons, wp1_build, op_build, wp1_box, op_box, wpl_nil', wpl_none, wpl_some, logK_apply, logQ_apply, guardL_tt, guardL_ff, guardL_tf, guardL_ft, drawQ_apply, wp1_idxAddrArr, op_idxAddrArr, aNil_ptr, aFieldAddr, Nat.zero_add, Nat.add_zero, t0, i0, i1, t1, t2]
  refine ⟨draw_of_cls rfl, [], rfl, _, ((ho.upd (at_look.1 k.hat) _ _).upd (at_look.1 a1) _ _).upd (at_look.1 a2) _ _, ?_, ((Chg.trans (S := fun i => i = id) (upd_chg rfl) (upd_chg rfl)).trans (upd_chg rfl)), rfl⟩
  have c : Chg (fun i => i = id) h (((h.upd id 0 (SE 0 true t o tu tc ou oc)).upd id 0 (SE 0 true t o .nils tc ou oc)).upd id 0 (SE 0 true t o .nils tc .nils oc)) := (Chg.trans (S := fun i => i = id) (upd_chg rfl) (upd_chg rfl)).trans (upd_chg rfl)
  refine ⟨at_upd, .nils, k.atc.chg c fun i e e2 => k.nid.2.1 (by rw [e, e2]), .nils, k.aoc.chg c fun i e e2 => k.nid.2.2.2 (by rw [e, e2]), ⟨by simp [AV.own], k.nid.2.1, by simp [AV.own], k.nid.2.2.2⟩, fun i => ⟨(fun e => by cases e), (fun e => ⟨by simp [AV.own], ((k.sep i).2.1 e).2⟩), (fun e => by cases e)⟩⟩

theorem break_spec {h : Heap} {id : Nat} {cl : Bool} {t o : Sd} {tu tc ou oc : AV} (ho : HeapOk h) (k : Sr h id 0 cl t o tu tc ou oc) :
    WC env 19 [.ptr id 0 0] h (fun x => (cl = true ∧ x = .ret ⟨refV 100, h, .write⟩) ∨ (cl = false ∧ ∃ h', HeapOk h' ∧ Sr h' id 0 true { t with u := [] } { o with u := [] } .nils tc .nils oc ∧ Chg (fun i => i = id) h h' ∧ x = .ret ⟨.nili, h', .write⟩)) := by
  have w1 := open_ok k.hat (e := 0) (.inl rfl)
  refine call_body rfl rfl (.inl rfl) ?_
  cases cl with
  | true =>
    have w1' : WC env 24 [.ptr id 0 0, .int .i64 0] h (fun o => o = .ret ⟨refV 100, h, .write⟩) := w1
    simp only [a19, a19_0, a19_1, a19_2, a19_3, Slots.ofList, wpc_skip, wpc_ops, wpc_draw, wpc_seq, wpc_cond, wpc_block, wpc_loop, wpc_exit, wpc_scope, wpc_ret, seqQ_norm, seqQ_ret, seqQ_exit, blockQ'_norm, blockQ'_ret, blockQ'_exit, roundQ_norm, roundQ_ret, roundQ_exit, condK_true, condK_false, wpo_nil', wpo_none, wpo_some, opsK_apply, guardK_tt, guardK_ff, guardK_tf, guardK_ft, wp1_call, callK_ret, wp1_mv', wp1_bin', wp1_un', wp1_eq', wp1_extract', wp1_pick', wp1_len', wp1_load', wp1_conv', wp1_store', wp1_idxAddr', wp1_append', wp1_mkIface', wp1_alloc', rd_t, rd_c, ok_t, ok_c, put_some, put_none, get_put, reduceIte, Nat.reduceEqDiff, AV.bool.injEq, Option.some.injEq, exists_eq_left', Option.map_some, Option.bind_some, opds_nil, opds_cons, opd_t, opd_c, aBin, aInt, decide_true, decide_false, negIf, wp1_nilCheck', wp1_fieldAddr', wp1_slice, op_slice, opdo_some, opdo_none, wp1_lit, op_lit, parts_nil, parts_cons, wp1_build, op_build, wp1_box, op_box, wc_eq w1', eq_ref, Bool.not_false]
    exact ⟨[refV 100], by simp only [Env.results, Option.map_some, get_put, reduceIte], .inl ⟨trivial, rfl⟩⟩
  | false =>
    have w1' : WC env 24 [.ptr id 0 0, .int .i64 0] h (fun o => o = .ret ⟨.nili, h, .write⟩) := w1
    obtain ⟨x, ev, h', q1, q2, q3, rfl⟩ := end_spec ho k
    have w2 : WC env 31 [.ptr id 0 0] h (fun o => o = _) := ⟨_, ev, rfl⟩
    simp only [a19, a19_0, a19_1, a19_2, a19_4, a19_5, Slots.ofList, wpc_skip, wpc_ops, wpc_draw, wpc_seq, wpc_cond, wpc_block, wpc_loop, wpc_exit, wpc_scope, wpc_ret, seqQ_norm, seqQ_ret, seqQ_exit, blockQ'_norm, blockQ'_ret, blockQ'_exit, roundQ_norm, roundQ_ret, roundQ_exit, condK_true, condK_false, wpo_nil', wpo_none, wpo_some, opsK_apply, guardK_tt, guardK_ff, guardK_tf, guardK_ft, wp1_call, callK_ret, wp1_mv', wp1_bin', wp1_un', wp1_eq', wp1_extract', wp1_pick', wp1_len', wp1_load', wp1_conv', wp1_store', wp1_idxAddr', wp1_append', wp1_mkIface', wp1_alloc', rd_t, rd_c, ok_t, ok_c, put_some, put_none, get_put, reduceIte, Nat.reduceEqDiff, AV.bool.injEq, Option.some.injEq, exists_eq_left', Option.map_some, Option.bind_some, opds_nil, opds_cons, opd_t, opd_c, aBin, aInt, decide_true, decide_false, negIf, wp1_nilCheck', wp1_fieldAddr', wp1_slice, op_slice, opdo_some, opdo_none, wp1_lit, op_lit, parts_nil, parts_cons, wp1_build, op_build, wp1_box, op_box, wc_eq w1', eq_nil, Bool.not_true, wc_eq w2]
    exact ⟨[.nili], by simp only [Env.results, Option.map_some, get_put, reduceIte], .inr ⟨trivial, h', q1, q2, q3, rfl⟩⟩

/-- from the end that closes -/
theorem close_spec {h : Heap} {id e : Nat} {cl : Bool} {t o : Sd} {tu tc ou oc : AV} (ho : HeapOk h) (k : Sr h id e cl t o tu tc ou oc) (he : e = 0 ∨ e = 1) (hu : t.u.length + o.c.length < 100000000000) (hs : o.moved < 100000000000) :
    WC env 20 [.ptr id 0 0, .int .i64 e] h (fun x => (cl = true ∧ x = .ret ⟨refV 100, h, .write⟩) ∨ (cl = false ∧ ∃ h' oc', HeapOk h' ∧ Sr h' id e true { t with u := [] } { o with u := [], c := o.c ++ t.u, moved := o.moved + t.u.length } .nils tc .nils oc' ∧ Chg (fun i => i = id ∨ oc.own = some i) h h' ∧
      (∀ i, oc'.own = some i → oc.own = some i ∨ h.next ≤ i) ∧ x = .ret ⟨.nili, h', .write⟩)) := by
  have w1 := open_ok k.hat he
  refine call_body rfl rfl (.inl rfl) ?_
  cases cl with
  | true =>
    have w1' : WC env 24 [.ptr id 0 0, .int .i64 e] h (fun o => o = .ret ⟨refV 100, h, .write⟩) := w1
    simp only [a20, a20_0, a20_1, a20_2, a20_3, Slots.ofList, wpc_skip, wpc_ops, wpc_draw, wpc_seq, wpc_cond, wpc_block, wpc_loop, wpc_exit, wpc_scope, wpc_ret, seqQ_norm, seqQ_ret, seqQ_exit, blockQ'_norm, blockQ'_ret, blockQ'_exit, roundQ_norm, roundQ_ret, roundQ_exit, condK_true, condK_false, wpo_nil', wpo_none, wpo_some, opsK_apply, guardK_tt, guardK_ff, guardK_tf, guardK_ft, wp1_call, callK_ret, wp1_mv', wp1_bin', wp1_un', wp1_eq', wp1_extract', wp1_pick', wp1_len', wp1_load', wp1_conv', wp1_store', wp1_idxAddr', wp1_append', wp1_mkIface', wp1_alloc', rd_t, rd_c, ok_t, ok_c, put_some, put_none, get_put, reduceIte, Nat.reduceEqDiff, AV.bool.injEq, Option.some.injEq, exists_eq_left', Option.map_some, Option.bind_some, opds_nil, opds_cons, opd_t, opd_c, aBin, aInt, decide_true, decide_false, negIf, wp1_nilCheck', wp1_fieldAddr', wp1_slice, op_slice, opdo_some, opdo_none, wp1_lit, op_lit, parts_nil, parts_cons, wp1_build, op_build, wp1_box, op_box, wc_eq w1', eq_ref, Bool.not_false]
    exact ⟨[refV 100], by simp only [Env.results, Option.map_some, get_put, reduceIte], .inl ⟨trivial, rfl⟩⟩
  | false =>
    have w1' : WC env 24 [.ptr id 0 0, .int .i64 e] h (fun o => o = .ret ⟨.nili, h, .write⟩) := w1
    have l0 := se_u he k.hat
    have l1 := k.atu.lenOp (acc_len k.atu) h
    obtain ⟨x, ev, h1, tu1, oc1, ho1, k1, c1, own1, own1', rfl⟩ := mv_spec (n := t.u.length) ho k he (Nat.le_refl _) (by omega) (by omega)
    have w2 : WC env 26 [.ptr id 0 0, .int .i64 e, .int .i64 t.u.length] h (fun o => o = _) := ⟨_, ev, rfl⟩
    rw [List.drop_length, List.take_length] at k1
    have k0 : ∃ x' h', HeapOk h' ∧ Sr h' id e true { t with u := [] } { o with u := [], c := o.c ++ t.u, moved := o.moved + t.u.length } .nils tc .nils oc1 ∧ Chg (fun i => i = id) h1 h' ∧ WC env 31 [.ptr id 0 0] h1 (fun y => y = .ret ⟨x', h', .write⟩) := by
      rcases he with rfl | rfl
      · obtain ⟨x, ev2, h2, q1, q2, q3, rfl⟩ := end_spec ho1 k1
        exact ⟨_, h2, q1, q2, q3, _, ev2, rfl⟩
      · obtain ⟨x, ev2, h2, q1, q2, q3, rfl⟩ := end_spec ho1 (k1.flip (.inr rfl))
        exact ⟨_, h2, q1, q2.flip (.inl rfl), q3, _, ev2, rfl⟩
    obtain ⟨x', h2, ho2, k2, c2, w3⟩ := k0
    simp only [a20, a20_0, a20_1, a20_2, a20_4, a20_5, a20_6, Slots.ofList, wpc_skip, wpc_ops, wpc_draw, wpc_seq, wpc_cond, wpc_block, wpc_loop, wpc_exit, wpc_scope, wpc_ret, seqQ_norm, seqQ_ret, seqQ_exit, blockQ'_norm, blockQ'_ret, blockQ'_exit, roundQ_norm, roundQ_ret, roundQ_exit, condK_true, condK_false, wpo_nil', wpo_none, wpo_some, opsK_apply, guardK_tt, guardK_ff, guardK_tf, guardK_ft, wp1_call, callK_ret, wp1_mv', wp1_bin', wp1_un', wp1_eq', wp1_extract', wp1_pick', wp1_len', wp1_load', wp1_conv', wp1_store', wp1_idxAddr', wp1_append', wp1_mkIface', wp1_alloc', rd_t, rd_c, ok_t, ok_c, put_some, put_none, get_put, reduceIte, Nat.reduceEqDiff, AV.bool.injEq, Option.some.injEq, exists_eq_left', Option.map_some, Option.bind_some, opds_nil, opds_cons, opd_t, opd_c, aBin, aInt, decide_true, decide_false, negIf, wp1_nilCheck', wp1_fieldAddr', wp1_slice, op_slice, opdo_some, opdo_none, wp1_lit, op_lit, parts_nil, parts_cons, wp1_build, op_build, wp1_box, op_box, wp1_idxAddrArr, op_idxAddrArr, wc_eq w1', eq_nil, Bool.not_true, aNil_ptr, aFieldAddr, Nat.zero_add, Nat.add_zero, idx_this he, l0, l1, wc_eq w2, wc_eq w3]
    exact ⟨[.nili], by simp only [Env.results, Option.map_some, get_put, reduceIte], .inr ⟨trivial, h2, oc1, ho2, k2, c1.trans (c2.mono fun i e => .inl e), own1', rfl⟩⟩

theorem close_bad {h : Heap} {id e0 : Nat} {e : Int} {cl : Bool} {t o : Sd} {tu tc ou oc : AV} (hat : h.at_ id 0 = some (SE e0 cl t o tu tc ou oc)) (h0 : e ≠ 0) (h1 : e ≠ 1) : WC env 20 [.ptr id 0 0, .int .i64 e] h (fun x => x = .ret ⟨refV 2, h, .write⟩) := by
  refine call_body rfl rfl (.inl rfl) ?_
  simp only [a20, a20_0, a20_1, a20_2, a20_3, Slots.ofList, wpc_skip, wpc_ops, wpc_draw, wpc_seq, wpc_cond, wpc_block, wpc_loop, wpc_exit, wpc_scope, wpc_ret, seqQ_norm, seqQ_ret, seqQ_exit, blockQ'_norm, blockQ'_ret, blockQ'_exit, roundQ_norm, roundQ_ret, roundQ_exit, condK_true, condK_false, wpo_nil', wpo_none, wpo_some, opsK_apply, guardK_tt, guardK_ff, guardK_tf, guardK_ft, wp1_call, callK_ret, wp1_mv', wp1_bin', wp1_un', wp1_eq', wp1_extract', wp1_pick', wp1_len', wp1_load', wp1_conv', wp1_store', wp1_idxAddr', wp1_append', wp1_mkIface', wp1_alloc', rd_t, rd_c, ok_t, ok_c, put_some, put_none, get_put, reduceIte, Nat.reduceEqDiff, AV.bool.injEq, Option.some.injEq, exists_eq_left', Option.map_some, Option.bind_some, opds_nil, opds_cons, opd_t, opd_c, aBin, aInt, decide_true, decide_false, negIf, wp1_nilCheck', wp1_fieldAddr', wp1_slice, op_slice, opdo_some, opdo_none, wp1_lit, op_lit, parts_nil, parts_cons, wp1_build, op_build, wp1_box, op_box, wc_eq (open_bad hat h0 h1), eq_ref, Bool.not_false]
  exact ⟨[refV 2], by simp only [Env.results, Option.map_some, get_put, reduceIte], rfl⟩
theorem stall_bad {h : Heap} {id e0 : Nat} {e : Int} {y : Bool} {cl : Bool} {t o : Sd} {tu tc ou oc : AV} (hat : h.at_ id 0 = some (SE e0 cl t o tu tc ou oc)) (h0 : e ≠ 0) (h1 : e ≠ 1) : WC env 18 [.ptr id 0 0, .int .i64 e, .bool y] h (fun x => x = .ret ⟨refV 2, h, .write⟩) := by
  refine call_body rfl rfl (.inl rfl) ?_
  simp only [a18, a18_0, a18_1, a18_2, a18_3, Slots.ofList, wpc_skip, wpc_ops, wpc_draw, wpc_seq, wpc_cond, wpc_block, wpc_loop, wpc_exit, wpc_scope, wpc_ret, seqQ_norm, seqQ_ret, seqQ_exit, blockQ'_norm, blockQ'_ret, blockQ'_exit, roundQ_norm, roundQ_ret, roundQ_exit, condK_true, condK_false, wpo_nil', wpo_none, wpo_some, opsK_apply, guardK_tt, guardK_ff, guardK_tf, guardK_ft, wp1_call, callK_ret, wp1_mv', wp1_bin', wp1_un', wp1_eq', wp1_extract', wp1_pick', wp1_len', wp1_load', wp1_conv', wp1_store', wp1_idxAddr', wp1_append', wp1_mkIface', wp1_alloc', rd_t, rd_c, ok_t, ok_c, put_some, put_none, get_put, reduceIte, Nat.reduceEqDiff, AV.bool.injEq, Option.some.injEq, exists_eq_left', Option.map_some, Option.bind_some, opds_nil, opds_cons, opd_t, opd_c, aBin, aInt, decide_true, decide_false, negIf, wp1_nilCheck', wp1_fieldAddr', wp1_slice, op_slice, opdo_some, opdo_none, wp1_lit, op_lit, parts_nil, parts_cons, wp1_build, op_build, wp1_box, op_box, wc_eq (open_bad hat h0 h1), eq_ref, Bool.not_false]
  exact ⟨[refV 2], by simp only [Env.results, Option.map_some, get_put, reduceIte], rfl⟩
theorem read_bad {h : Heap} {id e0 : Nat} {e n : Int} {cl : Bool} {t o : Sd} {tu tc ou oc : AV} (hat : h.at_ id 0 = some (SE e0 cl t o tu tc ou oc)) (h0 : e ≠ 0) (h1 : e ≠ 1) : WC env 14 [.ptr id 0 0, .int .i64 e, .int .i64 n] h (fun x => x = .ret ⟨.tup [.nils, refV 2], h, .write⟩) := by
  have w2 : WC env 27 [refV 2, .ifc 42 (.int .i64 100)] h (fun o => o = .ret ⟨.bool false, h, .write⟩) := is_ref_wc 2 100 h
  refine call_body rfl rfl (.inl rfl) ?_
  simp only [a14, a14_0, a14_1, a14_2, a14_3, a14_4, Slots.ofList, wpc_skip, wpc_ops, wpc_draw, wpc_seq, wpc_cond, wpc_block, wpc_loop, wpc_exit, wpc_scope, wpc_ret, seqQ_norm, seqQ_ret, seqQ_exit, blockQ'_norm, blockQ'_ret, blockQ'_exit, roundQ_norm, roundQ_ret, roundQ_exit, condK_true, condK_false, wpo_nil', wpo_none, wpo_some, opsK_apply, guardK_tt, guardK_ff, guardK_tf, guardK_ft, wp1_call, callK_ret, wp1_mv', wp1_bin', wp1_un', wp1_eq', wp1_extract', wp1_pick', wp1_len', wp1_load', wp1_conv', wp1_store', wp1_idxAddr', wp1_append', wp1_mkIface', wp1_alloc', rd_t, rd_c, ok_t, ok_c, put_some, put_none, get_put, reduceIte, Nat.reduceEqDiff, AV.bool.injEq, Option.some.injEq, exists_eq_left', Option.map_some, Option.bind_some, opds_nil, opds_cons, opd_t, opd_c, aBin, aInt, decide_true, decide_false, negIf, wp1_nilCheck', wp1_fieldAddr', wp1_slice, op_slice, opdo_some, opdo_none, wp1_lit, op_lit, parts_nil, parts_cons, wp1_build, op_build, wp1_box, op_box, wc_eq (open_bad hat h0 h1), wc_eq w2, eq_ref, Bool.not_false, aUn, aPick]
  exact ⟨[.nils, refV 2], by simp only [Env.results, Option.map_some, get_put, reduceIte, Nat.reduceEqDiff], rfl⟩

def pipe0 : List AV := [.int .i64 0, .int .i64 0, .int .i64 0, .int .i64 0, .int .i64 0, .bool false, .bool false]
theorem state_bad {h : Heap} {id e0 : Nat} {e : Int} {cl : Bool} {t o : Sd} {tu tc ou oc : AV} (ho : HeapOk h) (hat : h.at_ id 0 = some (SE e0 cl t o tu tc ou oc)) (h0 : e ≠ 0) (h1 : e ≠ 1) :
    WC env 15 [.ptr id 0 0, .int .i64 e] h (fun x => ∃ h', HeapOk h' ∧ h.le h' ∧ x = .ret ⟨.tup [.agg pipe0, refV 2], h', .write⟩) := by
  obtain ⟨h1', eh1⟩ : ∃ h1, h1 = h.new pipe0 := ⟨_, rfl⟩
  have ho1 : HeapOk h1' := by rw [eh1]; exact ho.new _
  have hle1 : h.le h1' := by rw [eh1]; exact le_new ho _
  have a1 : h1'.at_ h.next 0 = some pipe0 := by rw [eh1]; exact at_new _
  have eh1' : h.new [AV.int .i64 0, .int .i64 0, .int .i64 0, .int .i64 0, .int .i64 0, .bool false, .bool false] = h1' := eh1.symm
  have hat1 := hle1.2 _ _ _ hat
  have b0 : aFill [AV.int .i64 0, .int .i64 0, .int .i64 0, .int .i64 0, .int .i64 0, .bool false, .bool false] [] = some pipe0 := rfl
  obtain ⟨h2, eh2⟩ : ∃ h2, h2 = h1'.upd h.next 0 pipe0 := ⟨_, rfl⟩
  have t1 : aStore h1' 7 (.ptr h.next 0 0) (.agg pipe0) = some ⟨.undef, h2, .write⟩ := by
    rw [eh2]; simp only [aStore, a1, Option.bind_some]; rfl
  have l4 : aLoad h2 true 7 (.ptr h.next 0 0) = some ⟨.agg pipe0, h2, .read⟩ := by
    rw [eh2]; simp only [aLoad, at_upd, Option.bind_some]; rfl
  refine call_body rfl rfl (.inl rfl) ?_
  simp only [a15, a15_0, a15_1, a15_2, a15_3, Slots.ofList, wpc_skip, wpc_ops, wpc_draw, wpc_seq, wpc_cond, wpc_block, wpc_loop, wpc_exit, wpc_scope, wpc_ret, seqQ_norm, seqQ_ret, seqQ_exit, blockQ'_norm, blockQ'_ret, blockQ'_exit, roundQ_norm, roundQ_ret, roundQ_exit, condK_true, condK_false, wpo_nil', wpo_none, wpo_some, opsK_apply, guardK_tt, guardK_ff, guardK_tf, guardK_ft, wp1_call, callK_ret, wp1_mv', wp1_bin', wp1_un', wp1_eq', wp1_extract', wp1_pick', wp1_len', wp1_load', wp1_conv', wp1_store', wp1_idxAddr', wp1_append', wp1_mkIface', wp1_alloc', rd_t, rd_c, ok_t, ok_c, put_some, put_none, get_put, reduceIte, Nat.reduceEqDiff, AV.bool.injEq, Option.some.injEq, exists_eq_left', Option.map_some, Option.bind_some, opds_nil, opds_cons, opd_t, opd_c, aBin, aInt, decide_true, decide_false, negIf, wp1_nilCheck', wp1_fieldAddr', wp1_slice, op_slice, opdo_some, opdo_none, wp1_lit, op_lit, parts_nil, parts_cons, wp1_build, op_build, wp1_box, op_box, eh1', wc_eq (asked_bad hat1 h0 h1), eq_ref, Bool.not_false, b0, t1]
  refine ⟨[.agg pipe0, refV 2], ?_, h2, by rw [eh2]; exact ho1.upd (at_look.1 a1) _ _, ⟨by rw [eh2]; exact hle1.1, fun i g cs e => ?_⟩, rfl⟩
  · simp only [Env.results, Option.map_some, Option.bind_some, get_put, reduceIte, Nat.reduceEqDiff, l4]
  · have := ho.lt e
    rw [eh2, at_upd_ne (by omega)]
    exact hle1.2 _ _ _ e
end Go.St
