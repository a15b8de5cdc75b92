/-
  Package stream: Move, Read, Stall.
-/
import Derived.Test.YtdolfkffgcmcgaaDoorStCalls
set_option linter.unusedVariables false
set_option linter.unusedSimpArgs false
set_option maxRecDepth 20000
namespace Go.St
open Go.AM

theorem wp1_callv {E : Env} {s : St} {f : Opd} {args : List Opd} {d : Option Nat} {K : St → Cls → Prop} {Q : AExit → St → Prop} {g : Nat} {first cap vs : List AV} (hf : E.opd s.σ f = some (.fn (.func g) first cap)) (ha : E.opds s.σ args = some vs) (hw : WC E g (first ++ vs ++ cap) s.h (callK s d K Q)) :
    wp1 E (.callv f args) d s K Q := by
  obtain ⟨o, ev, hq⟩ := hw
  refine ⟨g, first, cap, vs, hf, ha, o, ev, ?_⟩
  cases o <;> exact hq

theorem wc_prim {f : Nat} {p : List AV → Heap → Option (AV × Heap)} {args : List AV} {h h' : Heap} {v : AV} (hp : env.prim f = some p) (hv : p args h = some (v, h')) : WC env f args h (fun o => o = .ret ⟨v, h', .write⟩) := by
  refine ⟨_, ⟨1, fun m hm => ?_⟩, rfl⟩
  obtain ⟨m, rfl⟩ : ∃ k, m = k + 1 := ⟨m - 1, by omega⟩
  simp only [Env.call, hp, hv, Option.map_some]
theorem is_nil_wc (c : Int) (h : Heap) : WC env 27 [.nili, .ifc 42 (.int .i64 c)] h (fun o => o = .ret ⟨.bool false, h, .write⟩) := wc_prim (p := isP) rfl rfl
theorem is_ref_wc (a c : Int) (h : Heap) : WC env 27 [refV a, .ifc 42 (.int .i64 c)] h (fun o => o = .ret ⟨.bool (a == c), h, .write⟩) := wc_prim (p := isP) rfl rfl

def moveE (cl : Bool) (t o : Sd) (n : Int) : Option Int := if cl = true then some 100 else if n < 0 then some 1 else if t.st = true then some 101 else if (t.u.length : Int) < n then some 102 else if 4194304 < (o.c.length : Int) + n then some 5 else none

theorem move_call {h : Heap} {σ : Slots} {id e n : Nat} {cl : Bool} {t o : Sd} {tu tc ou oc : AV} (ho : HeapOk h) (k : Sr h id e cl t o tu tc ou oc) (he : e = 0 ∨ e = 1) (hn : n ≤ t.u.length) (hu : t.u.length + o.c.length < 1000000000000) (hs : o.moved + n < 1000000000000)
    (g9 : σ.get 9 = .fn (.func 26) [.ptr id 0 0] []) (g1 : σ.get 1 = .int .i64 e) (g2 : σ.get 2 = .int .i64 n) {Q : AExit → St → Prop}
    (hQ : ∀ σ' h' tu' oc', HeapOk h' → Sr h' id e cl { t with u := t.u.drop n } { o with c := o.c ++ t.u.take n, moved := o.moved + n } tu' tc ou oc' → Chg (fun i => i = id ∨ oc.own = some i) h h' →
      (∀ i, tu'.own = some i → h.next ≤ i) → (∀ i, oc'.own = some i → oc.own = some i ∨ h.next ≤ i) → σ'.get 6 = .nili → Q .ret ⟨σ', h'⟩) :
    wpc env (.seq (.ops a13_14) (.seq (.ops a13_15) .ret)) ⟨σ, h⟩ Q := by
  obtain ⟨x, ev, h', tu', oc', q1, q2, q3, q4, q5, rfl⟩ := mv_spec ho k he hn hu hs
  simp only [a13_14, wpc_skip, wpc_ops, wpc_draw, wpc_seq, wpc_cond, wpc_block, wpc_loop, wpc_exit, wpc_scope, wpc_ret, seqQ_norm, seqQ_ret, seqQ_exit, blockQ'_norm, blockQ'_ret, blockQ'_exit, roundQ_norm, roundQ_ret, roundQ_exit, condK_true, condK_false, wpo_nil', wpo_none, wpo_some, opsK_apply, guardK_tt, guardK_ff, guardK_tf, guardK_ft, wp1_call, callK_ret, wp1_mv', wp1_bin', wp1_un', wp1_eq', wp1_extract', wp1_pick', wp1_len', wp1_load', wp1_conv', wp1_store', wp1_idxAddr', wp1_append', wp1_mkIface', wp1_alloc', rd_t, rd_c, ok_t, ok_c, put_some, put_none, get_put, reduceIte, Nat.reduceEqDiff, AV.bool.injEq, Option.some.injEq, exists_eq_left', Option.map_some, Option.bind_some, opds_nil, opds_cons, opd_t, opd_c, aBin, aInt, decide_true, decide_false, negIf, wp1_nilCheck', wp1_fieldAddr', wp1_slice, op_slice, opdo_some, opdo_none, wp1_lit, op_lit, parts_nil, parts_cons, wp1_build, op_build, wp1_box, op_box, g9, g1, g2]
  refine wp1_callv (g := 26) (first := [.ptr id 0 0]) (cap := []) (vs := [.int .i64 e, .int .i64 n]) ?_ ?_ ⟨_, ev, ?_⟩
  · simp only [opd_t, get_put, reduceIte, Nat.reduceEqDiff]
  · simp only [opds_cons, opds_nil, opd_t, get_put, reduceIte, Nat.reduceEqDiff, Option.bind_some, Option.map_some]
  · simp only [a13_15, wpc_skip, wpc_ops, wpc_draw, wpc_seq, wpc_cond, wpc_block, wpc_loop, wpc_exit, wpc_scope, wpc_ret, seqQ_norm, seqQ_ret, seqQ_exit, blockQ'_norm, blockQ'_ret, blockQ'_exit, roundQ_norm, roundQ_ret, roundQ_exit, condK_true, condK_false, wpo_nil', wpo_none, wpo_some, opsK_apply, guardK_tt, guardK_ff, guardK_tf, guardK_ft, wp1_call, callK_ret, wp1_mv', wp1_bin', wp1_un', wp1_eq', wp1_extract', wp1_pick', wp1_len', wp1_load', wp1_conv', wp1_store', wp1_idxAddr', wp1_append', wp1_mkIface', wp1_alloc', rd_t, rd_c, ok_t, ok_c, put_some, put_none, get_put, reduceIte, Nat.reduceEqDiff, AV.bool.injEq, Option.some.injEq, exists_eq_left', Option.map_some, Option.bind_some, opds_nil, opds_cons, opd_t, opd_c, aBin, aInt, decide_true, decide_false, negIf, wp1_nilCheck', wp1_fieldAddr', wp1_slice, op_slice, opdo_some, opdo_none, wp1_lit, op_lit, parts_nil, parts_cons, wp1_build, op_build, wp1_box, op_box]
    exact hQ _ h' tu' oc' q1 q2 q3 q4 q5 (by simp only [get_put, reduceIte])

theorem move_spec {h : Heap} {id e : Nat} {n : Int} {cl : Bool} {t o : Sd} {tu tc ou oc : AV} (ho : HeapOk h) (k : Sr h id e cl t o tu tc ou oc) (he : e = 0 ∨ e = 1) (hu : t.u.length ≤ 4194304) (hoc : o.c.length ≤ 4194304) (hs : o.moved < 100000000000) :
    WC env 13 [.ptr id 0 0, .int .i64 e, .int .i64 n] h (fun x =>
      (moveE cl t o n ≠ none ∧ x = .ret ⟨errV (moveE cl t o n), h, .write⟩) ∨ (moveE cl t o n = none ∧ ∃ h' tu' oc', HeapOk h' ∧ Sr h' id e cl { t with u := t.u.drop n.toNat } { o with c := o.c ++ t.u.take n.toNat, moved := o.moved + n.toNat } tu' tc ou oc' ∧ Chg (fun i => i = id ∨ oc.own = some i) h h' ∧
      (∀ i, tu'.own = some i → h.next ≤ i) ∧ (∀ i, oc'.own = some i → oc.own = some i ∨ h.next ≤ i) ∧ x = .ret ⟨.nili, h', .write⟩)) := by
  have w1 := open_ok k.hat he
  refine call_body rfl rfl (.inl rfl) ?_
  have ret : ∀ {σ : Slots} {h : Heap} {v : AV}, σ.get 6 = v → env.results ⟨σ, h⟩ [.tmp 6] = some [v] := by
    intro σ h v g
    simp only [Env.results, Option.map_some, g]
  by_cases c0 : cl = true
  · have hE : moveE cl t o n = some 100 := by simp only [moveE, if_pos c0]
    rw [if_pos c0] at w1
    have w1' : WC env 24 [.ptr id 0 0, .int .i64 e] h (fun o => o = .ret ⟨refV 100, h, .write⟩) := w1
    rw [hE]
    simp only [a13, a13_0, a13_1, a13_2, a13_3, Slots.ofList, wpc_skip, wpc_ops, wpc_draw, wpc_seq, wpc_cond, wpc_block, wpc_loop, wpc_exit, wpc_scope, wpc_ret, seqQ_norm, seqQ_ret, seqQ_exit, blockQ'_norm, blockQ'_ret, blockQ'_exit, roundQ_norm, roundQ_ret, roundQ_exit, condK_true, condK_false, wpo_nil', wpo_none, wpo_some, opsK_apply, guardK_tt, guardK_ff, guardK_tf, guardK_ft, wp1_call, callK_ret, wp1_mv', wp1_bin', wp1_un', wp1_eq', wp1_extract', wp1_pick', wp1_len', wp1_load', wp1_conv', wp1_store', wp1_idxAddr', wp1_append', wp1_mkIface', wp1_alloc', rd_t, rd_c, ok_t, ok_c, put_some, put_none, get_put, reduceIte, Nat.reduceEqDiff, AV.bool.injEq, Option.some.injEq, exists_eq_left', Option.map_some, Option.bind_some, opds_nil, opds_cons, opd_t, opd_c, aBin, aInt, decide_true, decide_false, negIf, wp1_nilCheck', wp1_fieldAddr', wp1_slice, op_slice, opdo_some, opdo_none, wp1_lit, op_lit, parts_nil, parts_cons, wp1_build, op_build, wp1_box, op_box, wc_eq w1', eq_ref, Bool.not_false]
    exact ⟨_, ret (by simp only [get_put, reduceIte, Nat.reduceEqDiff]), .inl ⟨by simp, rfl⟩⟩
  rw [if_neg c0] at w1
  have w1' : WC env 24 [.ptr id 0 0, .int .i64 e] h (fun o => o = .ret ⟨.nili, h, .write⟩) := w1
  by_cases c1 : n < 0
  · have hE : moveE cl t o n = some 1 := by simp only [moveE, if_neg c0, if_pos c1]
    have z1 : (n < 0) = True := eq_true c1
    rw [hE]
    simp only [a13, a13_0, a13_1, a13_2, a13_4, a13_5, a13_6, Slots.ofList, wpc_skip, wpc_ops, wpc_draw, wpc_seq, wpc_cond, wpc_block, wpc_loop, wpc_exit, wpc_scope, wpc_ret, seqQ_norm, seqQ_ret, seqQ_exit, blockQ'_norm, blockQ'_ret, blockQ'_exit, roundQ_norm, roundQ_ret, roundQ_exit, condK_true, condK_false, wpo_nil', wpo_none, wpo_some, opsK_apply, guardK_tt, guardK_ff, guardK_tf, guardK_ft, wp1_call, callK_ret, wp1_mv', wp1_bin', wp1_un', wp1_eq', wp1_extract', wp1_pick', wp1_len', wp1_load', wp1_conv', wp1_store', wp1_idxAddr', wp1_append', wp1_mkIface', wp1_alloc', rd_t, rd_c, ok_t, ok_c, put_some, put_none, get_put, reduceIte, Nat.reduceEqDiff, AV.bool.injEq, Option.some.injEq, exists_eq_left', Option.map_some, Option.bind_some, opds_nil, opds_cons, opd_t, opd_c, aBin, aInt, decide_true, decide_false, negIf, wp1_nilCheck', wp1_fieldAddr', wp1_slice, op_slice, opdo_some, opdo_none, wp1_lit, op_lit, parts_nil, parts_cons, wp1_build, op_build, wp1_box, op_box, wp1_idxAddrArr, op_idxAddrArr, wc_eq w1', eq_nil, Bool.not_true, aNil_ptr, aFieldAddr, Nat.zero_add, Nat.add_zero, idx_this he, z1, wc_eq (ref_spec _ _)]
    exact ⟨_, ret (by simp only [get_put, reduceIte, Nat.reduceEqDiff]), .inl ⟨by simp, rfl⟩⟩
  have z1 : (n < 0) = False := eq_false c1
  obtain ⟨m, rfl⟩ : ∃ m : Nat, n = m := ⟨n.toNat, by omega⟩
  have l0 := se_st he k.hat
  by_cases c2 : t.st = true
  · have hE : moveE cl t o m = some 101 := by simp only [moveE, if_neg c0, if_neg c1, if_pos c2]
    rw [hE]
    rw [c2] at l0
    simp only [a13, a13_0, a13_1, a13_2, a13_4, a13_5, a13_7, a13_8, Slots.ofList, wpc_skip, wpc_ops, wpc_draw, wpc_seq, wpc_cond, wpc_block, wpc_loop, wpc_exit, wpc_scope, wpc_ret, seqQ_norm, seqQ_ret, seqQ_exit, blockQ'_norm, blockQ'_ret, blockQ'_exit, roundQ_norm, roundQ_ret, roundQ_exit, condK_true, condK_false, wpo_nil', wpo_none, wpo_some, opsK_apply, guardK_tt, guardK_ff, guardK_tf, guardK_ft, wp1_call, callK_ret, wp1_mv', wp1_bin', wp1_un', wp1_eq', wp1_extract', wp1_pick', wp1_len', wp1_load', wp1_conv', wp1_store', wp1_idxAddr', wp1_append', wp1_mkIface', wp1_alloc', rd_t, rd_c, ok_t, ok_c, put_some, put_none, get_put, reduceIte, Nat.reduceEqDiff, AV.bool.injEq, Option.some.injEq, exists_eq_left', Option.map_some, Option.bind_some, opds_nil, opds_cons, opd_t, opd_c, aBin, aInt, decide_true, decide_false, negIf, wp1_nilCheck', wp1_fieldAddr', wp1_slice, op_slice, opdo_some, opdo_none, wp1_lit, op_lit, parts_nil, parts_cons, wp1_build, op_build, wp1_box, op_box, wp1_idxAddrArr, op_idxAddrArr, wc_eq w1', eq_nil, Bool.not_true, aNil_ptr, aFieldAddr, Nat.zero_add, Nat.add_zero, idx_this he, z1, l0, wc_eq (ref_spec _ _)]
    exact ⟨_, ret (by simp only [get_put, reduceIte, Nat.reduceEqDiff]), .inl ⟨by simp, rfl⟩⟩
  have c2' : t.st = false := by simpa using c2
  rw [c2'] at l0
  have l1 := se_u he k.hat
  have l2 := k.atu.lenOp (acc_len k.atu) h
  by_cases c3 : t.u.length < m
  · have hE : moveE cl t o m = some 102 := by
      simp only [moveE, if_neg c0, if_neg c1, if_neg c2]
      rw [if_pos (by omega)]
    have z2 : ((m : Int) > (t.u.length : Int)) = True := eq_true (by omega)
    rw [hE]
    simp only [a13, a13_0, a13_1, a13_2, a13_4, a13_5, a13_7, a13_9, a13_10, Slots.ofList, wpc_skip, wpc_ops, wpc_draw, wpc_seq, wpc_cond, wpc_block, wpc_loop, wpc_exit, wpc_scope, wpc_ret, seqQ_norm, seqQ_ret, seqQ_exit, blockQ'_norm, blockQ'_ret, blockQ'_exit, roundQ_norm, roundQ_ret, roundQ_exit, condK_true, condK_false, wpo_nil', wpo_none, wpo_some, opsK_apply, guardK_tt, guardK_ff, guardK_tf, guardK_ft, wp1_call, callK_ret, wp1_mv', wp1_bin', wp1_un', wp1_eq', wp1_extract', wp1_pick', wp1_len', wp1_load', wp1_conv', wp1_store', wp1_idxAddr', wp1_append', wp1_mkIface', wp1_alloc', rd_t, rd_c, ok_t, ok_c, put_some, put_none, get_put, reduceIte, Nat.reduceEqDiff, AV.bool.injEq, Option.some.injEq, exists_eq_left', Option.map_some, Option.bind_some, opds_nil, opds_cons, opd_t, opd_c, aBin, aInt, decide_true, decide_false, negIf, wp1_nilCheck', wp1_fieldAddr', wp1_slice, op_slice, opdo_some, opdo_none, wp1_lit, op_lit, parts_nil, parts_cons, wp1_build, op_build, wp1_box, op_box, wp1_idxAddrArr, op_idxAddrArr, wc_eq w1', eq_nil, Bool.not_true, aNil_ptr, aFieldAddr, Nat.zero_add, Nat.add_zero, idx_this he, z1, l0, l1, l2, z2, wc_eq (ref_spec _ _)]
    exact ⟨_, ret (by simp only [get_put, reduceIte, Nat.reduceEqDiff]), .inl ⟨by simp, rfl⟩⟩
  have z2 : ((m : Int) > (t.u.length : Int)) = False := eq_false (by omega)
  have l3 := se_oc he k.hat
  have l4 := k.aoc.lenOp (acc_len k.aoc) h
  obtain ⟨d, hd⟩ : ∃ d, d = 4194304 - o.c.length := ⟨_, rfl⟩
  have e1 : IntKind.wrap .i64 (4194304 - (o.c.length : Int)) = (d : Int) := wrap_nat (by omega) (by omega)
  by_cases c4 : 4194304 < o.c.length + m
  · have hE : moveE cl t o m = some 5 := by
      simp only [moveE, if_neg c0, if_neg c1, if_neg c2]
      rw [if_neg (by omega), if_pos (by omega)]
    have z3 : ((m : Int) > (d : Int)) = True := eq_true (by omega)
    rw [hE]
    simp only [a13, a13_0, a13_1, a13_2, a13_4, a13_5, a13_7, a13_9, a13_11, a13_12, Slots.ofList, wpc_skip, wpc_ops, wpc_draw, wpc_seq, wpc_cond, wpc_block, wpc_loop, wpc_exit, wpc_scope, wpc_ret, seqQ_norm, seqQ_ret, seqQ_exit, blockQ'_norm, blockQ'_ret, blockQ'_exit, roundQ_norm, roundQ_ret, roundQ_exit, condK_true, condK_false, wpo_nil', wpo_none, wpo_some, opsK_apply, guardK_tt, guardK_ff, guardK_tf, guardK_ft, wp1_call, callK_ret, wp1_mv', wp1_bin', wp1_un', wp1_eq', wp1_extract', wp1_pick', wp1_len', wp1_load', wp1_conv', wp1_store', wp1_idxAddr', wp1_append', wp1_mkIface', wp1_alloc', rd_t, rd_c, ok_t, ok_c, put_some, put_none, get_put, reduceIte, Nat.reduceEqDiff, AV.bool.injEq, Option.some.injEq, exists_eq_left', Option.map_some, Option.bind_some, opds_nil, opds_cons, opd_t, opd_c, aBin, aInt, decide_true, decide_false, negIf, wp1_nilCheck', wp1_fieldAddr', wp1_slice, op_slice, opdo_some, opdo_none, wp1_lit, op_lit, parts_nil, parts_cons, wp1_build, op_build, wp1_box, op_box, wp1_idxAddrArr, op_idxAddrArr, wc_eq w1', eq_nil, Bool.not_true, aNil_ptr, aFieldAddr, Nat.zero_add, Nat.add_zero, idx_this he, sub_end he, idx_other he, z1, l0, l1, l2, z2, l3, l4, e1, z3, wc_eq (ref_spec _ _)]
    exact ⟨_, ret (by simp only [get_put, reduceIte, Nat.reduceEqDiff]), .inl ⟨by simp, rfl⟩⟩
  have z3 : ((m : Int) > (d : Int)) = False := eq_false (by omega)
  have hE : moveE cl t o m = none := by
    simp only [moveE, if_neg c0, if_neg c1, if_neg c2]
    rw [if_neg (by omega), if_neg (by omega)]
  rw [hE]
  simp only [a13, a13_0, a13_1, a13_2, a13_4, a13_5, a13_7, a13_9, a13_11, a13_13, Slots.ofList, wpc_skip, wpc_ops, wpc_draw, wpc_seq, wpc_cond, wpc_block, wpc_loop, wpc_exit, wpc_scope, wpc_ret, seqQ_norm, seqQ_ret, seqQ_exit, blockQ'_norm, blockQ'_ret, blockQ'_exit, roundQ_norm, roundQ_ret, roundQ_exit, condK_true, condK_false, wpo_nil', wpo_none, wpo_some, opsK_apply, guardK_tt, guardK_ff, guardK_tf, guardK_ft, wp1_call, callK_ret, wp1_mv', wp1_bin', wp1_un', wp1_eq', wp1_extract', wp1_pick', wp1_len', wp1_load', wp1_conv', wp1_store', wp1_idxAddr', wp1_append', wp1_mkIface', wp1_alloc', rd_t, rd_c, ok_t, ok_c, put_some, put_none, get_put, reduceIte, Nat.reduceEqDiff, AV.bool.injEq, Option.some.injEq, exists_eq_left', Option.map_some, Option.bind_some, opds_nil, opds_cons, opd_t, opd_c, aBin, aInt, decide_true, decide_false, negIf, wp1_nilCheck', wp1_fieldAddr', wp1_slice, op_slice, opdo_some, opdo_none, wp1_lit, op_lit, parts_nil, parts_cons, wp1_build, op_build, wp1_box, op_box, wp1_idxAddrArr, op_idxAddrArr, wp1_mkFunc, op_mkFunc, wc_eq w1', eq_nil, Bool.not_true, aNil_ptr, aFieldAddr, Nat.zero_add, Nat.add_zero, idx_this he, sub_end he, idx_other he, z1, l0, l1, l2, z2, l3, l4, e1, z3]
  refine move_call (n := m) ho k he (by omega) (by omega) (by omega) ?_ ?_ ?_ fun σ' h' tu' oc' q1 q2 q3 q4 q5 q6 => ?_
  · simp only [get_put, reduceIte, Nat.reduceEqDiff]
  · simp only [get_put, reduceIte, Nat.reduceEqDiff]
  · simp only [get_put, reduceIte, Nat.reduceEqDiff]
  · exact ⟨_, ret q6, .inr ⟨by simp, h', tu', oc', q1, by simpa using q2, q3, q4, q5, rfl⟩⟩

theorem move_bad {h : Heap} {id e0 : Nat} {e n : Int} {cl : Bool} {t o : Sd} {tu tc ou oc : AV} (hat : h.at_ id 0 = some (SE e0 cl t o tu tc ou oc)) (h0 : e ≠ 0) (h1 : e ≠ 1) : WC env 13 [.ptr id 0 0, .int .i64 e, .int .i64 n] h (fun x => x = .ret ⟨refV 2, h, .write⟩) := by
  refine call_body rfl rfl (.inl rfl) ?_
  simp only [a13, a13_0, a13_1, a13_2, a13_3, Slots.ofList, wpc_skip, wpc_ops, wpc_draw, wpc_seq, wpc_cond, wpc_block, wpc_loop, wpc_exit, wpc_scope, wpc_ret, seqQ_norm, seqQ_ret, seqQ_exit, blockQ'_norm, blockQ'_ret, blockQ'_exit, roundQ_norm, roundQ_ret, roundQ_exit, condK_true, condK_false, wpo_nil', wpo_none, wpo_some, opsK_apply, guardK_tt, guardK_ff, guardK_tf, guardK_ft, wp1_call, callK_ret, wp1_mv', wp1_bin', wp1_un', wp1_eq', wp1_extract', wp1_pick', wp1_len', wp1_load', wp1_conv', wp1_store', wp1_idxAddr', wp1_append', wp1_mkIface', wp1_alloc', rd_t, rd_c, ok_t, ok_c, put_some, put_none, get_put, reduceIte, Nat.reduceEqDiff, AV.bool.injEq, Option.some.injEq, exists_eq_left', Option.map_some, Option.bind_some, opds_nil, opds_cons, opd_t, opd_c, aBin, aInt, decide_true, decide_false, negIf, wp1_nilCheck', wp1_fieldAddr', wp1_slice, op_slice, opdo_some, opdo_none, wp1_lit, op_lit, parts_nil, parts_cons, wp1_build, op_build, wp1_box, op_box, wc_eq (open_bad hat h0 h1), eq_ref, Bool.not_false]
  exact ⟨[refV 2], by simp only [Env.results, Option.map_some, get_put, reduceIte], rfl⟩

theorem stall_spec {h : Heap} {id e : Nat} {y cl : Bool} {t o : Sd} {tu tc ou oc : AV} (ho : HeapOk h) (k : Sr h id e cl t o tu tc ou oc) (he : e = 0 ∨ e = 1) :
    WC env 18 [.ptr id 0 0, .int .i64 e, .bool y] h (fun x => ∃ h', HeapOk h' ∧ Sr h' id e cl (if cl = true then t else { t with st := y }) o tu tc ou oc ∧ Chg (fun i => i = id) h h' ∧ x = .ret ⟨errV (if cl = true then some 100 else none), h', .write⟩) := by
  have w1 := open_ok k.hat he
  refine call_body rfl rfl (.inl rfl) ?_
  cases cl with
  | true =>
    have w1' : WC env 24 [.ptr id 0 0, .int .i64 e] h (fun o => o = .ret ⟨refV 100, h, .write⟩) := w1
    simp only [a18, a18_0, a18_1, a18_2, a18_3, Slots.ofList, wpc_skip, wpc_ops, wpc_draw, wpc_seq, wpc_cond, wpc_block, wpc_loop, wpc_exit, wpc_scope, wpc_ret, seqQ_norm, seqQ_ret, seqQ_exit, blockQ'_norm, blockQ'_ret, blockQ'_exit, roundQ_norm, roundQ_ret, roundQ_exit, condK_true, condK_false, wpo_nil', wpo_none, wpo_some, opsK_apply, guardK_tt, guardK_ff, guardK_tf, guardK_ft, wp1_call, callK_ret, wp1_mv', wp1_bin', wp1_un', wp1_eq', wp1_extract', wp1_pick', wp1_len', wp1_load', wp1_conv', wp1_store', wp1_idxAddr', wp1_append', wp1_mkIface', wp1_alloc', rd_t, rd_c, ok_t, ok_c, put_some, put_none, get_put, reduceIte, Nat.reduceEqDiff, AV.bool.injEq, Option.some.injEq, exists_eq_left', Option.map_some, Option.bind_some, opds_nil, opds_cons, opd_t, opd_c, aBin, aInt, decide_true, decide_false, negIf, wp1_nilCheck', wp1_fieldAddr', wp1_slice, op_slice, opdo_some, opdo_none, wp1_lit, op_lit, parts_nil, parts_cons, wp1_build, op_build, wp1_box, op_box, wc_eq w1', eq_ref, Bool.not_false]
    exact ⟨[refV 100], by simp only [Env.results, Option.map_some, get_put, reduceIte], h, ho, k, .refl, rfl⟩
  | false =>
    have w1' : WC env 24 [.ptr id 0 0, .int .i64 e] h (fun o => o = .ret ⟨.nili, h, .write⟩) := w1
    have t0 := ss_st he k.hat y
    simp only [a18, a18_0, a18_1, a18_2, a18_4, a18_5, Slots.ofList, wpc_skip, wpc_ops, wpc_draw, wpc_seq, wpc_cond, wpc_block, wpc_loop, wpc_exit, wpc_scope, wpc_ret, seqQ_norm, seqQ_ret, seqQ_exit, blockQ'_norm, blockQ'_ret, blockQ'_exit, roundQ_norm, roundQ_ret, roundQ_exit, condK_true, condK_false, wpo_nil', wpo_none, wpo_some, opsK_apply, guardK_tt, guardK_ff, guardK_tf, guardK_ft, wp1_call, callK_ret, wp1_mv', wp1_bin', wp1_un', wp1_eq', wp1_extract', wp1_pick', wp1_len', wp1_load', wp1_conv', wp1_store', wp1_idxAddr', wp1_append', wp1_mkIface', wp1_alloc', rd_t, rd_c, ok_t, ok_c, put_some, put_none, get_put, reduceIte, Nat.reduceEqDiff, AV.bool.injEq, Option.some.injEq, exists_eq_left', Option.map_some, Option.bind_some, opds_nil, opds_cons, opd_t, opd_c, aBin, aInt, decide_true, decide_false, negIf, wp1_nilCheck', wp1_fieldAddr', wp1_slice, op_slice, opdo_some, opdo_none, wp1_lit, op_lit, parts_nil, parts_cons, wp1_build, op_build, wp1_box, op_box, wp1_idxAddrArr, op_idxAddrArr, wc_eq w1', eq_nil, Bool.not_true, aNil_ptr, aFieldAddr, Nat.zero_add, Nat.add_zero, idx_this he, t0]
    exact ⟨[.nili], by simp only [Env.results, Option.map_some, get_put, reduceIte], _, ho.upd (at_look.1 k.hat) _ _, k.put (cl' := false) (t' := { t with st := y }) (o' := o) rfl rfl rfl rfl, upd_chg rfl, rfl⟩

def readE (cl : Bool) (t : Sd) (n : Int) : Option Int := if n < 0 then some 1 else if cl = true ∧ t.c = [] then some 8 else none
def readN (t : Sd) (n : Int) : Nat := min t.c.length n.toNat

theorem read_tail {h : Heap} {id e N : Nat} {m : Nat} {cl : Bool} {t o : Sd} {tu tc ou oc : AV} {σ2 : Slots} (ho : HeapOk h) (k : Sr h id e cl t o tu tc ou oc) (he : e = 0 ∨ e = 1) (hu : t.c.length ≤ 4194304) (hs : t.read < 100000000000) (hNl : N ≤ t.c.length)
    (p2 : σ2.get 2 = .int .i64 (m : Int)) (p10 : σ2.get 10 = .ptr id 0 (tb e)) (mn : aMinMax false (.int .i64 (m : Int)) (.int .i64 (t.c.length : Int)) = some (.int .i64 (N : Int))) :
    ∃ (x : Unit) (h' : Heap) (tc' bv : AV), (HeapOk h' ∧ Sr h' id e cl { t with c := t.c.drop N, read := t.read + N } o tu tc' ou oc ∧ Chg (fun i => i = id) h h' ∧ (∀ i, tc'.own = some i → h.next ≤ i) ∧ Acc h' 1 bv ((t.c.take N).map byteAV) ∧ (∀ i, bv.own = some i → h.next ≤ i ∧ tc'.own ≠ some i) ∧ (t.c.take N ≠ [] → bv.own ≠ none)) ∧
      ∀ Q : AExit → St → Prop, (∀ σ', σ'.get 6 = bv → σ'.get 7 = .nili → Q .ret ⟨σ', h'⟩) → wpc env (.seq (.ops a14_10) (.seq (.ops a14_11) (.seq (.ops a14_12) (.seq (.ops a14_13) (.seq (.ops a14_14) .ret))))) ⟨σ2, h⟩ Q := by
  have l1 := se_c he k.hat
  have l2 := k.atc.lenOp (acc_len k.atc) h
  obtain ⟨v1, r1, b1⟩ := to3 k.atc.toBytes hNl
  obtain ⟨o1, ev1, bv, h1, ho1, hle1, hacc1, hown1, hne1, rfl⟩ := clone_spec ho b1 (by simp; omega)
  have w3 : WC env 28 [v1] h (fun o => o = _) := ⟨_, ev1, rfl⟩
  have hat1 := hle1.2 _ _ _ k.hat
  have l3 := se_c he hat1
  have k1 : Sr h1 id e cl t o tu tc ou oc := k.chg (S := fun i => False) hle1.chg (fun e => e) fun i _ e => e
  obtain ⟨v2, r2, b2⟩ := k1.atc.toBytes.from (kd := .i64) hNl
  obtain ⟨o2, ev2, tc', h2, ho2, hle2, hacc2, hown2, hne2, rfl⟩ := clone_spec ho1 b2 (by simp; omega)
  have w4 : WC env 28 [v2] h1 (fun o => o = _) := ⟨_, ev2, rfl⟩
  have hat2 := hle2.2 _ _ _ hat1
  have t0 := ss_c he hat2 hacc2.row
  have kk := k1.setC ho1 (hle2.but _) hacc2 (fun i e => .inr (hown2 i e).1) (t' := { t with c := t.c.drop N }) rfl rfl
  obtain ⟨h3, eh3⟩ : ∃ h3, h3 = h2.upd id 0 (SE e cl t o tu tc' ou oc) := ⟨_, rfl⟩
  have kk : Sr h3 id e cl { t with c := t.c.drop N } o tu tc' ou oc := by rw [eh3]; exact kk
  rw [← eh3] at t0
  have ho3 : HeapOk h3 := by rw [eh3]; exact ho2.upd (at_look.1 hat2) _ _
  have hat3 : h3.at_ id 0 = some (SE e cl t o tu tc' ou oc) := by rw [eh3]; exact at_upd
  have l4 := se_read he hat3
  have e2 : IntKind.wrap .i64 ((t.read : Int) + (N : Int)) = ((t.read + N : Nat) : Int) := wrap_nat (by omega) (by omega)
  have t1 := ss_read he hat3 (t.read + N)
  have kk4 := kk.put (cl' := cl) (t' := { t with c := t.c.drop N, read := t.read + N }) (o' := o) rfl rfl rfl rfl
  have c23 : Chg (fun i => i = id) h2 h3 := by rw [eh3]; exact upd_chg rfl
  have hid : id < h.next := ho.lt k.hat
  refine ⟨(), _, tc', bv, ⟨ho3.upd (at_look.1 hat3) _ _, kk4, ((hle1.chg.trans hle2.chg).trans c23).trans (upd_chg rfl), fun i e => Nat.le_trans hle1.1 (hown2 i e).1, ?_, fun i e => ⟨(hown1 i e).1, fun e2 => ?_⟩, hne1⟩, fun Q hQ => ?_⟩
  · have bid : bv.own ≠ some id := fun e => by have := hown1 _ e; omega
    exact ((hacc1.le hle2).chg c23 fun i e e2 => bid (by rw [e, e2])).chg (S := fun i => i = id) (upd_chg rfl) fun i e e2 => bid (by rw [e, e2])
  · have := (hown1 i e).2; have := (hown2 i e2).1; omega
  simp only [a14_10, a14_11, a14_12, a14_13, a14_14, wpc_skip, wpc_ops, wpc_draw, wpc_seq, wpc_cond, wpc_block, wpc_loop, wpc_exit, wpc_scope, wpc_ret, seqQ_norm, seqQ_ret, seqQ_exit, blockQ'_norm, blockQ'_ret, blockQ'_exit, roundQ_norm, roundQ_ret, roundQ_exit, condK_true, condK_false, wpo_nil', wpo_none, wpo_some, opsK_apply, guardK_tt, guardK_ff, guardK_tf, guardK_ft, wp1_call, callK_ret, wp1_mv', wp1_bin', wp1_un', wp1_eq', wp1_extract', wp1_pick', wp1_len', wp1_load', wp1_conv', wp1_store', wp1_idxAddr', wp1_append', wp1_mkIface', wp1_alloc', rd_t, rd_c, ok_t, ok_c, put_some, put_none, get_put, reduceIte, Nat.reduceEqDiff, AV.bool.injEq, Option.some.injEq, exists_eq_left', Option.map_some, Option.bind_some, opds_nil, opds_cons, opd_t, opd_c, aBin, aInt, decide_true, decide_false, negIf, wp1_nilCheck', wp1_fieldAddr', wp1_slice, op_slice, opdo_some, opdo_none, wp1_lit, op_lit, parts_nil, parts_cons, wp1_build, op_build, wp1_box, op_box, wp1_minmax, op_minmax, p2, p10, aNil_ptr, aFieldAddr, l1, l2, mn, r1, wc_eq w3, l3, r2, wc_eq w4, t0, l4, e2, t1]
  exact hQ _ (by simp only [get_put, reduceIte, Nat.reduceEqDiff]) (by simp only [get_put, reduceIte, Nat.reduceEqDiff])

theorem read_spec {h : Heap} {id e : Nat} {n : Int} {cl : Bool} {t o : Sd} {tu tc ou oc : AV} (ho : HeapOk h) (k : Sr h id e cl t o tu tc ou oc) (he : e = 0 ∨ e = 1) (hu : t.c.length ≤ 4194304) (hs : t.read < 100000000000) :
    WC env 14 [.ptr id 0 0, .int .i64 e, .int .i64 n] h (fun x =>
      (readE cl t n ≠ none ∧ x = .ret ⟨.tup [.nils, errV (readE cl t n)], h, .write⟩) ∨ (readE cl t n = none ∧ ∃ h' tc' bv, HeapOk h' ∧ Sr h' id e cl { t with c := t.c.drop (readN t n), read := t.read + readN t n } o tu tc' ou oc ∧ Chg (fun i => i = id) h h' ∧
      (∀ i, tc'.own = some i → h.next ≤ i) ∧ Acc h' 1 bv ((t.c.take (readN t n)).map byteAV) ∧ (∀ i, bv.own = some i → h.next ≤ i ∧ tc'.own ≠ some i) ∧ (t.c.take (readN t n) ≠ [] → bv.own ≠ none) ∧ x = .ret ⟨.tup [bv, .nili], h', .write⟩)) := by
  have w1 := open_ok k.hat he
  have ret : ∀ {σ : Slots} {h : Heap} {v w : AV}, σ.get 6 = v → σ.get 7 = w → env.results ⟨σ, h⟩ [.tmp 6, .tmp 7] = some [v, w] := by
    intro σ h v w g g'
    simp only [Env.results, Option.map_some, g, g']
  have hw : ∃ er, WC env 24 [.ptr id 0 0, .int .i64 e] h (fun o => o = .ret ⟨er, h, .write⟩) ∧ WC env 27 [er, .ifc 42 (.int .i64 100)] h (fun o => o = .ret ⟨.bool cl, h, .write⟩) ∧ aEq (.iface true) er .nili = some (!cl) := by
    cases cl with
    | true => exact ⟨refV 100, w1, is_ref_wc 100 100 h, rfl⟩
    | false => exact ⟨.nili, w1, is_nil_wc 100 h, rfl⟩
  obtain ⟨er, w1', w2, y0⟩ := hw
  have y1 : (negIf true (!cl)) = cl := by cases cl <;> rfl
  refine call_body rfl rfl (.inl rfl) ?_
  -- the first test lets go on, whatever it is
  have first : ∀ {σ : Slots} {Q : AExit → St → Prop}, σ.get 8 = er → σ.get 9 = .bool cl → (∀ σ', (∀ m, m < 19 → σ'.get m = σ.get m) → Q .norm ⟨σ', h⟩) → wpc env (.seq (.ops a14_3) (.cond (.t 24) (.seq (.ops a14_4) .ret) .skip)) ⟨σ, h⟩ Q := by
    intro σ Q g8 g9 hQ
    cases cl with
    | true =>
      have y0' : aEq (.iface true) er .nili = some false := y0
      simp only [a14_3, wpc_skip, wpc_ops, wpc_draw, wpc_seq, wpc_cond, wpc_block, wpc_loop, wpc_exit, wpc_scope, wpc_ret, seqQ_norm, seqQ_ret, seqQ_exit, blockQ'_norm, blockQ'_ret, blockQ'_exit, roundQ_norm, roundQ_ret, roundQ_exit, condK_true, condK_false, wpo_nil', wpo_none, wpo_some, opsK_apply, guardK_tt, guardK_ff, guardK_tf, guardK_ft, wp1_call, callK_ret, wp1_mv', wp1_bin', wp1_un', wp1_eq', wp1_extract', wp1_pick', wp1_len', wp1_load', wp1_conv', wp1_store', wp1_idxAddr', wp1_append', wp1_mkIface', wp1_alloc', rd_t, rd_c, ok_t, ok_c, put_some, put_none, get_put, reduceIte, Nat.reduceEqDiff, AV.bool.injEq, Option.some.injEq, exists_eq_left', Option.map_some, Option.bind_some, opds_nil, opds_cons, opd_t, opd_c, aBin, aInt, decide_true, decide_false, negIf, wp1_nilCheck', wp1_fieldAddr', wp1_slice, op_slice, opdo_some, opdo_none, wp1_lit, op_lit, parts_nil, parts_cons, wp1_build, op_build, wp1_box, op_box, g8, g9, y0', Bool.not_false, aUn, Bool.not_true, aPick]
      refine hQ _ fun m hm => ?_
      simp only [get_put]
      repeat rw [if_neg (by omega)]
    | false =>
      have y0' : aEq (.iface true) er .nili = some true := y0
      simp only [a14_3, wpc_skip, wpc_ops, wpc_draw, wpc_seq, wpc_cond, wpc_block, wpc_loop, wpc_exit, wpc_scope, wpc_ret, seqQ_norm, seqQ_ret, seqQ_exit, blockQ'_norm, blockQ'_ret, blockQ'_exit, roundQ_norm, roundQ_ret, roundQ_exit, condK_true, condK_false, wpo_nil', wpo_none, wpo_some, opsK_apply, guardK_tt, guardK_ff, guardK_tf, guardK_ft, wp1_call, callK_ret, wp1_mv', wp1_bin', wp1_un', wp1_eq', wp1_extract', wp1_pick', wp1_len', wp1_load', wp1_conv', wp1_store', wp1_idxAddr', wp1_append', wp1_mkIface', wp1_alloc', rd_t, rd_c, ok_t, ok_c, put_some, put_none, get_put, reduceIte, Nat.reduceEqDiff, AV.bool.injEq, Option.some.injEq, exists_eq_left', Option.map_some, Option.bind_some, opds_nil, opds_cons, opd_t, opd_c, aBin, aInt, decide_true, decide_false, negIf, wp1_nilCheck', wp1_fieldAddr', wp1_slice, op_slice, opdo_some, opdo_none, wp1_lit, op_lit, parts_nil, parts_cons, wp1_build, op_build, wp1_box, op_box, g8, g9, y0', Bool.not_false, aUn, Bool.not_true, aPick]
      refine hQ _ fun m hm => ?_
      simp only [get_put]
      repeat rw [if_neg (by omega)]
  rw [a14]
  simp only [a14_0, a14_1, a14_2, Slots.ofList, wpc_skip, wpc_ops, wpc_draw, wpc_seq, wpc_cond, wpc_block, wpc_loop, wpc_exit, wpc_scope, wpc_ret, seqQ_norm, seqQ_ret, seqQ_exit, blockQ'_norm, blockQ'_ret, blockQ'_exit, roundQ_norm, roundQ_ret, roundQ_exit, condK_true, condK_false, wpo_nil', wpo_none, wpo_some, opsK_apply, guardK_tt, guardK_ff, guardK_tf, guardK_ft, wp1_call, callK_ret, wp1_mv', wp1_bin', wp1_un', wp1_eq', wp1_extract', wp1_pick', wp1_len', wp1_load', wp1_conv', wp1_store', wp1_idxAddr', wp1_append', wp1_mkIface', wp1_alloc', rd_t, rd_c, ok_t, ok_c, put_some, put_none, get_put, reduceIte, Nat.reduceEqDiff, AV.bool.injEq, Option.some.injEq, exists_eq_left', Option.map_some, Option.bind_some, opds_nil, opds_cons, opd_t, opd_c, aBin, aInt, decide_true, decide_false, negIf, wp1_nilCheck', wp1_fieldAddr', wp1_slice, op_slice, opdo_some, opdo_none, wp1_lit, op_lit, parts_nil, parts_cons, wp1_build, op_build, wp1_box, op_box, wc_eq w1', wc_eq w2]
  refine first (by simp only [get_put, reduceIte, Nat.reduceEqDiff]) (by simp only [get_put, reduceIte, Nat.reduceEqDiff]) fun σ1 s1 => ?_
  have q0 : σ1.get 0 = .ptr id 0 0 := by rw [s1 0 (by omega)]; simp only [get_put, reduceIte, Nat.reduceEqDiff]
  have q1 : σ1.get 1 = .int .i64 e := by rw [s1 1 (by omega)]; simp only [get_put, reduceIte, Nat.reduceEqDiff]
  have q2 : σ1.get 2 = .int .i64 n := by rw [s1 2 (by omega)]; simp only [get_put, reduceIte, Nat.reduceEqDiff]
  have q9 : σ1.get 9 = .bool cl := by rw [s1 9 (by omega)]; simp only [get_put, reduceIte, Nat.reduceEqDiff]
  by_cases c1 : n < 0
  · have hE : readE cl t n = some 1 := by simp only [readE, if_pos c1]
    have z1 : (n < 0) = True := eq_true c1
    rw [hE]
    simp only [a14_5, a14_6, wpc_skip, wpc_ops, wpc_draw, wpc_seq, wpc_cond, wpc_block, wpc_loop, wpc_exit, wpc_scope, wpc_ret, seqQ_norm, seqQ_ret, seqQ_exit, blockQ'_norm, blockQ'_ret, blockQ'_exit, roundQ_norm, roundQ_ret, roundQ_exit, condK_true, condK_false, wpo_nil', wpo_none, wpo_some, opsK_apply, guardK_tt, guardK_ff, guardK_tf, guardK_ft, wp1_call, callK_ret, wp1_mv', wp1_bin', wp1_un', wp1_eq', wp1_extract', wp1_pick', wp1_len', wp1_load', wp1_conv', wp1_store', wp1_idxAddr', wp1_append', wp1_mkIface', wp1_alloc', rd_t, rd_c, ok_t, ok_c, put_some, put_none, get_put, reduceIte, Nat.reduceEqDiff, AV.bool.injEq, Option.some.injEq, exists_eq_left', Option.map_some, Option.bind_some, opds_nil, opds_cons, opd_t, opd_c, aBin, aInt, decide_true, decide_false, negIf, wp1_nilCheck', wp1_fieldAddr', wp1_slice, op_slice, opdo_some, opdo_none, wp1_lit, op_lit, parts_nil, parts_cons, wp1_build, op_build, wp1_box, op_box, q2, z1, wc_eq (ref_spec _ _)]
    exact ⟨_, ret (v := .nils) (w := refV 1) (by simp only [get_put, reduceIte, Nat.reduceEqDiff]) (by simp only [get_put, reduceIte, Nat.reduceEqDiff]), .inl ⟨by simp, rfl⟩⟩
  have z1 : (n < 0) = False := eq_false c1
  obtain ⟨m, rfl⟩ : ∃ m : Nat, n = m := ⟨n.toNat, by omega⟩
  have l1 := se_c he k.hat
  have l2 := k.atc.lenOp (acc_len k.atc) h
  -- the second one too, if nothing is refused
  have second : ∀ {σ : Slots} {Q : AExit → St → Prop}, readE cl t m = none → σ.get 9 = .bool cl → σ.get 10 = .ptr id 0 (tb e) → (∀ σ', (∀ j, j < 34 → σ'.get j = σ.get j) → Q .norm ⟨σ', h⟩) → wpc env (.seq (.ops a14_8) (.cond (.t 42) (.seq (.ops a14_9) .ret) .skip)) ⟨σ, h⟩ Q := by
    intro σ Q hE g9 g10 hQ
    cases cl with
    | true =>
      have z2 : ((t.c.length : Int) == 0) = false := by
        simp only [readE, if_neg c1] at hE
        have : t.c ≠ [] := fun e => by rw [if_pos ⟨trivial, e⟩] at hE; cases hE
        have : t.c.length ≠ 0 := fun e => this (List.length_eq_zero_iff.1 e)
        simp only [beq_eq_false_iff_ne, ne_eq]; omega
      simp only [a14_8, wpc_skip, wpc_ops, wpc_draw, wpc_seq, wpc_cond, wpc_block, wpc_loop, wpc_exit, wpc_scope, wpc_ret, seqQ_norm, seqQ_ret, seqQ_exit, blockQ'_norm, blockQ'_ret, blockQ'_exit, roundQ_norm, roundQ_ret, roundQ_exit, condK_true, condK_false, wpo_nil', wpo_none, wpo_some, opsK_apply, guardK_tt, guardK_ff, guardK_tf, guardK_ft, wp1_call, callK_ret, wp1_mv', wp1_bin', wp1_un', wp1_eq', wp1_extract', wp1_pick', wp1_len', wp1_load', wp1_conv', wp1_store', wp1_idxAddr', wp1_append', wp1_mkIface', wp1_alloc', rd_t, rd_c, ok_t, ok_c, put_some, put_none, get_put, reduceIte, Nat.reduceEqDiff, AV.bool.injEq, Option.some.injEq, exists_eq_left', Option.map_some, Option.bind_some, opds_nil, opds_cons, opd_t, opd_c, aBin, aInt, decide_true, decide_false, negIf, wp1_nilCheck', wp1_fieldAddr', wp1_slice, op_slice, opdo_some, opdo_none, wp1_lit, op_lit, parts_nil, parts_cons, wp1_build, op_build, wp1_box, op_box, g9, g10, aNil_ptr, aFieldAddr, Nat.add_zero, l1, l2, z2, aPick]
      refine hQ _ fun m hm => ?_
      simp only [get_put]
      repeat rw [if_neg (by omega)]
    | false =>
      simp only [a14_8, wpc_skip, wpc_ops, wpc_draw, wpc_seq, wpc_cond, wpc_block, wpc_loop, wpc_exit, wpc_scope, wpc_ret, seqQ_norm, seqQ_ret, seqQ_exit, blockQ'_norm, blockQ'_ret, blockQ'_exit, roundQ_norm, roundQ_ret, roundQ_exit, condK_true, condK_false, wpo_nil', wpo_none, wpo_some, opsK_apply, guardK_tt, guardK_ff, guardK_tf, guardK_ft, wp1_call, callK_ret, wp1_mv', wp1_bin', wp1_un', wp1_eq', wp1_extract', wp1_pick', wp1_len', wp1_load', wp1_conv', wp1_store', wp1_idxAddr', wp1_append', wp1_mkIface', wp1_alloc', rd_t, rd_c, ok_t, ok_c, put_some, put_none, get_put, reduceIte, Nat.reduceEqDiff, AV.bool.injEq, Option.some.injEq, exists_eq_left', Option.map_some, Option.bind_some, opds_nil, opds_cons, opd_t, opd_c, aBin, aInt, decide_true, decide_false, negIf, wp1_nilCheck', wp1_fieldAddr', wp1_slice, op_slice, opdo_some, opdo_none, wp1_lit, op_lit, parts_nil, parts_cons, wp1_build, op_build, wp1_box, op_box, g9, g10, aPick]
      refine hQ _ fun m hm => ?_
      simp only [get_put]
      repeat rw [if_neg (by omega)]
  by_cases c2 : cl = true ∧ t.c = []
  · have hE : readE cl t m = some 8 := by simp only [readE, if_neg c1, if_pos c2]
    rw [hE]
    obtain ⟨rfl, hc⟩ := c2
    have z2 : ((t.c.length : Int) == 0) = true := by simp [hc]
    simp only [a14_5, a14_7, a14_8, a14_9, wpc_skip, wpc_ops, wpc_draw, wpc_seq, wpc_cond, wpc_block, wpc_loop, wpc_exit, wpc_scope, wpc_ret, seqQ_norm, seqQ_ret, seqQ_exit, blockQ'_norm, blockQ'_ret, blockQ'_exit, roundQ_norm, roundQ_ret, roundQ_exit, condK_true, condK_false, wpo_nil', wpo_none, wpo_some, opsK_apply, guardK_tt, guardK_ff, guardK_tf, guardK_ft, wp1_call, callK_ret, wp1_mv', wp1_bin', wp1_un', wp1_eq', wp1_extract', wp1_pick', wp1_len', wp1_load', wp1_conv', wp1_store', wp1_idxAddr', wp1_append', wp1_mkIface', wp1_alloc', rd_t, rd_c, ok_t, ok_c, put_some, put_none, get_put, reduceIte, Nat.reduceEqDiff, AV.bool.injEq, Option.some.injEq, exists_eq_left', Option.map_some, Option.bind_some, opds_nil, opds_cons, opd_t, opd_c, aBin, aInt, decide_true, decide_false, negIf, wp1_nilCheck', wp1_fieldAddr', wp1_slice, op_slice, opdo_some, opdo_none, wp1_lit, op_lit, parts_nil, parts_cons, wp1_build, op_build, wp1_box, op_box, wp1_idxAddrArr, op_idxAddrArr, q0, q1, q2, q9, z1, aNil_ptr, aFieldAddr, Nat.zero_add, Nat.add_zero, idx_this he, l1, l2, z2, aPick, wc_eq (ref_spec _ _)]
    exact ⟨_, ret (v := .nils) (w := refV 8) (by simp only [get_put, reduceIte, Nat.reduceEqDiff]) (by simp only [get_put, reduceIte, Nat.reduceEqDiff]), .inl ⟨by simp, rfl⟩⟩
  have hE : readE cl t m = none := by simp only [readE, if_neg c1, if_neg c2]
  rw [hE]
  obtain ⟨N, hN⟩ : ∃ N, N = readN t m := ⟨_, rfl⟩
  have hNl : N ≤ t.c.length := by rw [hN]; simp only [readN]; omega
  rw [← hN]
  have mn : aMinMax false (.int .i64 (m : Int)) (.int .i64 (t.c.length : Int)) = some (.int .i64 (N : Int)) := by
    simp only [aMinMax, if_pos, Option.some.injEq, AV.int.injEq, true_and]
    rw [hN]
    simp only [readN]
    split <;> omega
  simp only [a14_5, a14_7, wpc_skip, wpc_ops, wpc_draw, wpc_seq, wpc_cond, wpc_block, wpc_loop, wpc_exit, wpc_scope, wpc_ret, seqQ_norm, seqQ_ret, seqQ_exit, blockQ'_norm, blockQ'_ret, blockQ'_exit, roundQ_norm, roundQ_ret, roundQ_exit, condK_true, condK_false, wpo_nil', wpo_none, wpo_some, opsK_apply, guardK_tt, guardK_ff, guardK_tf, guardK_ft, wp1_call, callK_ret, wp1_mv', wp1_bin', wp1_un', wp1_eq', wp1_extract', wp1_pick', wp1_len', wp1_load', wp1_conv', wp1_store', wp1_idxAddr', wp1_append', wp1_mkIface', wp1_alloc', rd_t, rd_c, ok_t, ok_c, put_some, put_none, get_put, reduceIte, Nat.reduceEqDiff, AV.bool.injEq, Option.some.injEq, exists_eq_left', Option.map_some, Option.bind_some, opds_nil, opds_cons, opd_t, opd_c, aBin, aInt, decide_true, decide_false, negIf, wp1_nilCheck', wp1_fieldAddr', wp1_slice, op_slice, opdo_some, opdo_none, wp1_lit, op_lit, parts_nil, parts_cons, wp1_build, op_build, wp1_box, op_box, wp1_idxAddrArr, op_idxAddrArr, q0, q1, q2, z1, aNil_ptr, aFieldAddr, Nat.zero_add, Nat.add_zero, idx_this he]
  refine second hE (by simp only [get_put, reduceIte, Nat.reduceEqDiff, q9]) (by simp only [get_put, reduceIte, Nat.reduceEqDiff]) fun σ2 s2 => ?_
  have p2 : σ2.get 2 = .int .i64 (m : Int) := by rw [s2 2 (by omega)]; simp only [get_put, reduceIte, Nat.reduceEqDiff, q2]
  have p10 : σ2.get 10 = .ptr id 0 (tb e) := by rw [s2 10 (by omega)]; simp only [get_put, reduceIte, Nat.reduceEqDiff]
  obtain ⟨x, h', tc', bv, q, qx⟩ := read_tail ho k he hu hs hNl p2 p10 mn
  exact qx _ (fun σ' g6 g7 => ⟨_, ret g6 g7, .inr ⟨by simp, h', tc', bv, q.1, q.2.1, q.2.2.1, q.2.2.2.1, q.2.2.2.2.1, q.2.2.2.2.2.1, q.2.2.2.2.2.2, rfl⟩⟩)
end Go.St
