/-
  Numbers as terms: they are checked, copied and reckoned with.
-/
import Derived.Test.YtaielgjmhbjfhaaGreatDoorBfNames
set_option linter.unusedVariables false
set_option linter.unusedSimpArgs false
set_option maxRecDepth 20000
namespace Go.Bf
open Go.AM

/-- a number's cells -/
def ti (x : Int) : List AV := [.int .i64 1, .int .i64 x, .str [], .int .u32 0, .nils, .nils]
def zero6 : List AV := [.int .i64 0, .int .i64 0, .str [], .int .u32 0, .nils, .nils]
def Small (x : Int) : Prop := -576460752303423488 ≤ x ∧ x ≤ 576460752303423487

theorem num_spec (x : Int) (h : Heap) : WC env 59 [.int .i64 x] h (fun o => o = .ret ⟨.agg (ti x), h, .none⟩) := wc_run (n := 30) (by kernel_rfl)
theorem rint_spec (x : Int) (h : Heap) : WC env 22 [.int .i64 x] h (fun o => o = .ret ⟨.agg (ti x), h, .none⟩) := wc_run (n := 30) (by kernel_rfl)
theorem empty_int (x : Int) (h : Heap) : WC env 139 [.agg (ti x), .bool false, .bool false, .bool false] h (fun o => o = .ret ⟨.bool true, h, .none⟩) := wc_run (n := 30) (by kernel_rfl)
theorem copy_int (x : Int) (h : Heap) : WC env 39 [.agg (ti x)] h (fun o => o = .ret ⟨.agg (ti x), h, .none⟩) := wc_run (n := 30) (by kernel_rfl)

section
variable {h : Heap} {i : Nat} {a b c d e f : AV} (hat : h.at_ i 0 = some [a, b, c, d, e, f])
include hat
theorem ld6 : aLoad h true 6 (.ptr i 0 0) = some ⟨.agg [a, b, c, d, e, f], h, .read⟩ := by simp only [aLoad, hat, Option.bind_some]; rfl
theorem ld60 : aLoad h false 1 (.ptr i 0 0) = some ⟨a, h, .read⟩ := by simp only [aLoad, hat, Option.bind_some]; rfl
theorem ld61 : aLoad h false 1 (.ptr i 0 1) = some ⟨b, h, .read⟩ := by simp only [aLoad, hat, Option.bind_some]; rfl
theorem ld62 : aLoad h false 1 (.ptr i 0 2) = some ⟨c, h, .read⟩ := by simp only [aLoad, hat, Option.bind_some]; rfl
theorem ld63 : aLoad h false 1 (.ptr i 0 3) = some ⟨d, h, .read⟩ := by simp only [aLoad, hat, Option.bind_some]; rfl
theorem ld64 : aLoad h false 1 (.ptr i 0 4) = some ⟨e, h, .read⟩ := by simp only [aLoad, hat, Option.bind_some]; rfl
theorem ld65 : aLoad h false 1 (.ptr i 0 5) = some ⟨f, h, .read⟩ := by simp only [aLoad, hat, Option.bind_some]; rfl
theorem st6 {a' b' c' d' e' f' : AV} : aStore h 6 (.ptr i 0 0) (.agg [a', b', c', d', e', f']) = some ⟨.undef, h.upd i 0 [a', b', c', d', e', f'], .write⟩ := by
  simp only [aStore, hat, Option.bind_some, row_agg]; rfl
end
section
variable {h : Heap} {i : Nat} {a b : AV} (hat : h.at_ i 0 = some [a, b])
include hat
theorem ld20 : aLoad h false 1 (.ptr i 0 0) = some ⟨a, h, .read⟩ := by simp only [aLoad, hat, Option.bind_some]; rfl
theorem ld21 : aLoad h false 1 (.ptr i 0 1) = some ⟨b, h, .read⟩ := by simp only [aLoad, hat, Option.bind_some]; rfl
theorem st20 {k : IntKind} {n : Int} : aStore h 1 (.ptr i 0 0) (.int k n) = some ⟨.undef, h.upd i 0 [.int k n, b], .write⟩ := by
  simp only [aStore, hat, Option.bind_some]; rfl
theorem st21 {k : IntKind} {n : Int} : aStore h 1 (.ptr i 0 1) (.int k n) = some ⟨.undef, h.upd i 0 [a, .int k n], .write⟩ := by
  simp only [aStore, hat, Option.bind_some]; rfl
end
/-- an object of six cells, made and filled -/
theorem box6 {h : Heap} (ho : HeapOk h) (a b c d e f : AV) : ∃ h', aStore (h.new [.int .i64 0, .int .i64 0, .str [], .int .u32 0, .nils, .nils]) 6 (.ptr h.next 0 0) (.agg [a, b, c, d, e, f]) = some ⟨.undef, h', .write⟩ ∧ HeapOk h' ∧ h.le h' ∧ h'.at_ h.next 0 = some [a, b, c, d, e, f] := by
  obtain ⟨z, ez⟩ : ∃ z, z = [AV.int .i64 0, .int .i64 0, .str [], .int .u32 0, .nils, .nils] := ⟨_, rfl⟩
  rw [← ez]
  have hat : (h.new z).at_ h.next 0 = some z := at_new _
  refine ⟨(h.new z).upd h.next 0 [a, b, c, d, e, f], ?_, (ho.new _).upd (at_look.1 hat) _ _, ?_, at_upd⟩
  · simp only [aStore, hat, Option.bind_some, row_agg]
    rw [ez]; rfl
  · have c : Chg (fun i => i = h.next) h ((h.new z).upd h.next 0 [a, b, c, d, e, f]) := (le_new ho z).chg.trans (upd_chg rfl)
    exact ⟨c.1, fun id gen cs e => c.2 _ _ _ (fun x => by have := ho.lt e; omega) e⟩

theorem form_int {x : Int} (hx : Small x) (p : Int) (h : Heap) : WC env 130 [.agg (ti x), .int .i64 p] h (fun o => o = .ret ⟨.nili, h, .none⟩) := by
  refine call_pure rfl rfl rfl rfl ?_
  obtain ⟨h1, eh1⟩ : ∃ h1, h1 = Heap.empty.new (ti x) := ⟨_, rfl⟩
  have a1 : h1.at_ Heap.empty.next 0 = some (ti x) := by rw [eh1]; exact at_new _
  have y1 : (AV.agg (ti x)).row = some (ti x) := rfl
  have y2 : (ti x).length = 6 := rfl
  have l0 := ld60 a1
  have l1 := ld61 a1
  have l6 := ld6 a1
  have l6' : aLoad h1 true 6 (.ptr Heap.empty.next 0 0) = some ⟨.agg (ti x), h1, .read⟩ := l6
  have z0 : (1 : Int) == 1 := rfl
  have z1 : (x < -576460752303423488) = False := eq_false (by have := hx.1; omega)
  have z2 : (x > 576460752303423487) = False := eq_false (by have := hx.2; omega)
  have u1 : ((1 : Int) == 1) = true := rfl
  simp only [a130, a130_0, a130_1, a130_2, a130_3, a130_4, a130_17, a130_19, a130_20, a130_21, a130_22, a130_29, a130_31, Slots.ofList, wpc_skip, wpc_ops, wpc_draw, wpc_seq, wpc_cond, wpc_block, wpc_loop, wpc_exit, wpc_scope, wpc_ret, seqQ_norm, seqQ_ret, seqQ_exit, blockQ'_norm, blockQ'_ret, blockQ'_exit, roundQ_norm, roundQ_ret, roundQ_exit, condK_true, condK_false, wpo_nil', wpo_none, wpo_tt, wpo_ff, wpo_tf, wpo_ft, opsK_c, isC_none, isC_read, isC_write, wp1_call, callK_ret, wp1_mv', wp1_bin', wp1_un', wp1_eq', wp1_extract', wp1_pick', wp1_len', wp1_load', wp1_conv', wp1_store', wp1_idxAddr', wp1_append', wp1_mkIface', wp1_alloc', rd_t, rd_c, ok_t, ok_c, put_some, put_none, get_put, reduceIte, Nat.reduceEqDiff, AV.bool.injEq, Option.some.injEq, exists_eq_left', Option.map_some, Option.bind_some, opds_nil, opds_cons, opd_t, opd_c, aBin, aInt, decide_true, decide_false, negIf, wp1_nilCheck', wp1_fieldAddr', wp1_slice, op_slice, opdo_some, opdo_none, wp1_lit, op_lit, parts_nil, parts_cons, wp1_build, op_build, wp1_box, op_box, y1, y2, ← eh1, aFieldAddr, Nat.zero_add, l0, l1, l6', u1, wc_eq (empty_int _ _), aUn, Bool.not_true, z1, z2, aPick, eq_nil, Bool.not_false]
  exact ⟨[.nili], .nili, by simp only [Env.results, Option.map_some, get_put, reduceIte, Nat.reduceEqDiff], (frz_noRef rfl).2 rfl, rfl⟩

theorem walk_int {x : Int} (hx : Small x) {h : Heap} (ho : HeapOk h) {w : Nat} (aw : h.at_ w 0 = some [.int .i64 0, .int .i64 0]) : ∃ h', h'.at_ w 0 = some [.int .i64 1, .int .i64 1] ∧ WC env 97 [.ptr w 0 0, .agg (ti x), .int .i64 1] h (fun o => o = .ret ⟨.nili, h', .write⟩) := by
  have iw := ho.lt aw
  obtain ⟨h1, eh1⟩ : ∃ h1, h1 = h.new (ti x) := ⟨_, rfl⟩
  have ho1 : HeapOk h1 := by rw [eh1]; exact ho.new _
  have a1 : h1.at_ h.next 0 = some (ti x) := by rw [eh1]; exact at_new _
  have aw1 : h1.at_ w 0 = some [.int .i64 0, .int .i64 0] := by rw [eh1]; exact (le_new ho _).2 _ _ _ aw
  obtain ⟨h2, eh2⟩ : ∃ h2, h2 = h1.upd w 0 [.int .i64 1, .int .i64 0] := ⟨_, rfl⟩
  have aw2 : h2.at_ w 0 = some [.int .i64 1, .int .i64 0] := by rw [eh2]; exact at_upd
  have a2 : h2.at_ h.next 0 = some (ti x) := by rw [eh2, at_upd_ne (by omega)]; exact a1
  obtain ⟨h3, eh3⟩ : ∃ h3, h3 = h2.upd w 0 [.int .i64 1, .int .i64 1] := ⟨_, rfl⟩
  have aw3 : h3.at_ w 0 = some [.int .i64 1, .int .i64 1] := by rw [eh3]; exact at_upd
  have a3 : h3.at_ h.next 0 = some (ti x) := by rw [eh3, at_upd_ne (by omega)]; exact a2
  have y1 : (AV.agg (ti x)).row = some (ti x) := rfl
  have y2 : (ti x).length = 6 := rfl
  have l0 := ld20 aw1
  have l6 : aLoad h1 true 6 (.ptr h.next 0 0) = some ⟨.agg (ti x), h1, .read⟩ := ld6 a1
  have s1 : aStore h1 1 (.ptr w 0 0) (.int .i64 1) = some ⟨.undef, h2, .write⟩ := by rw [eh2]; exact st20 aw1
  have l1 := ld21 aw2
  have s2 : aStore h2 1 (.ptr w 0 1) (.int .i64 1) = some ⟨.undef, h3, .write⟩ := by rw [eh3]; exact st21 aw2
  have l5 := ld65 a3
  have z0 : ((0 : Int) == 4096) = false := rfl
  have z1 : ((1 : Int) > 256) = False := eq_false (by omega)
  have z2 : IntKind.wrap .i64 (0 + 1) = 1 := rfl
  have z3 : aMinMax true (.int .i64 0) (.int .i64 1) = some (.int .i64 1) := rfl
  have z4 : ((0 : Int) < 0) = False := eq_false (by omega)
  refine ⟨h3, aw3, call_body rfl rfl (.inr rfl) ?_⟩
  simp only [a97, a97_0, a97_1, a97_2, a97_4, a97_6, a97_7, a97_9, a97_10, a97_11, Slots.ofList, wpc_skip, wpc_ops, wpc_draw, wpc_seq, wpc_cond, wpc_block, wpc_loop, wpc_exit, wpc_scope, wpc_ret, seqQ_norm, seqQ_ret, seqQ_exit, blockQ'_norm, blockQ'_ret, blockQ'_exit, roundQ_norm, roundQ_ret, roundQ_exit, condK_true, condK_false, wpo_nil', wpo_none, wpo_tt, wpo_ff, wpo_tf, wpo_ft, opsK_c, isC_none, isC_read, isC_write, wp1_call, callK_ret, wp1_mv', wp1_bin', wp1_un', wp1_eq', wp1_extract', wp1_pick', wp1_len', wp1_load', wp1_conv', wp1_store', wp1_idxAddr', wp1_append', wp1_mkIface', wp1_alloc', rd_t, rd_c, ok_t, ok_c, put_some, put_none, get_put, reduceIte, Nat.reduceEqDiff, AV.bool.injEq, Option.some.injEq, exists_eq_left', Option.map_some, Option.bind_some, opds_nil, opds_cons, opd_t, opd_c, aBin, aInt, decide_true, decide_false, negIf, wp1_nilCheck', wp1_fieldAddr', wp1_slice, op_slice, opdo_some, opdo_none, wp1_lit, op_lit, parts_nil, parts_cons, wp1_build, op_build, wp1_box, op_box, wp1_minmax, op_minmax, y1, y2, ← eh1, aNil_ptr, aFieldAddr, Nat.zero_add, l0, l6, z0, z1, wc_eq (form_int hx _ _), eq_nil, Bool.not_true, z2, s1, l1, z3, s2, l5, aLenOp, aLen]
  refine wpr_round' fun b hb => ?_
  simp only [a97_l18, a97_12, a97_19, wpc_skip, wpc_ops, wpc_draw, wpc_seq, wpc_cond, wpc_block, wpc_loop, wpc_exit, wpc_scope, wpc_ret, seqQ_norm, seqQ_ret, seqQ_exit, blockQ'_norm, blockQ'_ret, blockQ'_exit, roundQ_norm, roundQ_ret, roundQ_exit, condK_true, condK_false, wpo_nil', wpo_none, wpo_tt, wpo_ff, wpo_tf, wpo_ft, opsK_c, isC_none, isC_read, isC_write, wp1_call, callK_ret, wp1_mv', wp1_bin', wp1_un', wp1_eq', wp1_extract', wp1_pick', wp1_len', wp1_load', wp1_conv', wp1_store', wp1_idxAddr', wp1_append', wp1_mkIface', wp1_alloc', rd_t, rd_c, ok_t, ok_c, put_some, put_none, get_put, reduceIte, Nat.reduceEqDiff, AV.bool.injEq, Option.some.injEq, exists_eq_left', Option.map_some, Option.bind_some, opds_nil, opds_cons, opd_t, opd_c, aBin, aInt, decide_true, decide_false, negIf, wp1_nilCheck', wp1_fieldAddr', wp1_slice, op_slice, opdo_some, opdo_none, wp1_lit, op_lit, parts_nil, parts_cons, wp1_build, op_build, wp1_box, op_box, z4]
  exact ⟨[.nili], by simp only [Env.results, Option.map_some, get_put, reduceIte, Nat.reduceEqDiff], rfl⟩

theorem measure_int {x : Int} (hx : Small x) (h : Heap) : WC env 54 [.agg (ti x)] h (fun o => o = .ret ⟨.tup [.int .i64 1, .int .i64 1, .nili], h, .none⟩) := by
  refine call_pure rfl rfl rfl rfl ?_
  obtain ⟨h1, eh1⟩ : ∃ h1, h1 = Heap.empty.new (ti x) := ⟨_, rfl⟩
  have ho1 : HeapOk h1 := by rw [eh1]; exact HeapOk.empty.new _
  have a1 : h1.at_ Heap.empty.next 0 = some (ti x) := by rw [eh1]; exact at_new _
  obtain ⟨h2, eh2⟩ : ∃ h2, h2 = h1.new [.int .i64 0, .int .i64 0] := ⟨_, rfl⟩
  have ho2 : HeapOk h2 := by rw [eh2]; exact ho1.new _
  have a2 : h2.at_ Heap.empty.next 0 = some (ti x) := by rw [eh2]; exact (le_new ho1 _).2 _ _ _ a1
  have aw2 : h2.at_ h1.next 0 = some [.int .i64 0, .int .i64 0] := by rw [eh2]; exact at_new _
  obtain ⟨h3, aw3, w3⟩ := walk_int hx ho2 aw2
  have y1 : (AV.agg (ti x)).row = some (ti x) := rfl
  have y2 : (ti x).length = 6 := rfl
  have l6 : aLoad h2 true 6 (.ptr Heap.empty.next 0 0) = some ⟨.agg (ti x), h2, .read⟩ := ld6 a2
  have l0 := ld20 aw3
  have l1 := ld21 aw3
  simp only [a54, a54_0, a54_1, a54_2, a54_3, a54_5, Slots.ofList, wpc_skip, wpc_ops, wpc_seq, wpc_cond, wpc_block, wpc_loop, wpc_exit, wpc_scope, wpc_ret, seqQ_norm, seqQ_ret, seqQ_exit, blockQ'_norm, blockQ'_ret, blockQ'_exit, roundQ_norm, roundQ_ret, roundQ_exit, condK_true, condK_false, wpo_nil', wpo_none, wpo_tt, wpo_ff, wpo_tf, wpo_ft, opsK_c, isC_none, isC_read, isC_write, wp1_call, callK_ret, wp1_mv', wp1_bin', wp1_un', wp1_eq', wp1_extract', wp1_pick', wp1_len', wp1_load', wp1_conv', wp1_store', wp1_idxAddr', wp1_append', wp1_mkIface', wp1_alloc', rd_t, rd_c, ok_t, ok_c, put_some, put_none, get_put, reduceIte, Nat.reduceEqDiff, AV.bool.injEq, Option.some.injEq, exists_eq_left', Option.map_some, Option.bind_some, opds_nil, opds_cons, opd_t, opd_c, aBin, aInt, decide_true, decide_false, negIf, wp1_nilCheck', wp1_fieldAddr', wp1_slice, op_slice, opdo_some, opdo_none, wp1_lit, op_lit, parts_nil, parts_cons, wp1_build, op_build, wp1_box, op_box, y1, y2, ← eh1, ← eh2, l6, wc_eq w3, eq_nil, Bool.not_true]
  refine wpc_draw_k ?_
  simp only [wpc_skip, wpc_ops, wpc_seq, wpc_cond, wpc_block, wpc_loop, wpc_exit, wpc_scope, wpc_ret, seqQ_norm, seqQ_ret, seqQ_exit, blockQ'_norm, blockQ'_ret, blockQ'_exit, roundQ_norm, roundQ_ret, roundQ_exit, condK_true, condK_false, wpo_nil', wpo_none, wpo_tt, wpo_ff, wpo_tf, wpo_ft, opsK_c, isC_none, isC_read, isC_write, wp1_call, callK_ret, wp1_mv', wp1_bin', wp1_un', wp1_eq', wp1_extract', wp1_pick', wp1_len', wp1_load', wp1_conv', wp1_store', wp1_idxAddr', wp1_append', wp1_mkIface', wp1_alloc', rd_t, rd_c, ok_t, ok_c, put_some, put_none, get_put, reduceIte, Nat.reduceEqDiff, AV.bool.injEq, Option.some.injEq, exists_eq_left', Option.map_some, Option.bind_some, opds_nil, opds_cons, opd_t, opd_c, aBin, aInt, decide_true, decide_false, negIf, wp1_nilCheck', wp1_fieldAddr', wp1_slice, op_slice, opdo_some, opdo_none, wp1_lit, op_lit, parts_nil, parts_cons, wp1_build, op_build, wp1_box, op_box, wpk_nil, wpk_none, wpk_tt, wpk_ff, wpk_tf, wpk_ft, clsK_c, logC_apply, drawC_apply, aFieldAddr, Nat.zero_add, l0, l1]
  refine ⟨rfl, ?_⟩
  exact ⟨[.int .i64 1, .int .i64 1, .nili], _, by simp only [Env.results, Option.map_some, get_put, reduceIte, Nat.reduceEqDiff], (frz_noRef (v := .tup [.int .i64 1, .int .i64 1, .nili]) rfl).2 rfl, rfl⟩

theorem check_int {x : Int} (hx : Small x) (h : Heap) : WC env 36 [.agg (ti x)] h (fun o => o = .ret ⟨.nili, h, .none⟩) := by
  refine call_pure rfl rfl rfl rfl ?_
  obtain ⟨h1, eh1⟩ : ∃ h1, h1 = Heap.empty.new (ti x) := ⟨_, rfl⟩
  have a1 : h1.at_ Heap.empty.next 0 = some (ti x) := by rw [eh1]; exact at_new _
  have y1 : (AV.agg (ti x)).row = some (ti x) := rfl
  have y2 : (ti x).length = 6 := rfl
  have l6 : aLoad h1 true 6 (.ptr Heap.empty.next 0 0) = some ⟨.agg (ti x), h1, .read⟩ := ld6 a1
  have x0 : ∀ a b c : AV, ([a, b, c] : List AV)[0]? = some a := fun _ _ _ => rfl
  have x1 : ∀ a b c : AV, ([a, b, c] : List AV)[1]? = some b := fun _ _ _ => rfl
  have x2 : ∀ a b c : AV, ([a, b, c] : List AV)[2]? = some c := fun _ _ _ => rfl
  simp only [a36, a36_0, a36_1, a36_2, Slots.ofList, wpc_skip, wpc_ops, wpc_draw, wpc_seq, wpc_cond, wpc_block, wpc_loop, wpc_exit, wpc_scope, wpc_ret, seqQ_norm, seqQ_ret, seqQ_exit, blockQ'_norm, blockQ'_ret, blockQ'_exit, roundQ_norm, roundQ_ret, roundQ_exit, condK_true, condK_false, wpo_nil', wpo_none, wpo_tt, wpo_ff, wpo_tf, wpo_ft, opsK_c, isC_none, isC_read, isC_write, wp1_call, callK_ret, wp1_mv', wp1_bin', wp1_un', wp1_eq', wp1_extract', wp1_pick', wp1_len', wp1_load', wp1_conv', wp1_store', wp1_idxAddr', wp1_append', wp1_mkIface', wp1_alloc', rd_t, rd_c, ok_t, ok_c, put_some, put_none, get_put, reduceIte, Nat.reduceEqDiff, AV.bool.injEq, Option.some.injEq, exists_eq_left', Option.map_some, Option.bind_some, opds_nil, opds_cons, opd_t, opd_c, aBin, aInt, decide_true, decide_false, negIf, wp1_nilCheck', wp1_fieldAddr', wp1_slice, op_slice, opdo_some, opdo_none, wp1_lit, op_lit, parts_nil, parts_cons, wp1_build, op_build, wp1_box, op_box, y1, y2, ← eh1, l6, wc_eq (measure_int hx _), aExtract, x0, x1, x2]
  exact ⟨[.nili], _, by simp only [Env.results, Option.map_some, get_put, reduceIte, Nat.reduceEqDiff], (frz_noRef (v := .nili) rfl).2 rfl, rfl⟩
end Go.Bf
