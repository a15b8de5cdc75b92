/-
  BifInts answers true.
-/
import Derived.Test.YtaielgjmhbjfhaaGreatDoorBfInts
set_option linter.unusedVariables false
set_option linter.unusedSimpArgs false
set_option maxRecDepth 20000
namespace Go.Bf
open Go.AM

def errB (c : Int) : AV := .ifc 69 (.fp [.str [98, 105, 102], .int .i64 0, .int .i64 c, .nili])
theorem refused_spec (c : Int) (h : Heap) : WC env 35 [.int .i64 0, .int .i64 c] h (fun o => o = .ret ⟨errB c, h, .none⟩) := wc_run (n := 30) (by kernel_rfl)

theorem call_round {h : Heap} {σ : Slots} {v : AV} {z : Int} {rest : List AV} {i : Nat} (ho : HeapOk h) (hz : Small z) (hi : i < 2) (hx : aIdxAddr 6 v (.int .i64 i) = some (.fp (ti z ++ rest))) (g25 : σ.get 25 = v) (g26 : σ.get 26 = .int .i64 2) (g27 : σ.get 27 = .int .i64 i)
    {Q : AExit → St → Prop} (hQ : ∀ σ' h', HeapOk h' → h.le h' → σ'.get 27 = .int .i64 ((i + 1 : Nat) : Int) → (∀ n, n < 8 ∨ n = 25 ∨ n = 26 → σ'.get n = σ.get n) → Q .norm ⟨σ', h'⟩) : wpc env a18_l13 ⟨σ, h⟩ Q := by
  have z0 : ((i : Int) < 2) = True := eq_true (by omega)
  have z1 : IntKind.wrap .i64 ((i : Int) + 1) = ((i + 1 : Nat) : Int) := wrap_nat (by omega) (by omega)
  have l0 := two_ld z rest h
  obtain ⟨h1, s1, ho1, hl1, a1⟩ := box6 ho (.int .i64 1) (.int .i64 z) (.str []) (.int .u32 0) .nils .nils
  have s1' : aStore (h.new [.int .i64 0, .int .i64 0, .str [], .int .u32 0, .nils, .nils]) 6 (.ptr h.next 0 0) (.agg (ti z)) = some ⟨.undef, h1, .write⟩ := s1
  have l1 : aLoad h1 true 6 (.ptr h.next 0 0) = some ⟨.agg (ti z), h1, .read⟩ := ld6 a1
  simp only [a18_l13, a18_5, a18_6, a18_7, a18_8, a18_12, wpc_skip, wpc_ops, wpc_draw, wpc_seq, wpc_cond, wpc_block, wpc_loop, wpc_exit, wpc_scope, wpc_ret, seqQ_norm, seqQ_ret, seqQ_exit, blockQ'_norm, blockQ'_ret, blockQ'_exit, roundQ_norm, roundQ_ret, roundQ_exit, condK_true, condK_false, wpo_nil', wpo_none, wpo_tt, wpo_ff, wpo_tf, wpo_ft, opsK_c, isC_none, isC_read, isC_write, wp1_call, callK_ret, wp1_mv', wp1_bin', wp1_un', wp1_eq', wp1_extract', wp1_pick', wp1_len', wp1_load', wp1_conv', wp1_store', wp1_idxAddr', wp1_append', wp1_mkIface', wp1_alloc', rd_t, rd_c, ok_t, ok_c, put_some, put_none, get_put, reduceIte, Nat.reduceEqDiff, AV.bool.injEq, Option.some.injEq, exists_eq_left', Option.map_some, Option.bind_some, opds_nil, opds_cons, opd_t, opd_c, aBin, aInt, decide_true, decide_false, negIf, wp1_nilCheck', wp1_fieldAddr', wp1_slice, op_slice, opdo_some, opdo_none, wp1_lit, op_lit, parts_nil, parts_cons, wp1_build, op_build, wp1_box, op_box, g25, g26, g27, z0, z1, hx, l0, s1', l1, wc_eq (check_int hz _), eq_nil, Bool.not_true]
  refine hQ _ _ ho1 hl1 (by simp only [get_put, reduceIte, Nat.reduceEqDiff]) fun n hn => ?_
  simp only [get_put]
  repeat rw [if_neg (by omega)]

theorem call_end {h : Heap} {σ : Slots} (g26 : σ.get 26 = .int .i64 2) (g27 : σ.get 27 = .int .i64 ((2 : Nat) : Int)) {Q : AExit → St → Prop} (hQ : ∀ σ', (∀ n, n < 8 ∨ n = 25 ∨ n = 26 → σ'.get n = σ.get n) → Q (.exit 0) ⟨σ', h⟩) : wpc env a18_l13 ⟨σ, h⟩ Q := by
  have z0 : (((2 : Nat) : Int) < 2) = False := eq_false (by omega)
  simp only [a18_l13, a18_5, wpc_skip, wpc_ops, wpc_draw, wpc_seq, wpc_cond, wpc_block, wpc_loop, wpc_exit, wpc_scope, wpc_ret, seqQ_norm, seqQ_ret, seqQ_exit, blockQ'_norm, blockQ'_ret, blockQ'_exit, roundQ_norm, roundQ_ret, roundQ_exit, condK_true, condK_false, wpo_nil', wpo_none, wpo_tt, wpo_ff, wpo_tf, wpo_ft, opsK_c, isC_none, isC_read, isC_write, wp1_call, callK_ret, wp1_mv', wp1_bin', wp1_un', wp1_eq', wp1_extract', wp1_pick', wp1_len', wp1_load', wp1_conv', wp1_store', wp1_idxAddr', wp1_append', wp1_mkIface', wp1_alloc', rd_t, rd_c, ok_t, ok_c, put_some, put_none, get_put, reduceIte, Nat.reduceEqDiff, AV.bool.injEq, Option.some.injEq, exists_eq_left', Option.map_some, Option.bind_some, opds_nil, opds_cons, opd_t, opd_c, aBin, aInt, decide_true, decide_false, negIf, wp1_nilCheck', wp1_fieldAddr', wp1_slice, op_slice, opdo_some, opdo_none, wp1_lit, op_lit, parts_nil, parts_cons, wp1_build, op_build, wp1_box, op_box, g26, g27, z0]
  refine hQ _ fun n hn => ?_
  simp only [get_put]
  repeat rw [if_neg (by omega)]

section
variable {name : List UInt8} {x y : Int} {a b c d : AV}
/-- up to the call proper -/
theorem call_head (hx : Small x) (hy : Small y) (hf : findV name 2 = .tup [.agg [a, b, c, d], .bool true]) {Q : AExit → St → Prop}
    (hQ : ∀ σ h i4, HeapOk h → h.at_ i4 0 = some zero6 → σ.get 0 = .str name → σ.get 1 = two x y → σ.get 4 = .ptr i4 0 0 →
      wpc env (.seq (.ops a18_14) (.seq (.seq (.ops a18_15) (.cond (.t 62) (.ops a18_16) .skip)) (.seq (.seq (.ops a18_17) (.cond (.t 64) (.seq (.ops a18_18) .ret) .skip)) (.seq (.ops a18_19) .ret)))) ⟨σ, h⟩ Q) :
    wpc env a18.body ⟨Slots.ofList 0 [.str name, two x y] .empty, .empty⟩ Q := by
  obtain ⟨h1, eh1⟩ : ∃ h1, h1 = Heap.empty.new [.int .i64 0, .int .i64 0, .str [], .int .u32 0, .nils, .nils] := ⟨_, rfl⟩
  have ho1 : HeapOk h1 := by rw [eh1]; exact HeapOk.empty.new _
  have a1 : h1.at_ Heap.empty.next 0 = some zero6 := by rw [eh1]; exact at_new _
  obtain ⟨h2, s2, ho2, hl2, a2⟩ := box4 ho1 a b c d
  have fs : ∀ h, WC env 13 [.str name, .int .i64 2] h (fun o => o = .ret ⟨.tup [.agg [a, b, c, d], .bool true], h, .none⟩) := fun h => by rw [← hf]; exact find_spec h name 2
  have eb : a18.body = (.seq (.ops a18_0) (.seq (.seq (.ops a18_1) (.seq (.ops a18_2) (.cond (.t 22) (.seq (.ops a18_3) .ret) .skip))) (.seq (.seq (.ops a18_4) (.block 0 (.loop a18_l13))) (.seq (.ops a18_14) (.seq (.seq (.ops a18_15) (.cond (.t 62) (.ops a18_16) .skip)) (.seq (.seq (.ops a18_17) (.cond (.t 64) (.seq (.ops a18_18) .ret) .skip)) (.seq (.ops a18_19) .ret))))))) := rfl
  rw [eb, wpc_seq]
  simp only [a18_0, a18_1, a18_2, a18_4, Slots.ofList, wpc_skip, wpc_ops, wpc_draw, wpc_seq, wpc_cond, wpc_block, wpc_loop, wpc_exit, wpc_scope, wpc_ret, seqQ_norm, seqQ_ret, seqQ_exit, blockQ'_norm, blockQ'_ret, blockQ'_exit, roundQ_norm, roundQ_ret, roundQ_exit, condK_true, condK_false, wpo_nil', wpo_none, wpo_tt, wpo_ff, wpo_tf, wpo_ft, opsK_c, isC_none, isC_read, isC_write, wp1_call, callK_ret, wp1_mv', wp1_bin', wp1_un', wp1_eq', wp1_extract', wp1_pick', wp1_len', wp1_load', wp1_conv', wp1_store', wp1_idxAddr', wp1_append', wp1_mkIface', wp1_alloc', rd_t, rd_c, ok_t, ok_c, put_some, put_none, get_put, reduceIte, Nat.reduceEqDiff, AV.bool.injEq, Option.some.injEq, exists_eq_left', Option.map_some, Option.bind_some, opds_nil, opds_cons, opd_t, opd_c, aBin, aInt, decide_true, decide_false, negIf, wp1_nilCheck', wp1_fieldAddr', wp1_slice, op_slice, opdo_some, opdo_none, wp1_lit, op_lit, parts_nil, parts_cons, wp1_build, op_build, wp1_box, op_box, ← eh1, two_len, wc_eq (fs _), aExtract, ex0, ex1, s2, aUn, Bool.not_true]
  refine wpr_round' fun q hq => call_round (v := two x y) (i := 0) ho2 hx (by omega) (two_0 x y) ?_ ?_ ?_ fun σ1 h3 ho3 hl3 g27 s1 => ?_
  · simp only [get_put, reduceIte, Nat.reduceEqDiff] <;> rfl
  · simp only [get_put, reduceIte, Nat.reduceEqDiff]
  · simp only [get_put, reduceIte, Nat.reduceEqDiff] <;> rfl
  subst hq
  show WPr env _ _ _
  refine wpr_round' fun q hq => call_round (v := two x y) (i := 1) ho3 hy (by omega) (two_1 x y) ?_ ?_ g27 fun σ2 h4 ho4 hl4 g27' s2' => ?_
  · rw [s1 25 (by omega)]; simp only [get_put, reduceIte, Nat.reduceEqDiff] <;> rfl
  · rw [s1 26 (by omega)]; simp only [get_put, reduceIte, Nat.reduceEqDiff]
  subst hq
  show WPr env _ _ _
  refine wpr_round' fun q hq => call_end ?_ g27' fun σ3 s3 => ?_
  · rw [s2' 26 (by omega), s1 26 (by omega)]; simp only [get_put, reduceIte, Nat.reduceEqDiff]
  have k : ∀ n, n < 8 → σ3.get n = σ1.get n := fun n hn => by rw [s3 n (.inl hn), s2' n (.inl hn)]
  refine hQ σ3 h4 Heap.empty.next ho4 (hl4.2 _ _ _ (hl3.2 _ _ _ (hl2.2 _ _ _ a1))) ?_ ?_ ?_
  · rw [k 0 (by omega), s1 0 (by omega)]; simp only [get_put, reduceIte, Nat.reduceEqDiff] <;> rfl
  · rw [k 1 (by omega), s1 1 (by omega)]; simp only [get_put, reduceIte, Nat.reduceEqDiff] <;> rfl
  · rw [k 4 (by omega), s1 4 (by omega)]; simp only [get_put, reduceIte, Nat.reduceEqDiff] <;> rfl

theorem call_good (hx : Small x) (hy : Small y) (hf : findV name 2 = .tup [.agg [a, b, c, d], .bool true]) {v : Int} (hv : Small v)
    (hc : ∀ h, WC env 38 [.str name, two x y] h (fun o => o = .ret ⟨.tup [.agg (ti v), .int .i64 0], h, .none⟩)) (h : Heap) : WC env 18 [.str name, .fs true 2 (ti x ++ ti y)] h (fun o => o = .ret ⟨.tup [.agg (ti v), .nili], h, .none⟩) := by
  refine call_pure rfl rfl rfl rfl (call_head hx hy hf fun σ h1 i4 ho1 a4 g0 g1 g4 => ?_)
  obtain ⟨h2, s2, ho2, hl2, a2⟩ := box6 ho1 (.int .i64 1) (.int .i64 v) (.str []) (.int .u32 0) .nils .nils
  have s2' : aStore (h1.new [.int .i64 0, .int .i64 0, .str [], .int .u32 0, .nils, .nils]) 6 (.ptr h1.next 0 0) (.agg (ti v)) = some ⟨.undef, h2, .write⟩ := s2
  have l2 : aLoad h2 true 6 (.ptr h1.next 0 0) = some ⟨.agg (ti v), h2, .read⟩ := ld6 a2
  have s3 : aStore h2 6 (.ptr i4 0 0) (.agg (ti v)) = some ⟨.undef, h2.upd i4 0 (ti v), .write⟩ := st6 (hl2.2 _ _ _ a4)
  have l6 : aLoad (h2.upd i4 0 (ti v)) true 6 (.ptr i4 0 0) = some ⟨.agg (ti v), h2.upd i4 0 (ti v), .read⟩ := ld6 at_upd
  have u0 : ((0 : Int) == 0) = true := rfl
  have u1 : ((0 : Int) != 0) = false := rfl
  simp only [a18_14, a18_15, a18_17, a18_19, wpc_skip, wpc_ops, wpc_draw, wpc_seq, wpc_cond, wpc_block, wpc_loop, wpc_exit, wpc_scope, wpc_ret, seqQ_norm, seqQ_ret, seqQ_exit, blockQ'_norm, blockQ'_ret, blockQ'_exit, roundQ_norm, roundQ_ret, roundQ_exit, condK_true, condK_false, wpo_nil', wpo_none, wpo_tt, wpo_ff, wpo_tf, wpo_ft, opsK_c, isC_none, isC_read, isC_write, wp1_call, callK_ret, wp1_mv', wp1_bin', wp1_un', wp1_eq', wp1_extract', wp1_pick', wp1_len', wp1_load', wp1_conv', wp1_store', wp1_idxAddr', wp1_append', wp1_mkIface', wp1_alloc', rd_t, rd_c, ok_t, ok_c, put_some, put_none, get_put, reduceIte, Nat.reduceEqDiff, AV.bool.injEq, Option.some.injEq, exists_eq_left', Option.map_some, Option.bind_some, opds_nil, opds_cons, opd_t, opd_c, aBin, aInt, decide_true, decide_false, negIf, wp1_nilCheck', wp1_fieldAddr', wp1_slice, op_slice, opdo_some, opdo_none, wp1_lit, op_lit, parts_nil, parts_cons, wp1_build, op_build, wp1_box, op_box, g0, g1, g4, wc_eq (hc _), aExtract, ex0, ex1, s2', u0, l2, wc_eq (check_int hv _), eq_nil, Bool.not_true, aPick, u1, wc_eq (copy_int _ _), s3]
  exact ⟨[.agg (ti v), .nili], .tup [.agg (ti v), .nili], by simp only [a18, Env.results, Option.map_some, get_put, reduceIte, Nat.reduceEqDiff, g4, l6, Option.bind_some] <;> rfl, (frz_noRef (v := .tup [.agg (ti v), .nili]) rfl).2 rfl, rfl⟩

theorem call_fail (hx : Small x) (hy : Small y) (hf : findV name 2 = .tup [.agg [a, b, c, d], .bool true])
    (hc : ∀ h, WC env 38 [.str name, two x y] h (fun o => o = .ret ⟨.tup [.agg zero6, .int .i64 262], h, .none⟩)) (h : Heap) : WC env 18 [.str name, .fs true 2 (ti x ++ ti y)] h (fun o => o = .ret ⟨.tup [.agg zero6, errB 262], h, .none⟩) := by
  refine call_pure rfl rfl rfl rfl (call_head hx hy hf fun σ h1 i4 ho1 a4 g0 g1 g4 => ?_)
  obtain ⟨h2, s2, ho2, hl2, a2⟩ := box6 ho1 (.int .i64 0) (.int .i64 0) (.str []) (.int .u32 0) .nils .nils
  have s2' : aStore (h1.new [.int .i64 0, .int .i64 0, .str [], .int .u32 0, .nils, .nils]) 6 (.ptr h1.next 0 0) (.agg zero6) = some ⟨.undef, h2, .write⟩ := s2
  have s3 : aStore h2 6 (.ptr i4 0 0) (.agg zero6) = some ⟨.undef, h2.upd i4 0 zero6, .write⟩ := st6 (hl2.2 _ _ _ a4)
  have l6 : aLoad (h2.upd i4 0 zero6) true 6 (.ptr i4 0 0) = some ⟨.agg zero6, h2.upd i4 0 zero6, .read⟩ := ld6 at_upd
  have y5 : aFill [.int .i64 0, .int .i64 0, .str [], .int .u32 0, .nils, .nils] [] = some zero6 := rfl
  have u0 : ((262 : Int) == 0) = false := rfl
  have u1 : ((262 : Int) != 0) = true := rfl
  simp only [a18_14, a18_15, a18_17, a18_18, wpc_skip, wpc_ops, wpc_draw, wpc_seq, wpc_cond, wpc_block, wpc_loop, wpc_exit, wpc_scope, wpc_ret, seqQ_norm, seqQ_ret, seqQ_exit, blockQ'_norm, blockQ'_ret, blockQ'_exit, roundQ_norm, roundQ_ret, roundQ_exit, condK_true, condK_false, wpo_nil', wpo_none, wpo_tt, wpo_ff, wpo_tf, wpo_ft, opsK_c, isC_none, isC_read, isC_write, wp1_call, callK_ret, wp1_mv', wp1_bin', wp1_un', wp1_eq', wp1_extract', wp1_pick', wp1_len', wp1_load', wp1_conv', wp1_store', wp1_idxAddr', wp1_append', wp1_mkIface', wp1_alloc', rd_t, rd_c, ok_t, ok_c, put_some, put_none, get_put, reduceIte, Nat.reduceEqDiff, AV.bool.injEq, Option.some.injEq, exists_eq_left', Option.map_some, Option.bind_some, opds_nil, opds_cons, opd_t, opd_c, aBin, aInt, decide_true, decide_false, negIf, wp1_nilCheck', wp1_fieldAddr', wp1_slice, op_slice, opdo_some, opdo_none, wp1_lit, op_lit, parts_nil, parts_cons, wp1_build, op_build, wp1_box, op_box, g0, g1, g4, wc_eq (hc _), aExtract, ex0, ex1, s2', u0, aPick, u1, y5, wc_eq (refused_spec _ _), s3]
  exact ⟨[.agg zero6, errB 262], .tup [.agg zero6, errB 262], by simp only [a18, Env.results, Option.map_some, get_put, reduceIte, Nat.reduceEqDiff, g4, l6, Option.bind_some] <;> rfl, (frz_noRef (v := .tup [.agg zero6, errB 262]) rfl).2 rfl, rfl⟩
end

theorem find_rem : findV [114, 101, 109] 2 = .tup [.agg [.str [114, 101, 109], .int .i64 2, .int .i64 1, .bool true], .bool true] := by rfl
theorem find_div : findV [100, 105, 118] 2 = .tup [.agg [.str [100, 105, 118], .int .i64 2, .int .i64 1, .bool true], .bool true] := by rfl
theorem find_mul : findV [42] 2 = .tup [.agg [.str [42], .int .i64 2, .int .i64 1, .bool true], .bool true] := by rfl
theorem find_add : findV [43] 2 = .tup [.agg [.str [43], .int .i64 2, .int .i64 1, .bool true], .bool true] := by rfl

theorem small_rem {x y : Int} (hx : Small x) : Small (x.tmod y) := by
  have h1 : (x.tmod y).natAbs ≤ x.natAbs := by rw [Int.natAbs_tmod]; exact Nat.mod_le _ _
  obtain ⟨p, q⟩ := hx
  by_cases c : 0 ≤ x
  · have := Int.tmod_nonneg y c
    constructor <;> omega
  · have h2 := Int.tmod_nonneg y (show 0 ≤ -x by omega)
    rw [Int.neg_tmod] at h2
    constructor <;> omega
theorem aEq_errB (c : Int) : aEq (.iface true) (errB c) .nili = some false := rfl
theorem fill12 (x y : Int) : aFill [.int .i64 0, .int .i64 0, .str [], .int .u32 0, .nils, .nils, .int .i64 0, .int .i64 0, .str [], .int .u32 0, .nils, .nils] [(0, 6, .agg (ti x)), (6, 6, .agg (ti y))] = some (ti x ++ ti y) := rfl
theorem len12 (x y : Int) : (ti x ++ ti y).length = 12 := rfl

theorem small_div {x y : Int} (hx : Small x) (h : ¬ Small (x.tdiv y)) : x = -576460752303423488 ∧ y = -1 := by
  have h1 := Int.natAbs_tdiv_le_natAbs x y
  obtain ⟨p, q⟩ := hx
  have h3 : x.tdiv y = 576460752303423488 := by
    have : ¬ (-576460752303423488 ≤ x.tdiv y ∧ x.tdiv y ≤ 576460752303423487) := h
    omega
  have hx2 : x = -576460752303423488 := by omega
  refine ⟨hx2, ?_⟩
  have h4 := Int.natAbs_tdiv x y
  rw [h3, hx2] at h4
  have h5 : (576460752303423488 : Nat) = 576460752303423488 / y.natAbs := h4
  have h6 : y.natAbs = 1 := by
    rcases Nat.lt_or_ge y.natAbs 2 with c | c
    · rcases Nat.eq_zero_or_pos y.natAbs with e | e
      · rw [e] at h5; simp at h5
      · omega
    · have := Nat.div_le_div_left c (show 0 < 2 by omega) (a := 576460752303423488)
      omega
  rcases Int.natAbs_eq y with e | e
  · rw [h6] at e
    rw [e, hx2] at h3
    exact absurd h3 (by decide)
  · rw [h6] at e
    exact e
theorem back {x y : Int} (hy : y ≠ 0) : x.tdiv y * y + x.tmod y = x := by
  rw [Int.tmod_def, Int.mul_comm y]
  generalize x.tdiv y * y = q
  omega

theorem ints_spec (x y : Int) : WC env 6 [.int .i64 x, .int .i64 y] .empty (fun o => ∃ h', o = .ret ⟨.bool true, h', .write⟩) := by
  refine call_body rfl rfl (.inl rfl) ?_
  obtain ⟨h0, e0⟩ : ∃ h0, h0 = Heap.empty.new [.int .i64 0, .int .i64 0, .str [], .int .u32 0, .nils, .nils] := ⟨_, rfl⟩
  have ho0 : HeapOk h0 := by rw [e0]; exact HeapOk.empty.new _
  have b0 : h0.at_ Heap.empty.next 0 = some zero6 := by rw [e0]; exact at_new _
  obtain ⟨h1, e1⟩ : ∃ h1, h1 = h0.new [.int .i64 0, .int .i64 0, .str [], .int .u32 0, .nils, .nils] := ⟨_, rfl⟩
  have ho1 : HeapOk h1 := by rw [e1]; exact ho0.new _
  have b1 : h1.at_ Heap.empty.next 0 = some zero6 := by rw [e1]; exact (le_new ho0 _).2 _ _ _ b0
  have c1 : h1.at_ h0.next 0 = some zero6 := by rw [e1]; exact at_new _
  have lt0 : Heap.empty.next < h0.next := ho0.lt b0
  obtain ⟨h2, e2⟩ : ∃ h2, h2 = h1.upd Heap.empty.next 0 (ti x) := ⟨_, rfl⟩
  have s1 : aStore h1 6 (.ptr Heap.empty.next 0 0) (.agg (ti x)) = some ⟨.undef, h2, .write⟩ := by rw [e2]; exact st6 b1
  have ho2 : HeapOk h2 := by rw [e2]; exact ho1.upd (at_look.1 b1) _ _
  have b2 : h2.at_ Heap.empty.next 0 = some (ti x) := by rw [e2]; exact at_upd
  have c2 : h2.at_ h0.next 0 = some zero6 := by rw [e2, at_upd_ne (by omega)]; exact c1
  obtain ⟨h3, e3⟩ : ∃ h3, h3 = h2.upd h0.next 0 (ti y) := ⟨_, rfl⟩
  have s2 : aStore h2 6 (.ptr h0.next 0 0) (.agg (ti y)) = some ⟨.undef, h3, .write⟩ := by rw [e3]; exact st6 c2
  have ho3 : HeapOk h3 := by rw [e3]; exact ho2.upd (at_look.1 c2) _ _
  have c3 : h3.at_ h0.next 0 = some (ti y) := by rw [e3]; exact at_upd
  have b3 : h3.at_ Heap.empty.next 0 = some (ti x) := by rw [e3, at_upd_ne (by omega)]; exact b2
  obtain ⟨ix, eix⟩ : ∃ ix, ix = Heap.empty.next := ⟨_, rfl⟩
  obtain ⟨iy, eiy⟩ : ∃ iy, iy = h0.next := ⟨_, rfl⟩
  rw [← eix] at b3 s1
  rw [← eiy] at c3 s2
  have lx3 : aLoad h3 true 6 (.ptr ix 0 0) = some ⟨.agg (ti x), h3, .read⟩ := ld6 b3
  have ly3 : aLoad h3 true 6 (.ptr iy 0 0) = some ⟨.agg (ti y), h3, .read⟩ := ld6 c3
  have fin : ∀ {σ : Slots} {h : Heap}, σ.get 4 = .bool true → retQ env a6.results (fun o => ∃ h', o = .ret ⟨.bool true, h', .write⟩) .ret ⟨σ, h⟩ := fun {σ h} g => ⟨[.bool true], by simp only [a6, Env.results, Option.map_some, g], _, rfl⟩
  have eb : a6.body = _ := rfl
  by_cases hc : Small x ∧ Small y ∧ y ≠ 0
  · obtain ⟨hx, hy, hy0⟩ := hc
    have z1 : (x < -576460752303423488) = False := eq_false (by have := hx.1; omega)
    have z2 : (x > 576460752303423487) = False := eq_false (by have := hx.2; omega)
    have z3 : (y < -576460752303423488) = False := eq_false (by have := hy.1; omega)
    have z4 : (y > 576460752303423487) = False := eq_false (by have := hy.2; omega)
    have z5 : (y == 0) = false := by simpa using hy0
    have hr := small_rem (y := y) hx
    have wr := call_good hx hy find_rem hr (call_rem (fun h => reckon_rem hx hy hy0 hr h) rfl)
    obtain ⟨h4, s4, ho4, l4, a4⟩ := box6 ho3 (.int .i64 1) (.int .i64 (x.tmod y)) (.str []) (.int .u32 0) .nils .nils
    have s4' : aStore (h3.new [.int .i64 0, .int .i64 0, .str [], .int .u32 0, .nils, .nils]) 6 (.ptr h3.next 0 0) (.agg (ti (x.tmod y))) = some ⟨.undef, h4, .write⟩ := s4
    have lx4 : aLoad h4 true 6 (.ptr ix 0 0) = some ⟨.agg (ti x), h4, .read⟩ := ld6 (l4.2 _ _ _ b3)
    have ly4 : aLoad h4 true 6 (.ptr iy 0 0) = some ⟨.agg (ti y), h4, .read⟩ := ld6 (l4.2 _ _ _ c3)
    have f1 := fill12 x y
    have f2 := len12 x y
    by_cases hq : Small (x.tdiv y)
    · have wq := call_good hx hy find_div hq (call_div (fun h => reckon_div hx hy hy0 hq h) rfl)
      obtain ⟨h5, s5, ho5, l5, a5⟩ := box6 ho4 (.int .i64 1) (.int .i64 (x.tdiv y)) (.str []) (.int .u32 0) .nils .nils
      have s5' : aStore (h4.new [.int .i64 0, .int .i64 0, .str [], .int .u32 0, .nils, .nils]) 6 (.ptr h4.next 0 0) (.agg (ti (x.tdiv y))) = some ⟨.undef, h5, .write⟩ := s5
      have lq5 : aLoad h5 true 6 (.ptr h4.next 0 0) = some ⟨.agg (ti (x.tdiv y)), h5, .read⟩ := ld6 a5
      have ly5 : aLoad h5 true 6 (.ptr iy 0 0) = some ⟨.agg (ti y), h5, .read⟩ := ld6 (l5.2 _ _ _ (l4.2 _ _ _ c3))
      have hp : Small (x.tdiv y * y) := by
        have e := back (x := x) hy0
        have h1 : (x.tmod y).natAbs ≤ x.natAbs := by rw [Int.natAbs_tmod]; exact Nat.mod_le _ _
        obtain ⟨p, q⟩ := hx
        by_cases c : 0 ≤ x
        · have := Int.tmod_nonneg y c
          constructor <;> omega
        · have h2 := Int.tmod_nonneg y (show 0 ≤ -x by omega)
          rw [Int.neg_tmod] at h2
          constructor <;> omega
      have wp := call_good hq hy find_mul hp (call_mul (fun h => reckon_mul hq hy hy0 hp h) rfl)
      obtain ⟨h6, s6, ho6, l6, a6'⟩ := box6 ho5 (.int .i64 1) (.int .i64 (x.tdiv y * y)) (.str []) (.int .u32 0) .nils .nils
      have s6' : aStore (h5.new [.int .i64 0, .int .i64 0, .str [], .int .u32 0, .nils, .nils]) 6 (.ptr h5.next 0 0) (.agg (ti (x.tdiv y * y))) = some ⟨.undef, h6, .write⟩ := s6
      have lp6 : aLoad h6 true 6 (.ptr h5.next 0 0) = some ⟨.agg (ti (x.tdiv y * y)), h6, .read⟩ := ld6 a6'
      have lr6 : aLoad h6 true 6 (.ptr h3.next 0 0) = some ⟨.agg (ti (x.tmod y)), h6, .read⟩ := ld6 (l6.2 _ _ _ (l5.2 _ _ _ a4))
      have hs : Small (x.tdiv y * y + x.tmod y) := by rw [back hy0]; exact hx
      have ws := call_good hp hr find_add hs (call_add (fun h => reckon_add hp hr hs h) rfl)
      obtain ⟨h7, s7, ho7, l7, a7⟩ := box6 ho6 (.int .i64 1) (.int .i64 (x.tdiv y * y + x.tmod y)) (.str []) (.int .u32 0) .nils .nils
      have s7' : aStore (h6.new [.int .i64 0, .int .i64 0, .str [], .int .u32 0, .nils, .nils]) 6 (.ptr h6.next 0 0) (.agg (ti (x.tdiv y * y + x.tmod y))) = some ⟨.undef, h7, .write⟩ := s7
      have ls7 := ld61 a7
      have z6 : (x.tdiv y * y + x.tmod y == x) = true := by rw [back hy0]; simp
      have f3 := fill12 (x.tdiv y) y
      have f4 := len12 (x.tdiv y) y
      have f5 := fill12 (x.tdiv y * y) (x.tmod y)
      have f6 := len12 (x.tdiv y * y) (x.tmod y)
      simp only [a6, a6_0, a6_1, a6_2, a6_4, a6_5, a6_6, a6_8, a6_9, a6_10, Slots.ofList, wpc_skip, wpc_ops, wpc_draw, wpc_seq, wpc_cond, wpc_block, wpc_loop, wpc_exit, wpc_scope, wpc_ret, seqQ_norm, seqQ_ret, seqQ_exit, blockQ'_norm, blockQ'_ret, blockQ'_exit, roundQ_norm, roundQ_ret, roundQ_exit, condK_true, condK_false, wpo_nil', wpo_none, wpo_tt, wpo_ff, wpo_tf, wpo_ft, opsK_c, isC_none, isC_read, isC_write, wp1_call, callK_ret, wp1_mv', wp1_bin', wp1_un', wp1_eq', wp1_extract', wp1_pick', wp1_len', wp1_load', wp1_conv', wp1_store', wp1_idxAddr', wp1_append', wp1_mkIface', wp1_alloc', rd_t, rd_c, ok_t, ok_c, put_some, put_none, get_put, reduceIte, Nat.reduceEqDiff, AV.bool.injEq, Option.some.injEq, exists_eq_left', Option.map_some, Option.bind_some, opds_nil, opds_cons, opd_t, opd_c, aBin, aInt, decide_true, decide_false, negIf, wp1_nilCheck', wp1_fieldAddr', wp1_slice, op_slice, opdo_some, opdo_none, wp1_lit, op_lit, parts_nil, parts_cons, wp1_build, op_build, wp1_box, op_box, wc_eq (rint_spec _ _), ← e0, ← e1, ← eix, ← eiy, s1, s2, z1, z2, z3, z4, z5, aPick, lx3, ly3, f1, f2, wc_eq (wr _), aExtract, ex0, ex1, s4', lx4, ly4, wc_eq (wq _), s5', eq_nil, Bool.not_true, lq5, ly5, f3, f4, wc_eq (wp _), s6', lp6, lr6, f5, f6, wc_eq (ws _), s7', aFieldAddr, Nat.zero_add, ls7, z6, wc_eq (alive_spec _)]
      exact ⟨[.bool true], by simp only [Env.results, Option.map_some, get_put, reduceIte, Nat.reduceEqDiff], _, rfl⟩
    · obtain ⟨rfl, rfl⟩ := small_div hx hq
      have wq := call_fail hx hy find_div (call_div (fun h => reckon_div_bad hx hy hy0 hq h) rfl)
      obtain ⟨h5, s5, ho5, l5, a5⟩ := box6 ho4 (.int .i64 0) (.int .i64 0) (.str []) (.int .u32 0) .nils .nils
      have s5' : aStore (h4.new [.int .i64 0, .int .i64 0, .str [], .int .u32 0, .nils, .nils]) 6 (.ptr h4.next 0 0) (.agg zero6) = some ⟨.undef, h5, .write⟩ := s5
      have z6 : ((-576460752303423488 : Int) == -576460752303423488) = true := rfl
      have z7 : ((-1 : Int) == -1) = true := rfl
      simp only [a6, a6_0, a6_1, a6_2, a6_4, a6_5, a6_6, a6_7, Slots.ofList, wpc_skip, wpc_ops, wpc_draw, wpc_seq, wpc_cond, wpc_block, wpc_loop, wpc_exit, wpc_scope, wpc_ret, seqQ_norm, seqQ_ret, seqQ_exit, blockQ'_norm, blockQ'_ret, blockQ'_exit, roundQ_norm, roundQ_ret, roundQ_exit, condK_true, condK_false, wpo_nil', wpo_none, wpo_tt, wpo_ff, wpo_tf, wpo_ft, opsK_c, isC_none, isC_read, isC_write, wp1_call, callK_ret, wp1_mv', wp1_bin', wp1_un', wp1_eq', wp1_extract', wp1_pick', wp1_len', wp1_load', wp1_conv', wp1_store', wp1_idxAddr', wp1_append', wp1_mkIface', wp1_alloc', rd_t, rd_c, ok_t, ok_c, put_some, put_none, get_put, reduceIte, Nat.reduceEqDiff, AV.bool.injEq, Option.some.injEq, exists_eq_left', Option.map_some, Option.bind_some, opds_nil, opds_cons, opd_t, opd_c, aBin, aInt, decide_true, decide_false, negIf, wp1_nilCheck', wp1_fieldAddr', wp1_slice, op_slice, opdo_some, opdo_none, wp1_lit, op_lit, parts_nil, parts_cons, wp1_build, op_build, wp1_box, op_box, wc_eq (rint_spec _ _), ← e0, ← e1, ← eix, ← eiy, s1, s2, z1, z2, z3, z4, z5, aPick, lx3, ly3, f1, f2, wc_eq (wr _), aExtract, ex0, ex1, s4', lx4, ly4, wc_eq (wq _), s5', eq_nil, aEq_errB, Bool.not_true, Bool.not_false, z6, z7, wc_eq (alive_spec _)]
      exact ⟨[.bool true], by simp only [Env.results, Option.map_some, get_put, reduceIte, Nat.reduceEqDiff], _, rfl⟩
  · have go : ∀ {t : Bool} {Q : AExit → St → Prop}, True := trivial
    by_cases c1 : x < -576460752303423488
    · have z1 : (x < -576460752303423488) = True := eq_true c1
      simp only [a6, a6_0, a6_1, a6_2, a6_3, Slots.ofList, wpc_skip, wpc_ops, wpc_draw, wpc_seq, wpc_cond, wpc_block, wpc_loop, wpc_exit, wpc_scope, wpc_ret, seqQ_norm, seqQ_ret, seqQ_exit, blockQ'_norm, blockQ'_ret, blockQ'_exit, roundQ_norm, roundQ_ret, roundQ_exit, condK_true, condK_false, wpo_nil', wpo_none, wpo_tt, wpo_ff, wpo_tf, wpo_ft, opsK_c, isC_none, isC_read, isC_write, wp1_call, callK_ret, wp1_mv', wp1_bin', wp1_un', wp1_eq', wp1_extract', wp1_pick', wp1_len', wp1_load', wp1_conv', wp1_store', wp1_idxAddr', wp1_append', wp1_mkIface', wp1_alloc', rd_t, rd_c, ok_t, ok_c, put_some, put_none, get_put, reduceIte, Nat.reduceEqDiff, AV.bool.injEq, Option.some.injEq, exists_eq_left', Option.map_some, Option.bind_some, opds_nil, opds_cons, opd_t, opd_c, aBin, aInt, decide_true, decide_false, negIf, wp1_nilCheck', wp1_fieldAddr', wp1_slice, op_slice, opdo_some, opdo_none, wp1_lit, op_lit, parts_nil, parts_cons, wp1_build, op_build, wp1_box, op_box, wc_eq (rint_spec _ _), ← e0, ← e1, ← eix, ← eiy, s1, s2, z1, aPick, wc_eq (alive_spec _)]
      exact ⟨[.bool true], by simp only [Env.results, Option.map_some, get_put, reduceIte, Nat.reduceEqDiff], _, rfl⟩
    have z1 : (x < -576460752303423488) = False := eq_false c1
    by_cases c2 : x > 576460752303423487
    · have z2 : (x > 576460752303423487) = True := eq_true c2
      simp only [a6, a6_0, a6_1, a6_2, a6_3, Slots.ofList, wpc_skip, wpc_ops, wpc_draw, wpc_seq, wpc_cond, wpc_block, wpc_loop, wpc_exit, wpc_scope, wpc_ret, seqQ_norm, seqQ_ret, seqQ_exit, blockQ'_norm, blockQ'_ret, blockQ'_exit, roundQ_norm, roundQ_ret, roundQ_exit, condK_true, condK_false, wpo_nil', wpo_none, wpo_tt, wpo_ff, wpo_tf, wpo_ft, opsK_c, isC_none, isC_read, isC_write, wp1_call, callK_ret, wp1_mv', wp1_bin', wp1_un', wp1_eq', wp1_extract', wp1_pick', wp1_len', wp1_load', wp1_conv', wp1_store', wp1_idxAddr', wp1_append', wp1_mkIface', wp1_alloc', rd_t, rd_c, ok_t, ok_c, put_some, put_none, get_put, reduceIte, Nat.reduceEqDiff, AV.bool.injEq, Option.some.injEq, exists_eq_left', Option.map_some, Option.bind_some, opds_nil, opds_cons, opd_t, opd_c, aBin, aInt, decide_true, decide_false, negIf, wp1_nilCheck', wp1_fieldAddr', wp1_slice, op_slice, opdo_some, opdo_none, wp1_lit, op_lit, parts_nil, parts_cons, wp1_build, op_build, wp1_box, op_box, wc_eq (rint_spec _ _), ← e0, ← e1, ← eix, ← eiy, s1, s2, z1, z2, aPick, wc_eq (alive_spec _)]
      exact ⟨[.bool true], by simp only [Env.results, Option.map_some, get_put, reduceIte, Nat.reduceEqDiff], _, rfl⟩
    have z2 : (x > 576460752303423487) = False := eq_false c2
    by_cases c3' : y < -576460752303423488
    · have z3 : (y < -576460752303423488) = True := eq_true c3'
      simp only [a6, a6_0, a6_1, a6_2, a6_3, Slots.ofList, wpc_skip, wpc_ops, wpc_draw, wpc_seq, wpc_cond, wpc_block, wpc_loop, wpc_exit, wpc_scope, wpc_ret, seqQ_norm, seqQ_ret, seqQ_exit, blockQ'_norm, blockQ'_ret, blockQ'_exit, roundQ_norm, roundQ_ret, roundQ_exit, condK_true, condK_false, wpo_nil', wpo_none, wpo_tt, wpo_ff, wpo_tf, wpo_ft, opsK_c, isC_none, isC_read, isC_write, wp1_call, callK_ret, wp1_mv', wp1_bin', wp1_un', wp1_eq', wp1_extract', wp1_pick', wp1_len', wp1_load', wp1_conv', wp1_store', wp1_idxAddr', wp1_append', wp1_mkIface', wp1_alloc', rd_t, rd_c, ok_t, ok_c, put_some, put_none, get_put, reduceIte, Nat.reduceEqDiff, AV.bool.injEq, Option.some.injEq, exists_eq_left', Option.map_some, Option.bind_some, opds_nil, opds_cons, opd_t, opd_c, aBin, aInt, decide_true, decide_false, negIf, wp1_nilCheck', wp1_fieldAddr', wp1_slice, op_slice, opdo_some, opdo_none, wp1_lit, op_lit, parts_nil, parts_cons, wp1_build, op_build, wp1_box, op_box, wc_eq (rint_spec _ _), ← e0, ← e1, ← eix, ← eiy, s1, s2, z1, z2, z3, aPick, wc_eq (alive_spec _)]
      exact ⟨[.bool true], by simp only [Env.results, Option.map_some, get_put, reduceIte, Nat.reduceEqDiff], _, rfl⟩
    have z3 : (y < -576460752303423488) = False := eq_false c3'
    by_cases c4 : y > 576460752303423487
    · have z4 : (y > 576460752303423487) = True := eq_true c4
      simp only [a6, a6_0, a6_1, a6_2, a6_3, Slots.ofList, wpc_skip, wpc_ops, wpc_draw, wpc_seq, wpc_cond, wpc_block, wpc_loop, wpc_exit, wpc_scope, wpc_ret, seqQ_norm, seqQ_ret, seqQ_exit, blockQ'_norm, blockQ'_ret, blockQ'_exit, roundQ_norm, roundQ_ret, roundQ_exit, condK_true, condK_false, wpo_nil', wpo_none, wpo_tt, wpo_ff, wpo_tf, wpo_ft, opsK_c, isC_none, isC_read, isC_write, wp1_call, callK_ret, wp1_mv', wp1_bin', wp1_un', wp1_eq', wp1_extract', wp1_pick', wp1_len', wp1_load', wp1_conv', wp1_store', wp1_idxAddr', wp1_append', wp1_mkIface', wp1_alloc', rd_t, rd_c, ok_t, ok_c, put_some, put_none, get_put, reduceIte, Nat.reduceEqDiff, AV.bool.injEq, Option.some.injEq, exists_eq_left', Option.map_some, Option.bind_some, opds_nil, opds_cons, opd_t, opd_c, aBin, aInt, decide_true, decide_false, negIf, wp1_nilCheck', wp1_fieldAddr', wp1_slice, op_slice, opdo_some, opdo_none, wp1_lit, op_lit, parts_nil, parts_cons, wp1_build, op_build, wp1_box, op_box, wc_eq (rint_spec _ _), ← e0, ← e1, ← eix, ← eiy, s1, s2, z1, z2, z3, z4, aPick, wc_eq (alive_spec _)]
      exact ⟨[.bool true], by simp only [Env.results, Option.map_some, get_put, reduceIte, Nat.reduceEqDiff], _, rfl⟩
    have z4 : (y > 576460752303423487) = False := eq_false c4
    have c5 : y = 0 := by
      by_cases c5 : y = 0
      · exact c5
      · exact absurd ⟨⟨by omega, by omega⟩, ⟨by omega, by omega⟩, c5⟩ hc
    have z5 : (y == 0) = true := by simp [c5]
    simp only [a6, a6_0, a6_1, a6_2, a6_3, Slots.ofList, wpc_skip, wpc_ops, wpc_draw, wpc_seq, wpc_cond, wpc_block, wpc_loop, wpc_exit, wpc_scope, wpc_ret, seqQ_norm, seqQ_ret, seqQ_exit, blockQ'_norm, blockQ'_ret, blockQ'_exit, roundQ_norm, roundQ_ret, roundQ_exit, condK_true, condK_false, wpo_nil', wpo_none, wpo_tt, wpo_ff, wpo_tf, wpo_ft, opsK_c, isC_none, isC_read, isC_write, wp1_call, callK_ret, wp1_mv', wp1_bin', wp1_un', wp1_eq', wp1_extract', wp1_pick', wp1_len', wp1_load', wp1_conv', wp1_store', wp1_idxAddr', wp1_append', wp1_mkIface', wp1_alloc', rd_t, rd_c, ok_t, ok_c, put_some, put_none, get_put, reduceIte, Nat.reduceEqDiff, AV.bool.injEq, Option.some.injEq, exists_eq_left', Option.map_some, Option.bind_some, opds_nil, opds_cons, opd_t, opd_c, aBin, aInt, decide_true, decide_false, negIf, wp1_nilCheck', wp1_fieldAddr', wp1_slice, op_slice, opdo_some, opdo_none, wp1_lit, op_lit, parts_nil, parts_cons, wp1_build, op_build, wp1_box, op_box, wc_eq (rint_spec _ _), ← e0, ← e1, ← eix, ← eiy, s1, s2, z1, z2, z3, z4, z5, aPick, wc_eq (alive_spec _)]
    exact ⟨[.bool true], by simp only [Env.results, Option.map_some, get_put, reduceIte, Nat.reduceEqDiff], _, rfl⟩
end Go.Bf
