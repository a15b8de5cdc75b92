/-
  FrameMakes and FrameSplits answer true.
-/
import Derived.Test.YtlggjdneolgkoaaDoorFdRefused
set_option linter.unusedVariables false
set_option linter.unusedSimpArgs false
set_option maxRecDepth 20000
namespace Go.Fd
open Go.AM

theorem rframe_bad {w : Int} (h2 : w ≠ 2) (h4 : w ≠ 4) (v : AV) (h : Heap) : WC env 7 [.int .i64 w, v] h (fun o => o = .ret ⟨.tup [.nils, linkV [102, 114, 97, 109, 101] 0 1], h, .write⟩) := by
  refine call_body rfl rfl (.inl rfl) ?_
  have z0 : (rmaxOf w < 0) = True := by simp [rmaxOf, h2, h4]
  simp only [a7, a7_0, a7_1, a7_2, a7_3, Slots.ofList, wpc_skip, wpc_ops, wpc_draw, wpc_seq, wpc_cond, wpc_block, wpc_loop, wpc_exit, wpc_scope, wpc_ret, seqQ_norm, seqQ_ret, seqQ_exit, blockQ'_norm, blockQ'_ret, blockQ'_exit, roundQ_norm, roundQ_ret, roundQ_exit, condK_true, condK_false, wpo_nil', wpo_none, wpo_some, opsK_apply, guardK_tt, guardK_ff, guardK_tf, guardK_ft, wp1_call, callK_ret, wp1_mv', wp1_bin', wp1_un', wp1_eq', wp1_extract', wp1_pick', wp1_len', wp1_load', wp1_conv', wp1_store', wp1_idxAddr', wp1_append', wp1_mkIface', wp1_alloc', rd_t, rd_c, ok_t, ok_c, put_some, put_none, get_put, reduceIte, Nat.reduceEqDiff, AV.bool.injEq, Option.some.injEq, exists_eq_left', Option.map_some, Option.bind_some, opds_nil, opds_cons, opd_t, opd_c, aBin, aInt, decide_true, decide_false, negIf, wp1_nilCheck', wp1_fieldAddr', wp1_slice, op_slice, opdo_some, opdo_none, wp1_lit, op_lit, parts_nil, parts_cons, wp1_build, op_build, wp1_box, op_box, wc_eq (rgreatest_spec _ _), wc_eq (no_spec _ _ _), z0]
  exact ⟨[.nils, linkV [102, 114, 97, 109, 101] 0 1], by simp only [Env.results, Option.map_some, get_put, reduceIte, Nat.reduceEqDiff], rfl⟩

theorem rframe_long {w : Nat} (hw : w = 2 ∨ w = 4) {v : AV} {bs : List UInt8} {h : Heap} (hb : Bytes h v bs) (hl : maxOf w < bs.length) : WC env 7 [.int .i64 w, v] h (fun o => o = .ret ⟨.tup [.nils, linkV [102, 114, 97, 109, 101] 0 4], h, .write⟩) := by
  refine call_body rfl rfl (.inl rfl) ?_
  have e := hb.lenOp
  have hmax : rmaxOf (w : Int) = maxOf w := by rcases hw with rfl | rfl <;> simp [maxOf, rmaxOf]
  have z0 : (maxOf (w : Int) < 0) = False := eq_false (by rcases hw with rfl | rfl <;> simp [maxOf])
  have z1 : ((bs.length : Int) > maxOf (w : Int)) = True := eq_true hl
  simp only [a7, a7_0, a7_1, a7_2, a7_4, a7_5, a7_6, Slots.ofList, wpc_skip, wpc_ops, wpc_draw, wpc_seq, wpc_cond, wpc_block, wpc_loop, wpc_exit, wpc_scope, wpc_ret, seqQ_norm, seqQ_ret, seqQ_exit, blockQ'_norm, blockQ'_ret, blockQ'_exit, roundQ_norm, roundQ_ret, roundQ_exit, condK_true, condK_false, wpo_nil', wpo_none, wpo_some, opsK_apply, guardK_tt, guardK_ff, guardK_tf, guardK_ft, wp1_call, callK_ret, wp1_mv', wp1_bin', wp1_un', wp1_eq', wp1_extract', wp1_pick', wp1_len', wp1_load', wp1_conv', wp1_store', wp1_idxAddr', wp1_append', wp1_mkIface', wp1_alloc', rd_t, rd_c, ok_t, ok_c, put_some, put_none, get_put, reduceIte, Nat.reduceEqDiff, AV.bool.injEq, Option.some.injEq, exists_eq_left', Option.map_some, Option.bind_some, opds_nil, opds_cons, opd_t, opd_c, aBin, aInt, decide_true, decide_false, negIf, wp1_nilCheck', wp1_fieldAddr', wp1_slice, op_slice, opdo_some, opdo_none, wp1_lit, op_lit, parts_nil, parts_cons, wp1_build, op_build, wp1_box, op_box, wc_eq (rgreatest_spec _ _), wc_eq (no_spec _ _ _), hmax, z0, e, z1]
  exact ⟨[.nils, linkV [102, 114, 97, 109, 101] 0 4], by simp only [Env.results, Option.map_some, get_put, reduceIte, Nat.reduceEqDiff], rfl⟩

theorem rframe_spec {w : Nat} (hw : w = 2 ∨ w = 4) {v : AV} {bs : List UInt8} {h : Heap} (ho : HeapOk h) (hb : Bytes h v bs) (hl : (bs.length : Int) ≤ maxOf w) :
    WC env 7 [.int .i64 w, v] h (fun o => ∃ v' h', o = .ret ⟨.tup [v', .nils], h', .write⟩ ∧ Bytes h' v' (hdr w bs.length ++ bs) ∧ h.le h' ∧ HeapOk h') := by
  refine call_body rfl rfl (.inl rfl) ?_
  have e := hb.lenOp
  have hmax : rmaxOf (w : Int) = maxOf w := by rcases hw with rfl | rfl <;> simp [maxOf, rmaxOf]
  have z0 : (maxOf (w : Int) < 0) = False := eq_false (by rcases hw with rfl | rfl <;> simp [maxOf])
  have z1 : ((bs.length : Int) > maxOf (w : Int)) = False := eq_false (by omega)
  have hle : bs.length ≤ 131072 := by rcases hw with rfl | rfl <;> simp [maxOf] at hl <;> omega
  have s24 : aShift .shr .i64 (bs.length : Int) 24 = some (.int .i64 ((bs.length / 16777216 : Nat) : Int)) := shr_nat bs.length 24 (by omega)
  have s16 : aShift .shr .i64 (bs.length : Int) 16 = some (.int .i64 ((bs.length / 65536 : Nat) : Int)) := shr_nat bs.length 16 (by omega)
  have s8 : aShift .shr .i64 (bs.length : Int) 8 = some (.int .i64 ((bs.length / 256 : Nat) : Int)) := shr_nat bs.length 8 (by omega)
  have d1 := fun h => conv_u8 (bs.length / 16777216) h
  have d2 := fun h => conv_u8 (bs.length / 65536) h
  have d3 := fun h => conv_u8 (bs.length / 256) h
  have d4 := fun h => conv_u8 bs.length h
  have hh : hdr w bs.length = [UInt8.ofNat (bs.length / 16777216), UInt8.ofNat (bs.length / 65536), UInt8.ofNat (bs.length / 256), UInt8.ofNat bs.length].drop (4 - w) := rfl
  generalize hn1 : bs.length / 16777216 = n1 at s24 d1 hh
  generalize hn2 : bs.length / 65536 = n2 at s16 d2 hh
  generalize hn3 : bs.length / 256 = n3 at s8 d3 hh
  generalize hb1 : UInt8.ofNat n1 = b1 at d1 hh
  generalize hb2 : UInt8.ofNat n2 = b2 at d2 hh
  generalize hb3 : UInt8.ofNat n3 = b3 at d3 hh
  generalize hb4 : UInt8.ofNat bs.length = b4 at d4 hh
  have fill : ∀ a b : UInt8, aFill [.int .u8 0, .int .u8 0] [(0, 1, byteAV a), (1, 1, byteAV b)] = some [byteAV a, byteAV b] := fun a b => rfl
  have two : ∀ a b : UInt8, [byteAV a, byteAV b].length = 2 * 1 := fun a b => rfl
  have app : ∀ {h : Heap} {x : AV} {xs : List UInt8} (a b : UInt8), HeapOk h → Acc h 1 x (xs.map byteAV) → aLen x = some xs.length → xs.length ≤ 4 →
      ∃ x' h' c, aAppend h 1 1 x (.fs true 2 [byteAV a, byteAV b]) = some ⟨x', h', c⟩ ∧ Acc h' 1 x' ((xs ++ [a, b]).map byteAV) ∧ Heap.leBut x.own h h' ∧ HeapOk h' ∧ (∀ id, x'.own = some id → x.own = some id ∨ h.next ≤ id) ∧ aLen x' = some (xs ++ [a, b]).length := by
    intro h x xs a b ho k hx hxl
    obtain ⟨x', h', c, g1, g2, g3, g4, g5, g6⟩ := k.append ho (bt := 1) (by omega) hx (y := .fs true 2 [byteAV a, byteAV b]) (n := 2) (new := [byteAV a, byteAV b]) (c := .none) rfl (by simp [sliceCells]) rfl (by omega) (by omega)
    exact ⟨x', h', c, g1, by simpa using g2, g3, g4, g5, by simpa using g6⟩
  rcases hw with rfl | rfl
  · have z2 : ((2 : Int) == 4) = false := rfl
    obtain ⟨x1, h1, c1, p1, p2, p3, p4, p5, p6⟩ := app (x := .nils) (xs := []) b3 b4 ho .nils rfl (by simp)
    have hbb := hb.leBut p3 (fun _ _ e => by cases e)
    obtain ⟨c, hcn, hc⟩ := hbb.cells
    obtain ⟨x2, h2, c2, q1, q2, q3, q4, q5, q6⟩ := p2.append p4 (bt := 1) (by omega) p6 hbb.len hc (by simp) (by simp; omega) (by simp; omega)
    have w2 : WC env 24 [.int .i64 2] h (fun o => o = .ret ⟨.int .i64 (rmaxOf 2), h, .none⟩) := rgreatest_spec 2 h
    have hmax2 : rmaxOf 2 = maxOf 2 := hmax
    have z02 : (maxOf 2 < 0) = False := z0
    have z12 : ((bs.length : Int) > maxOf 2) = False := z1
    show wpc env a7.body ⟨Slots.ofList 0 [.int .i64 2, v] .empty, h⟩ _
    simp only [a7, a7_0, a7_1, a7_2, a7_4, a7_5, a7_7, a7_8, a7_10, a7_11, Slots.ofList, wpc_skip, wpc_ops, wpc_draw, wpc_seq, wpc_cond, wpc_block, wpc_loop, wpc_exit, wpc_scope, wpc_ret, seqQ_norm, seqQ_ret, seqQ_exit, blockQ'_norm, blockQ'_ret, blockQ'_exit, roundQ_norm, roundQ_ret, roundQ_exit, condK_true, condK_false, wpo_nil', wpo_none, wpo_some, opsK_apply, guardK_tt, guardK_ff, guardK_tf, guardK_ft, wp1_call, callK_ret, wp1_mv', wp1_bin', wp1_un', wp1_eq', wp1_extract', wp1_pick', wp1_len', wp1_load', wp1_conv', wp1_store', wp1_idxAddr', wp1_append', wp1_mkIface', wp1_alloc', rd_t, rd_c, ok_t, ok_c, put_some, put_none, get_put, reduceIte, Nat.reduceEqDiff, AV.bool.injEq, Option.some.injEq, exists_eq_left', Option.map_some, Option.bind_some, opds_nil, opds_cons, opd_t, opd_c, aBin, aInt, decide_true, decide_false, negIf, wp1_nilCheck', wp1_fieldAddr', wp1_slice, op_slice, opdo_some, opdo_none, wp1_lit, op_lit, parts_nil, parts_cons, wp1_build, op_build, wp1_box, op_box, wc_eq w2, hmax2, z02, e, z12, z2, s8, d3, d4, fill, if_pos (two _ _), p1, q1]
    refine ⟨[x2, .nils], by simp only [Env.results, Option.map_some, get_put, reduceIte, Nat.reduceEqDiff], x2, h2, rfl, ?_, ⟨Nat.le_trans p3.1 q3.1, fun i g cs e => ?_⟩, q4⟩
    · rw [hh]
      have : Acc h2 1 x2 (([b3, b4] ++ bs).map byteAV) := by simpa using q2
      exact this.toBytes
    · refine q3.2 i g cs (fun e2 => ?_) (p3.2 i g cs (fun e2 => by cases e2) e)
      have := ho.lt e
      rcases p5 i e2 with e3 | e3
      · cases e3
      · omega
  · have z2 : ((4 : Int) == 4) = true := rfl
    obtain ⟨x0, h0, c0, r1, r2, r3, r4, r5, r6⟩ := app (x := .nils) (xs := []) b1 b2 ho .nils rfl (by simp)
    obtain ⟨x1, h1, c1, p1, p2, p3, p4, p5, p6⟩ := app b3 b4 r4 r2 r6 (by simp)
    have hbb := (hb.leBut r3 (fun _ _ e => by cases e)).leBut p3 (fun i e e2 => by
      have := hb.ownLt ho e
      rcases r5 i e2 with e3 | e3
      · cases e3
      · omega)
    obtain ⟨c, hcn, hc⟩ := hbb.cells
    obtain ⟨x2, h2, c2, q1, q2, q3, q4, q5, q6⟩ := p2.append p4 (bt := 1) (by omega) p6 hbb.len hc (by simp) (by simp; omega) (by simp; omega)
    have w2 : WC env 24 [.int .i64 4] h (fun o => o = .ret ⟨.int .i64 (rmaxOf 4), h, .none⟩) := rgreatest_spec 4 h
    have hmax2 : rmaxOf 4 = maxOf 4 := hmax
    have z02 : (maxOf 4 < 0) = False := z0
    have z12 : ((bs.length : Int) > maxOf 4) = False := z1
    show wpc env a7.body ⟨Slots.ofList 0 [.int .i64 4, v] .empty, h⟩ _
    simp only [a7, a7_0, a7_1, a7_2, a7_4, a7_5, a7_7, a7_8, a7_9, a7_10, a7_11, Slots.ofList, wpc_skip, wpc_ops, wpc_draw, wpc_seq, wpc_cond, wpc_block, wpc_loop, wpc_exit, wpc_scope, wpc_ret, seqQ_norm, seqQ_ret, seqQ_exit, blockQ'_norm, blockQ'_ret, blockQ'_exit, roundQ_norm, roundQ_ret, roundQ_exit, condK_true, condK_false, wpo_nil', wpo_none, wpo_some, opsK_apply, guardK_tt, guardK_ff, guardK_tf, guardK_ft, wp1_call, callK_ret, wp1_mv', wp1_bin', wp1_un', wp1_eq', wp1_extract', wp1_pick', wp1_len', wp1_load', wp1_conv', wp1_store', wp1_idxAddr', wp1_append', wp1_mkIface', wp1_alloc', rd_t, rd_c, ok_t, ok_c, put_some, put_none, get_put, reduceIte, Nat.reduceEqDiff, AV.bool.injEq, Option.some.injEq, exists_eq_left', Option.map_some, Option.bind_some, opds_nil, opds_cons, opd_t, opd_c, aBin, aInt, decide_true, decide_false, negIf, wp1_nilCheck', wp1_fieldAddr', wp1_slice, op_slice, opdo_some, opdo_none, wp1_lit, op_lit, parts_nil, parts_cons, wp1_build, op_build, wp1_box, op_box, wc_eq w2, hmax2, z02, e, z12, z2, s24, s16, s8, d1, d2, d3, d4, fill, if_pos (two _ _), r1, p1, q1]
    refine ⟨[x2, .nils], by simp only [Env.results, Option.map_some, get_put, reduceIte, Nat.reduceEqDiff], x2, h2, rfl, ?_, ⟨Nat.le_trans r3.1 (Nat.le_trans p3.1 q3.1), fun i g cs e => ?_⟩, q4⟩
    · rw [hh]
      have : Acc h2 1 x2 (([b1, b2, b3, b4] ++ bs).map byteAV) := by simpa using q2
      exact this.toBytes
    · have := ho.lt e
      have h01 : x0.own ≠ some i := fun e2 => by
        rcases r5 i e2 with e3 | e3
        · cases e3
        · omega
      refine q3.2 i g cs (fun e2 => ?_) (p3.2 i g cs h01 (r3.2 i g cs (fun e2 => by cases e2) e))
      rcases p5 i e2 with e3 | e3
      · exact h01 e3
      · have := r3.1; omega

theorem eq_self (bs : List UInt8) : (bs == bs) = true := by simp
theorem faultV_L (a c : Int) : faultV a c = faultL [102, 114, 97, 109, 101] a c := rfl

theorem makes_end {σ : Slots} {h : Heap} (ho : HeapOk h) {b c e f : AV} {bs : List UInt8} (hb : Bytes h b bs) (hc : Bytes h c bs) (hr : WC env 8 [e, f] h (fun o => ∃ h', HeapOk h' ∧ h.le h' ∧ o = .ret ⟨.bool true, h', .write⟩))
    (g5 : σ.get 5 = b) (g6 : σ.get 6 = e) (g7 : σ.get 7 = c) (g8 : σ.get 8 = f) {Q : AExit → St → Prop} (hQ : ∀ σ' h', σ'.get 4 = .bool true → Q .ret ⟨σ', h'⟩) : wpc env (.seq (.ops a3_3) .ret) ⟨σ, h⟩ Q := by
  obtain ⟨o, ev, h1, ho1, hl1, rfl⟩ := hr
  have w1 : WC env 8 [e, f] h (fun o => o = _) := ⟨_, ev, rfl⟩
  obtain ⟨k1, _, b1⟩ := hb.b2s
  obtain ⟨k2, _, b2⟩ := hc.b2s
  have hn := eq_self bs
  simp only [a3_3, wpc_skip, wpc_ops, wpc_draw, wpc_seq, wpc_cond, wpc_block, wpc_loop, wpc_exit, wpc_scope, wpc_ret, seqQ_norm, seqQ_ret, seqQ_exit, blockQ'_norm, blockQ'_ret, blockQ'_exit, roundQ_norm, roundQ_ret, roundQ_exit, condK_true, condK_false, wpo_nil', wpo_none, wpo_some, opsK_apply, guardK_tt, guardK_ff, guardK_tf, guardK_ft, wp1_call, callK_ret, wp1_mv', wp1_bin', wp1_un', wp1_eq', wp1_extract', wp1_pick', wp1_len', wp1_load', wp1_conv', wp1_store', wp1_idxAddr', wp1_append', wp1_mkIface', wp1_alloc', rd_t, rd_c, ok_t, ok_c, put_some, put_none, get_put, reduceIte, Nat.reduceEqDiff, AV.bool.injEq, Option.some.injEq, exists_eq_left', Option.map_some, Option.bind_some, opds_nil, opds_cons, opd_t, opd_c, aBin, aInt, decide_true, decide_false, negIf, wp1_nilCheck', wp1_fieldAddr', wp1_slice, op_slice, opdo_some, opdo_none, wp1_lit, op_lit, parts_nil, parts_cons, wp1_build, op_build, wp1_box, op_box, g5, g6, g7, g8, b1, b2, aStr, hn, wc_eq w1, aPick, wc_eq (awake_spec _)]
  exact hQ _ _ (by simp only [get_put, reduceIte, Nat.reduceEqDiff])

theorem refused_ok' {h : Heap} (ho : HeapOk h) : WC env 8 [.nili, .nils] h (fun o => ∃ h', HeapOk h' ∧ h.le h' ∧ o = .ret ⟨.bool true, h', .write⟩) := by
  obtain ⟨o, ev, rfl⟩ := refused_ok h
  exact ⟨_, ev, h, ho, Heap.le_refl h, rfl⟩

theorem makes_spec {w : Int} {bv : AV} {b : List UInt8} (hbv : ∀ h, Bytes h bv b) : WC env 3 [.int .i64 w, bv] .empty (fun o => ∃ h', o = .ret ⟨.bool true, h', .write⟩) := by
  have fin : ∀ {σ : Slots} {h : Heap}, σ.get 4 = .bool true → ∃ vs, env.results ⟨σ, h⟩ [.tmp 4] = some vs ∧ ∃ h', COut.ret ⟨oneOrTup vs, h, .write⟩ = .ret ⟨.bool true, h', .write⟩ := by
    intro σ h g2
    exact ⟨[.bool true], by simp only [Env.results, Option.map_some, g2], h, rfl⟩
  by_cases hw : w = 2 ∨ w = 4
  · obtain ⟨n, hn, rfl⟩ : ∃ n : Nat, (n = 2 ∨ n = 4) ∧ w = n := by
      rcases hw with rfl | rfl
      · exact ⟨2, .inl rfl, rfl⟩
      · exact ⟨4, .inr rfl, rfl⟩
    by_cases hl : (b.length : Int) ≤ maxOf n
    · obtain ⟨o, ev1, v1, h1, rfl, hb1, hle1, ho1⟩ := frame_spec hn HeapOk.empty (hbv _) hl
      have w1 : WC env 6 [.int .i64 n, bv] .empty (fun o => o = _) := ⟨_, ev1, rfl⟩
      obtain ⟨o, ev2, v2, h2, rfl, hb2, hle2, ho2⟩ := rframe_spec hn ho1 (hbv _) hl
      have w2 : WC env 7 [.int .i64 n, bv] h1 (fun o => o = _) := ⟨_, ev2, rfl⟩
      refine call_body rfl rfl (.inl rfl) ?_
      simp only [a3, a3_0, a3_1, a3_2, Slots.ofList, wpc_skip, wpc_ops, wpc_draw, wpc_seq, wpc_cond, wpc_block, wpc_loop, wpc_exit, wpc_scope, wpc_ret, seqQ_norm, seqQ_ret, seqQ_exit, blockQ'_norm, blockQ'_ret, blockQ'_exit, roundQ_norm, roundQ_ret, roundQ_exit, condK_true, condK_false, wpo_nil', wpo_none, wpo_some, opsK_apply, guardK_tt, guardK_ff, guardK_tf, guardK_ft, wp1_call, callK_ret, wp1_mv', wp1_bin', wp1_un', wp1_eq', wp1_extract', wp1_pick', wp1_len', wp1_load', wp1_conv', wp1_store', wp1_idxAddr', wp1_append', wp1_mkIface', wp1_alloc', rd_t, rd_c, ok_t, ok_c, put_some, put_none, get_put, reduceIte, Nat.reduceEqDiff, AV.bool.injEq, Option.some.injEq, exists_eq_left', Option.map_some, Option.bind_some, opds_nil, opds_cons, opd_t, opd_c, aBin, aInt, decide_true, decide_false, negIf, wp1_nilCheck', wp1_fieldAddr', wp1_slice, op_slice, opdo_some, opdo_none, wp1_lit, op_lit, parts_nil, parts_cons, wp1_build, op_build, wp1_box, op_box, wc_eq w1, wc_eq w2, aExtract, ex0, ex1]
      refine makes_end ho2 (hb1.le hle2) hb2 (refused_ok' ho2) ?_ ?_ ?_ ?_ fun σ' h' g4 => fin g4
      all_goals simp only [get_put, reduceIte, Nat.reduceEqDiff]
    · have w1 := frame_long hn (hbv .empty) (by omega)
      have w2 := rframe_long hn (hbv .empty) (by omega)
      refine call_body rfl rfl (.inl rfl) ?_
      simp only [a3, a3_0, a3_1, a3_2, Slots.ofList, wpc_skip, wpc_ops, wpc_draw, wpc_seq, wpc_cond, wpc_block, wpc_loop, wpc_exit, wpc_scope, wpc_ret, seqQ_norm, seqQ_ret, seqQ_exit, blockQ'_norm, blockQ'_ret, blockQ'_exit, roundQ_norm, roundQ_ret, roundQ_exit, condK_true, condK_false, wpo_nil', wpo_none, wpo_some, opsK_apply, guardK_tt, guardK_ff, guardK_tf, guardK_ft, wp1_call, callK_ret, wp1_mv', wp1_bin', wp1_un', wp1_eq', wp1_extract', wp1_pick', wp1_len', wp1_load', wp1_conv', wp1_store', wp1_idxAddr', wp1_append', wp1_mkIface', wp1_alloc', rd_t, rd_c, ok_t, ok_c, put_some, put_none, get_put, reduceIte, Nat.reduceEqDiff, AV.bool.injEq, Option.some.injEq, exists_eq_left', Option.map_some, Option.bind_some, opds_nil, opds_cons, opd_t, opd_c, aBin, aInt, decide_true, decide_false, negIf, wp1_nilCheck', wp1_fieldAddr', wp1_slice, op_slice, opdo_some, opdo_none, wp1_lit, op_lit, parts_nil, parts_cons, wp1_build, op_build, wp1_box, op_box, wc_eq w1, wc_eq w2, aExtract, ex0, ex1]
      refine makes_end HeapOk.empty (b := .nils) (c := .nils) (bs := []) .nils .nils (refused_hit (l := [102, 114, 97, 109, 101]) (a := 0) (c := 4) HeapOk.empty) ?_ ?_ ?_ ?_ fun σ' h' g4 => fin g4
      all_goals simp only [get_put, reduceIte, Nat.reduceEqDiff, faultV_L]
  · have h2 : w ≠ 2 := fun e => hw (.inl e)
    have h4 : w ≠ 4 := fun e => hw (.inr e)
    have w1 := frame_bad h2 h4 bv .empty
    have w2 := rframe_bad h2 h4 bv .empty
    refine call_body rfl rfl (.inl rfl) ?_
    simp only [a3, a3_0, a3_1, a3_2, Slots.ofList, wpc_skip, wpc_ops, wpc_draw, wpc_seq, wpc_cond, wpc_block, wpc_loop, wpc_exit, wpc_scope, wpc_ret, seqQ_norm, seqQ_ret, seqQ_exit, blockQ'_norm, blockQ'_ret, blockQ'_exit, roundQ_norm, roundQ_ret, roundQ_exit, condK_true, condK_false, wpo_nil', wpo_none, wpo_some, opsK_apply, guardK_tt, guardK_ff, guardK_tf, guardK_ft, wp1_call, callK_ret, wp1_mv', wp1_bin', wp1_un', wp1_eq', wp1_extract', wp1_pick', wp1_len', wp1_load', wp1_conv', wp1_store', wp1_idxAddr', wp1_append', wp1_mkIface', wp1_alloc', rd_t, rd_c, ok_t, ok_c, put_some, put_none, get_put, reduceIte, Nat.reduceEqDiff, AV.bool.injEq, Option.some.injEq, exists_eq_left', Option.map_some, Option.bind_some, opds_nil, opds_cons, opd_t, opd_c, aBin, aInt, decide_true, decide_false, negIf, wp1_nilCheck', wp1_fieldAddr', wp1_slice, op_slice, opdo_some, opdo_none, wp1_lit, op_lit, parts_nil, parts_cons, wp1_build, op_build, wp1_box, op_box, wc_eq w1, wc_eq w2, aExtract, ex0, ex1]
    refine makes_end HeapOk.empty (b := .nils) (c := .nils) (bs := []) .nils .nils (refused_hit (l := [102, 114, 97, 109, 101]) (a := 0) (c := 1) HeapOk.empty) ?_ ?_ ?_ ?_ fun σ' h' g4 => fin g4
    all_goals simp only [get_put, reduceIte, Nat.reduceEqDiff, faultV_L]
end Go.Fd
