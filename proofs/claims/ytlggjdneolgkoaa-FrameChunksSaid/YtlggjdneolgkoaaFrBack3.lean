/-
  Package frame: FrameBack answers true, the whole.
-/
import Derived.Test.YtlggjdneolgkoaaFrBack2
set_option linter.unusedVariables false
set_option linter.unusedSimpArgs false
set_option maxRecDepth 20000
namespace Go.Fr
open Go.AM

theorem ex20 (a b c : AV) : ([a, b, c] : List AV)[0]? = some a := rfl
theorem ex21 (a b c : AV) : ([a, b, c] : List AV)[1]? = some b := rfl
theorem ex22 (a b c : AV) : ([a, b, c] : List AV)[2]? = some c := rfl

/-- at a width that is none, behind the loop -/
theorem back_end_bad {w : Int} (h2 : w ≠ 2) (h4 : w ≠ 4) (σ : Slots) (h : Heap) {v : AV} (g0 : σ.get 0 = .int .i64 w) (g5 : σ.get 5 = v) {Q : AExit → St → Prop} (hQ : ∀ σ', σ'.get 4 = .bool true → Q .ret ⟨σ', h⟩) :
    wpc env (.seq (.ops a4_10) (.seq (.seq (.ops a4_11) (.cond (.t 66) (.seq (.ops a4_12) .ret) .skip)) (.seq (.ops a4_13) .ret))) ⟨σ, h⟩ Q := by
  have b2 : (w != 2) = true := by simp [h2]
  have b4 : (w != 4) = true := by simp [h4]
  simp only [a4_10, a4_11, a4_12, wpc_skip, wpc_ops, wpc_draw, wpc_seq, wpc_cond, wpc_block, wpc_loop, wpc_exit, wpc_scope, wpc_ret, seqQ_norm, seqQ_ret, seqQ_exit, blockQ'_norm, blockQ'_ret, blockQ'_exit, roundQ_norm, roundQ_ret, roundQ_exit, condK_true, condK_false, wpo_nil', wpo_none, wpo_some, opsK_apply, guardK_tt, guardK_ff, guardK_tf, guardK_ft, wp1_call, callK_ret, wp1_mv', wp1_bin', wp1_un', wp1_eq', wp1_extract', wp1_pick', wp1_len', wp1_load', wp1_conv', wp1_store', wp1_idxAddr', wp1_append', wp1_mkIface', wp1_alloc', rd_t, rd_c, ok_t, ok_c, put_some, put_none, get_put, reduceIte, Nat.reduceEqDiff, AV.bool.injEq, Option.some.injEq, exists_eq_left', Option.map_some, Option.bind_some, opds_nil, opds_cons, opd_t, opd_c, aBin, aInt, decide_true, decide_false, negIf, g0, g5, wc_eq (split_bad h2 h4 v h), aExtract, ex20, ex21, ex22, b2, b4, aPick, eq_fault, wc_eq (awake_spec h), Bool.not_false, Bool.not_true]
  exact hQ _ (by simp only [get_put, reduceIte])

theorem back_end {w : Nat} (hw : w = 2 ∨ w = 4) {lv v : AV} {l : List (List UInt8)} (hl : ∀ h, LB h lv l) (hln : l.length < 1000000000000) (hsz : (l.map (fr w)).flatten.length < 1000000000000) (hall : ∀ b ∈ l, (b.length : Int) ≤ maxOf w)
    (σ : Slots) (h : Heap) (ho : HeapOk h) (hA : Acc h 1 v ((l.map (fr w)).flatten.map byteAV)) (g0 : σ.get 0 = .int .i64 w) (g1 : σ.get 1 = lv) (g5 : σ.get 5 = v) {Q : AExit → St → Prop} (hQ : ∀ σ' h', σ'.get 4 = .bool true → Q .ret ⟨σ', h'⟩) :
    wpc env (.seq (.ops a4_10) (.seq (.seq (.ops a4_11) (.cond (.t 66) (.seq (.ops a4_12) .ret) .skip)) (.seq (.ops a4_13) .ret))) ⟨σ, h⟩ Q := by
  have hb := Acc.bytes hA
  have hs := splitF_frames hw l ((l.map (fr w)).flatten.length + 1) 0 [] hall (by omega)
  obtain ⟨o, hev, h', ho', hle, hr⟩ := split_spec hw ho hb hsz
  rw [hs] at hr
  simp only [List.nil_append, Nat.zero_add, Bool.false_eq_true, if_false] at hr
  obtain ⟨mv, cells, hm, rfl⟩ := hr
  have hk : WC env 14 [.int .i64 w, v] h (fun o => o = .ret ⟨.tup [mv, .int .i64 ((l.map (fr w)).flatten.length : Nat), .nili], h', .write⟩) := ⟨_, hev, rfl⟩
  have hlen := (hb.le hle).lenOp
  have hsame := same_spec (hl h') hm.lb hln
  have z0 : (((l.map (fr w)).flatten.length : Int) == ((l.map (fr w)).flatten.length : Int)) = true := by simp
  generalize (l.map (fr w)).flatten.length = n at hk hlen z0
  rcases hw with rfl | rfl
  · have hk2 : WC env 14 [.int .i64 2, v] h (fun o => o = .ret ⟨.tup [mv, .int .i64 n, .nili], h', .write⟩) := hk
    have g0' : σ.get 0 = .int .i64 2 := g0
    have z1 : ((2 : Int) != 2) = false := rfl
    simp only [a4_10, a4_11, a4_12, a4_13, wpc_skip, wpc_ops, wpc_draw, wpc_seq, wpc_cond, wpc_block, wpc_loop, wpc_exit, wpc_scope, wpc_ret, seqQ_norm, seqQ_ret, seqQ_exit, blockQ'_norm, blockQ'_ret, blockQ'_exit, roundQ_norm, roundQ_ret, roundQ_exit, condK_true, condK_false, wpo_nil', wpo_none, wpo_some, opsK_apply, guardK_tt, guardK_ff, guardK_tf, guardK_ft, wp1_call, callK_ret, wp1_mv', wp1_bin', wp1_un', wp1_eq', wp1_extract', wp1_pick', wp1_len', wp1_load', wp1_conv', wp1_store', wp1_idxAddr', wp1_append', wp1_mkIface', wp1_alloc', rd_t, rd_c, ok_t, ok_c, put_some, put_none, get_put, reduceIte, Nat.reduceEqDiff, AV.bool.injEq, Option.some.injEq, exists_eq_left', Option.map_some, Option.bind_some, opds_nil, opds_cons, opd_t, opd_c, aBin, aInt, decide_true, decide_false, negIf, g0', g1, g5, wc_eq hk2, aExtract, ex20, ex21, ex22, z0, z1, hlen, aPick, eq_nil, wc_eq hsame, wc_eq (awake_spec h'), Bool.not_false, Bool.not_true]
    exact hQ _ h' (by simp only [get_put, reduceIte])
  · have hk2 : WC env 14 [.int .i64 4, v] h (fun o => o = .ret ⟨.tup [mv, .int .i64 n, .nili], h', .write⟩) := hk
    have g0' : σ.get 0 = .int .i64 4 := g0
    have z1 : ((4 : Int) != 2) = true := rfl
    have z2 : ((4 : Int) != 4) = false := rfl
    simp only [a4_10, a4_11, a4_12, a4_13, wpc_skip, wpc_ops, wpc_draw, wpc_seq, wpc_cond, wpc_block, wpc_loop, wpc_exit, wpc_scope, wpc_ret, seqQ_norm, seqQ_ret, seqQ_exit, blockQ'_norm, blockQ'_ret, blockQ'_exit, roundQ_norm, roundQ_ret, roundQ_exit, condK_true, condK_false, wpo_nil', wpo_none, wpo_some, opsK_apply, guardK_tt, guardK_ff, guardK_tf, guardK_ft, wp1_call, callK_ret, wp1_mv', wp1_bin', wp1_un', wp1_eq', wp1_extract', wp1_pick', wp1_len', wp1_load', wp1_conv', wp1_store', wp1_idxAddr', wp1_append', wp1_mkIface', wp1_alloc', rd_t, rd_c, ok_t, ok_c, put_some, put_none, get_put, reduceIte, Nat.reduceEqDiff, AV.bool.injEq, Option.some.injEq, exists_eq_left', Option.map_some, Option.bind_some, opds_nil, opds_cons, opd_t, opd_c, aBin, aInt, decide_true, decide_false, negIf, g0', g1, g5, wc_eq hk2, aExtract, ex20, ex21, ex22, z0, z1, z2, hlen, aPick, eq_nil, wc_eq hsame, wc_eq (awake_spec h'), Bool.not_false, Bool.not_true]
    exact hQ _ h' (by simp only [get_put, reduceIte])

theorem back_spec (w : Int) {lv : AV} {l : List (List UInt8)} (hl : ∀ h, LB h lv l) (hln : l.length < 1000000000000) (hsz : ∀ w : Nat, w ≤ 4 → (l.map (fr w)).flatten.length < 1000000000000) :
    WC env 4 [.int .i64 w, lv] .empty (fun o => ∃ h', o = .ret ⟨.bool true, h', .write⟩) := by
  refine call_body rfl rfl (.inl rfl) ?_
  have fin : ∀ σ h, σ.get 4 = .bool true → retQ env a4.results (fun o => ∃ h', o = .ret ⟨.bool true, h', .write⟩) .ret ⟨σ, h⟩ := fun σ h g4 => ⟨[.bool true], by simp only [a4, Env.results, Option.map_some, g4], h, rfl⟩
  simp only [a4, a4_0, a4_1, a4_2, Slots.ofList, wpc_skip, wpc_ops, wpc_draw, wpc_seq, wpc_cond, wpc_block, wpc_loop, wpc_exit, wpc_scope, wpc_ret, seqQ_norm, seqQ_ret, seqQ_exit, blockQ'_norm, blockQ'_ret, blockQ'_exit, roundQ_norm, roundQ_ret, roundQ_exit, condK_true, condK_false, wpo_nil', wpo_none, wpo_some, opsK_apply, guardK_tt, guardK_ff, guardK_tf, guardK_ft, wp1_call, callK_ret, wp1_mv', wp1_bin', wp1_un', wp1_eq', wp1_extract', wp1_pick', wp1_len', wp1_load', wp1_conv', wp1_store', wp1_idxAddr', wp1_append', wp1_mkIface', wp1_alloc', rd_t, rd_c, ok_t, ok_c, put_some, put_none, get_put, reduceIte, Nat.reduceEqDiff, AV.bool.injEq, Option.some.injEq, exists_eq_left', Option.map_some, Option.bind_some, opds_nil, opds_cons, opd_t, opd_c, aBin, aInt, decide_true, decide_false, negIf]
  by_cases hw : w = 2 ∨ w = 4
  · obtain ⟨n, hn, rfl⟩ : ∃ n : Nat, (n = 2 ∨ n = 4) ∧ w = n := by
      rcases hw with rfl | rfl
      · exact ⟨2, .inl rfl, rfl⟩
      · exact ⟨4, .inr rfl, rfl⟩
    refine back_loop hn hl (hsz n (by omega)) hln ?_ ?_ l.length 0 _ .empty .nils (by omega) HeapOk.empty (by simpa using Acc.nils) (by simp) (by simp only [get_put, reduceIte, Nat.reduceEqDiff]) (by simp only [get_put, reduceIte, Nat.reduceEqDiff]) (by simp only [get_put, reduceIte, Nat.reduceEqDiff]) (by simp only [get_put, reduceIte, Nat.reduceEqDiff]; rfl)
    · intro σ h bv ho hA hall g0 g1 g5
      simp only [blockQ'_exit, reduceIte, seqQ_norm]
      exact back_end hn hl hln (hsz n (by omega)) hall σ h ho hA g0 g1 g5 fun σ' h' g4 => fin σ' h' g4
    · intro σ h g4
      simp only [blockQ'_ret, seqQ_ret]
      exact fin σ h g4
  · have h2 : w ≠ 2 := fun e => hw (.inl e)
    have h4 : w ≠ 4 := fun e => hw (.inr e)
    have hlen := (hl .empty).lenOp
    refine wpr_round' fun b hb' => ?_
    by_cases h0 : l = []
    · subst h0
      have z0 : ((0 : Int) < (([] : List (List UInt8)).length : Int)) = False := by simp
      simp only [a4_l9, a4_3, wpc_skip, wpc_ops, wpc_draw, wpc_seq, wpc_cond, wpc_block, wpc_loop, wpc_exit, wpc_scope, wpc_ret, seqQ_norm, seqQ_ret, seqQ_exit, blockQ'_norm, blockQ'_ret, blockQ'_exit, roundQ_norm, roundQ_ret, roundQ_exit, condK_true, condK_false, wpo_nil', wpo_none, wpo_some, opsK_apply, guardK_tt, guardK_ff, guardK_tf, guardK_ft, wp1_call, callK_ret, wp1_mv', wp1_bin', wp1_un', wp1_eq', wp1_extract', wp1_pick', wp1_len', wp1_load', wp1_conv', wp1_store', wp1_idxAddr', wp1_append', wp1_mkIface', wp1_alloc', rd_t, rd_c, ok_t, ok_c, put_some, put_none, get_put, reduceIte, Nat.reduceEqDiff, AV.bool.injEq, Option.some.injEq, exists_eq_left', Option.map_some, Option.bind_some, opds_nil, opds_cons, opd_t, opd_c, aBin, aInt, decide_true, decide_false, negIf, hlen, z0]
      exact back_end_bad h2 h4 _ _ (by simp only [get_put, reduceIte, Nat.reduceEqDiff]) rfl fun σ' g4 => fin σ' _ g4
    · have hpos : 0 < l.length := List.length_pos_iff.2 h0
      have z0 : ((0 : Int) < (l.length : Int)) = True := eq_true (by omega)
      obtain ⟨p, c1, u, e1, e2, e3, e4⟩ := (hl .empty).elem (kd := .i64) hpos
      have e1' : aIdxAddr 1 lv (.int .i64 0) = some p := e1
      simp only [a4_l9, a4_3, a4_4, a4_5, wpc_skip, wpc_ops, wpc_draw, wpc_seq, wpc_cond, wpc_block, wpc_loop, wpc_exit, wpc_scope, wpc_ret, seqQ_norm, seqQ_ret, seqQ_exit, blockQ'_norm, blockQ'_ret, blockQ'_exit, roundQ_norm, roundQ_ret, roundQ_exit, condK_true, condK_false, wpo_nil', wpo_none, wpo_some, opsK_apply, guardK_tt, guardK_ff, guardK_tf, guardK_ft, wp1_call, callK_ret, wp1_mv', wp1_bin', wp1_un', wp1_eq', wp1_extract', wp1_pick', wp1_len', wp1_load', wp1_conv', wp1_store', wp1_idxAddr', wp1_append', wp1_mkIface', wp1_alloc', rd_t, rd_c, ok_t, ok_c, put_some, put_none, get_put, reduceIte, Nat.reduceEqDiff, AV.bool.injEq, Option.some.injEq, exists_eq_left', Option.map_some, Option.bind_some, opds_nil, opds_cons, opd_t, opd_c, aBin, aInt, decide_true, decide_false, negIf, hlen, z0, e1', e2, wc_eq (frame_bad h2 h4 u .empty), aExtract, ex0, ex1, eq_fault, Bool.not_false, Bool.not_true]
      refine back_bad h2 h4 _ _ (by simp only [get_put, reduceIte, Nat.reduceEqDiff]) (by simp only [get_put, reduceIte, Nat.reduceEqDiff]) fun σ' g4 => ?_
      simp only [seqQ_norm, wpc_ret, seqQ_ret, roundQ_ret, blockQ'_ret]
      exact fin σ' _ g4
end Go.Fr
