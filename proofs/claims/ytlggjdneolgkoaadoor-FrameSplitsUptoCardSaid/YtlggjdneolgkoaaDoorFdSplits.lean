/-
  FrameSplits answers true.
-/
import Derived.Test.YtlggjdneolgkoaaDoorFdLaws
import Derived.Test.YtlggjdneolgkoaaDoorFdRefSplit3
set_option linter.unusedVariables false
set_option linter.unusedSimpArgs false
set_option maxRecDepth 20000
namespace Go.Fd
open Go.AM

theorem rsplit_bad {w : Int} (h2 : w ≠ 2) (h4 : w ≠ 4) (v : AV) (h : Heap) : WC env 20 [.int .i64 w, v] h (fun o => o = .ret ⟨.tup [.nils, .int .i64 0, linkV [102, 114, 97, 109, 101] 0 1], h, .write⟩) := by
  refine call_body rfl rfl (.inl rfl) ?_
  have z0 : (rmaxOf w < 0) = True := by simp [rmaxOf, h2, h4]
  simp only [a20, a20_0, a20_1, a20_2, a20_3, Slots.ofList, wpc_skip, wpc_ops, wpc_draw, wpc_seq, wpc_cond, wpc_block, wpc_loop, wpc_exit, wpc_scope, wpc_ret, seqQ_norm, seqQ_ret, seqQ_exit, blockQ'_norm, blockQ'_ret, blockQ'_exit, roundQ_norm, roundQ_ret, roundQ_exit, condK_true, condK_false, wpo_nil', wpo_none, wpo_some, opsK_apply, guardK_tt, guardK_ff, guardK_tf, guardK_ft, wp1_call, callK_ret, wp1_mv', wp1_bin', wp1_un', wp1_eq', wp1_extract', wp1_pick', wp1_len', wp1_load', wp1_conv', wp1_store', wp1_idxAddr', wp1_append', wp1_mkIface', wp1_alloc', rd_t, rd_c, ok_t, ok_c, put_some, put_none, get_put, reduceIte, Nat.reduceEqDiff, AV.bool.injEq, Option.some.injEq, exists_eq_left', Option.map_some, Option.bind_some, opds_nil, opds_cons, opd_t, opd_c, aBin, aInt, decide_true, decide_false, negIf, wp1_nilCheck', wp1_fieldAddr', wp1_slice, op_slice, opdo_some, opdo_none, wp1_lit, op_lit, parts_nil, parts_cons, wp1_build, op_build, wp1_box, op_box, wc_eq (rgreatest_spec _ _), wc_eq (no_spec _ _ _), z0]
  exact ⟨[.nils, .int .i64 0, linkV [102, 114, 97, 109, 101] 0 1], by simp only [Env.results, Option.map_some, get_put, reduceIte, Nat.reduceEqDiff], rfl⟩

theorem splitF_len {w : Nat} (hw : 0 < w) : ∀ (f : Nat) (rest : List UInt8) (at_ : Nat) (acc : List (List UInt8)), (splitF w f rest at_ acc).1.length ≤ acc.length + rest.length
  | 0, rest, at_, acc => by simp [splitF]
  | f + 1, rest, at_, acc => by
    unfold splitF
    by_cases c1 : rest.length < w
    · rw [if_pos c1]; simp
    rw [if_neg c1]
    by_cases c2 : maxOf w < num (rest.take w)
    · rw [if_pos c2]; simp
    rw [if_neg c2]
    by_cases c3 : rest.length - w < num (rest.take w)
    · rw [if_pos c3]; simp
    rw [if_neg c3]
    have := splitF_len hw f (rest.drop (w + num (rest.take w))) (at_ + (w + num (rest.take w))) (acc ++ [(rest.drop w).take (num (rest.take w))])
    simp only [List.length_append, List.length_drop, List.length_singleton] at this
    omega

theorem LB.le {h h' : Heap} {v : AV} {l : List (List UInt8)} (k : LB h v l) (hl : h.le h') : LB h' v l := by
  have all : ∀ {vs : List AV} {bss : List (List UInt8)}, All2b h vs bss → All2b h' vs bss := fun x => x.leBut (o := none) (hl.but none) (fun _ _ _ _ e => by cases e)
  cases k with
  | nils => exact .nils
  | fs full cells _ k => exact .fs full cells l (all k)
  | sl id gen off cap cs cells _ hat hle hc k => exact .sl id gen off cap cs cells l (hl.2 _ _ _ hat) hle hc (all k)

theorem splits_end {σ : Slots} {h : Heap} (ho : HeapOk h) {lv mv e f : AV} {l : List (List UInt8)} {n : Int} (hlv : LB h lv l) (hmv : LB h mv l) (hln : l.length < 1000000000000) (hr : ∀ h, HeapOk h → WC env 8 [e, f] h (fun o => ∃ h', HeapOk h' ∧ h.le h' ∧ o = .ret ⟨.bool true, h', .write⟩))
    (g5 : σ.get 5 = lv) (g6 : σ.get 6 = .int .i64 n) (g7 : σ.get 7 = e) (g8 : σ.get 8 = mv) (g9 : σ.get 9 = .int .i64 n) (g10 : σ.get 10 = f) {Q : AExit → St → Prop} (hQ : ∀ σ' h', σ'.get 4 = .bool true → Q .ret ⟨σ', h'⟩) : wpc env (.seq (.ops a5_3) .ret) ⟨σ, h⟩ Q := by
  have hsame := same_spec hlv hmv hln
  rw [decide_eq_true rfl] at hsame
  obtain ⟨o, ev, h1, ho1, hl1, rfl⟩ := hr h ho
  have w1 : WC env 8 [e, f] h (fun o => o = _) := ⟨_, ev, rfl⟩
  have z0 : (n == n) = true := by simp
  simp only [a5_3, wpc_skip, wpc_ops, wpc_draw, wpc_seq, wpc_cond, wpc_block, wpc_loop, wpc_exit, wpc_scope, wpc_ret, seqQ_norm, seqQ_ret, seqQ_exit, blockQ'_norm, blockQ'_ret, blockQ'_exit, roundQ_norm, roundQ_ret, roundQ_exit, condK_true, condK_false, wpo_nil', wpo_none, wpo_some, opsK_apply, guardK_tt, guardK_ff, guardK_tf, guardK_ft, wp1_call, callK_ret, wp1_mv', wp1_bin', wp1_un', wp1_eq', wp1_extract', wp1_pick', wp1_len', wp1_load', wp1_conv', wp1_store', wp1_idxAddr', wp1_append', wp1_mkIface', wp1_alloc', rd_t, rd_c, ok_t, ok_c, put_some, put_none, get_put, reduceIte, Nat.reduceEqDiff, AV.bool.injEq, Option.some.injEq, exists_eq_left', Option.map_some, Option.bind_some, opds_nil, opds_cons, opd_t, opd_c, aBin, aInt, decide_true, decide_false, negIf, wp1_nilCheck', wp1_fieldAddr', wp1_slice, op_slice, opdo_some, opdo_none, wp1_lit, op_lit, parts_nil, parts_cons, wp1_build, op_build, wp1_box, op_box, g5, g6, g7, g8, g9, g10, wc_eq hsame, z0, wc_eq w1, aPick, wc_eq (awake_spec _)]
  exact hQ _ _ (by simp only [get_put, reduceIte, Nat.reduceEqDiff])

theorem splits_spec {w : Int} {bv : AV} {b : List UInt8} (hbv : ∀ h, Bytes h bv b) (hsm : b.length < 1000000000000) : WC env 5 [.int .i64 w, bv] .empty (fun o => ∃ h', o = .ret ⟨.bool true, h', .write⟩) := by
  have fin : ∀ {σ : Slots} {h : Heap}, σ.get 4 = .bool true → ∃ vs, env.results ⟨σ, h⟩ [.tmp 4] = some vs ∧ ∃ h', COut.ret ⟨oneOrTup vs, h, .write⟩ = .ret ⟨.bool true, h', .write⟩ := by
    intro σ h g2
    exact ⟨[.bool true], by simp only [Env.results, Option.map_some, g2], h, rfl⟩
  by_cases hw : w = 2 ∨ w = 4
  · obtain ⟨n, hn, rfl⟩ : ∃ n : Nat, (n = 2 ∨ n = 4) ∧ w = n := by
      rcases hw with rfl | rfl
      · exact ⟨2, .inl rfl, rfl⟩
      · exact ⟨4, .inr rfl, rfl⟩
    obtain ⟨o1, ev1, h1, ho1, hl1, hr1⟩ := split_spec hn HeapOk.empty (hbv _) hsm
    obtain ⟨o2, ev2, h2, ho2, hl2, hr2⟩ := rsplit_spec hn ho1 (hbv _) hsm
    have hlen := splitF_len (w := n) (by omega) (b.length + 1) b 0 []
    by_cases c : (splitF n (b.length + 1) b 0 []).2.2 = true
    · rw [if_pos c] at hr1 hr2
      subst hr1 hr2
      have w1 : WC env 19 [.int .i64 n, bv] .empty (fun o => o = _) := ⟨_, ev1, rfl⟩
      have w2 : WC env 20 [.int .i64 n, bv] h1 (fun o => o = _) := ⟨_, ev2, rfl⟩
      refine call_body rfl rfl (.inl rfl) ?_
      simp only [a5, a5_0, a5_1, a5_2, Slots.ofList, wpc_skip, wpc_ops, wpc_draw, wpc_seq, wpc_cond, wpc_block, wpc_loop, wpc_exit, wpc_scope, wpc_ret, seqQ_norm, seqQ_ret, seqQ_exit, blockQ'_norm, blockQ'_ret, blockQ'_exit, roundQ_norm, roundQ_ret, roundQ_exit, condK_true, condK_false, wpo_nil', wpo_none, wpo_some, opsK_apply, guardK_tt, guardK_ff, guardK_tf, guardK_ft, wp1_call, callK_ret, wp1_mv', wp1_bin', wp1_un', wp1_eq', wp1_extract', wp1_pick', wp1_len', wp1_load', wp1_conv', wp1_store', wp1_idxAddr', wp1_append', wp1_mkIface', wp1_alloc', rd_t, rd_c, ok_t, ok_c, put_some, put_none, get_put, reduceIte, Nat.reduceEqDiff, AV.bool.injEq, Option.some.injEq, exists_eq_left', Option.map_some, Option.bind_some, opds_nil, opds_cons, opd_t, opd_c, aBin, aInt, decide_true, decide_false, negIf, wp1_nilCheck', wp1_fieldAddr', wp1_slice, op_slice, opdo_some, opdo_none, wp1_lit, op_lit, parts_nil, parts_cons, wp1_build, op_build, wp1_box, op_box, wc_eq w1, wc_eq w2, aExtract, ex20, ex21, ex22]
      refine splits_end ho2 (lv := .nils) (mv := .nils) (n := 0) (l := []) .nils .nils (by simp) (fun h ho => refused_hit (l := [102, 114, 97, 109, 101]) (a := (splitF n (b.length + 1) b 0 []).2.1) (c := 120) ho) ?_ ?_ ?_ ?_ ?_ ?_ fun σ' h' g4 => fin g4
      all_goals simp only [get_put, reduceIte, Nat.reduceEqDiff, faultV_L]
    · rw [if_neg c] at hr1 hr2
      obtain ⟨lv, cells, hL, rfl⟩ := hr1
      obtain ⟨mv, cells2, hM, rfl⟩ := hr2
      have w1 : WC env 19 [.int .i64 n, bv] .empty (fun o => o = _) := ⟨_, ev1, rfl⟩
      have w2 : WC env 20 [.int .i64 n, bv] h1 (fun o => o = _) := ⟨_, ev2, rfl⟩
      refine call_body rfl rfl (.inl rfl) ?_
      simp only [a5, a5_0, a5_1, a5_2, Slots.ofList, wpc_skip, wpc_ops, wpc_draw, wpc_seq, wpc_cond, wpc_block, wpc_loop, wpc_exit, wpc_scope, wpc_ret, seqQ_norm, seqQ_ret, seqQ_exit, blockQ'_norm, blockQ'_ret, blockQ'_exit, roundQ_norm, roundQ_ret, roundQ_exit, condK_true, condK_false, wpo_nil', wpo_none, wpo_some, opsK_apply, guardK_tt, guardK_ff, guardK_tf, guardK_ft, wp1_call, callK_ret, wp1_mv', wp1_bin', wp1_un', wp1_eq', wp1_extract', wp1_pick', wp1_len', wp1_load', wp1_conv', wp1_store', wp1_idxAddr', wp1_append', wp1_mkIface', wp1_alloc', rd_t, rd_c, ok_t, ok_c, put_some, put_none, get_put, reduceIte, Nat.reduceEqDiff, AV.bool.injEq, Option.some.injEq, exists_eq_left', Option.map_some, Option.bind_some, opds_nil, opds_cons, opd_t, opd_c, aBin, aInt, decide_true, decide_false, negIf, wp1_nilCheck', wp1_fieldAddr', wp1_slice, op_slice, opdo_some, opdo_none, wp1_lit, op_lit, parts_nil, parts_cons, wp1_build, op_build, wp1_box, op_box, wc_eq w1, wc_eq w2, aExtract, ex20, ex21, ex22]
      refine splits_end ho2 (n := ((splitF n (b.length + 1) b 0 []).2.1 : Int)) (hL.lb.le hl2) hM.lb (by simp at hlen; omega) (fun h ho => refused_ok' ho) ?_ ?_ ?_ ?_ ?_ ?_ fun σ' h' g4 => fin g4
      all_goals simp only [get_put, reduceIte, Nat.reduceEqDiff]
  · have h2 : w ≠ 2 := fun e => hw (.inl e)
    have h4 : w ≠ 4 := fun e => hw (.inr e)
    have w1 := split_bad h2 h4 bv .empty
    have w2 := rsplit_bad h2 h4 bv .empty
    refine call_body rfl rfl (.inl rfl) ?_
    simp only [a5, a5_0, a5_1, a5_2, Slots.ofList, wpc_skip, wpc_ops, wpc_draw, wpc_seq, wpc_cond, wpc_block, wpc_loop, wpc_exit, wpc_scope, wpc_ret, seqQ_norm, seqQ_ret, seqQ_exit, blockQ'_norm, blockQ'_ret, blockQ'_exit, roundQ_norm, roundQ_ret, roundQ_exit, condK_true, condK_false, wpo_nil', wpo_none, wpo_some, opsK_apply, guardK_tt, guardK_ff, guardK_tf, guardK_ft, wp1_call, callK_ret, wp1_mv', wp1_bin', wp1_un', wp1_eq', wp1_extract', wp1_pick', wp1_len', wp1_load', wp1_conv', wp1_store', wp1_idxAddr', wp1_append', wp1_mkIface', wp1_alloc', rd_t, rd_c, ok_t, ok_c, put_some, put_none, get_put, reduceIte, Nat.reduceEqDiff, AV.bool.injEq, Option.some.injEq, exists_eq_left', Option.map_some, Option.bind_some, opds_nil, opds_cons, opd_t, opd_c, aBin, aInt, decide_true, decide_false, negIf, wp1_nilCheck', wp1_fieldAddr', wp1_slice, op_slice, opdo_some, opdo_none, wp1_lit, op_lit, parts_nil, parts_cons, wp1_build, op_build, wp1_box, op_box, wc_eq w1, wc_eq w2, aExtract, ex20, ex21, ex22]
    refine splits_end HeapOk.empty (lv := .nils) (mv := .nils) (n := 0) (l := []) .nils .nils (by simp) (fun h ho => refused_hit (l := [102, 114, 97, 109, 101]) (a := 0) (c := 1) ho) ?_ ?_ ?_ ?_ ?_ ?_ fun σ' h' g4 => fin g4
    all_goals simp only [get_put, reduceIte, Nat.reduceEqDiff, faultV_L]
end Go.Fd
