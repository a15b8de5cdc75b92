/-
  Package heddleref06: Split, its loop.
-/
import Derived.Test.YtlggjdneolgkoaaDoorFdRefSplit
set_option linter.unusedVariables false
set_option linter.unusedSimpArgs false
set_option maxRecDepth 20000
namespace Go.Fd
open Go.AM

theorem rsplit_loop {w : Nat} (hw : w = 2 ∨ w = 4) {v : AV} {bs : List UInt8} {h0 : Heap} (ho0 : HeapOk h0) (hb0 : Bytes h0 v bs) (hsm : bs.length < 1000000000000) {Q : AExit → St → Prop} :
    ∀ (f at_ : Nat) (acc : List (List UInt8)) (cells : List AV) (lv : AV) (h : Heap) (σ : Slots), at_ ≤ bs.length → bs.length - at_ < f → acc.length ≤ at_ → HeapOk h → h0.le h → Lists h lv cells acc h0.next →
      σ.get 0 = .int .i64 w → σ.get 1 = v → σ.get 7 = .int .i64 (maxOf w) → σ.get 8 = lv → σ.get 9 = .int .i64 at_ →
      (∀ σ' h' lv' cells', HeapOk h' → h0.le h' → (splitF w f (bs.drop at_) at_ acc).2.2 = false → Lists h' lv' cells' (splitF w f (bs.drop at_) at_ acc).1 h0.next → σ'.get 4 = lv' →
        σ'.get 5 = .int .i64 (splitF w f (bs.drop at_) at_ acc).2.1 → σ'.get 6 = .nils → Q .ret ⟨σ', h'⟩) →
      (∀ σ' h', HeapOk h' → h0.le h' → (splitF w f (bs.drop at_) at_ acc).2.2 = true → σ'.get 4 = .nils → σ'.get 5 = .int .i64 0 → σ'.get 6 = linkV [102, 114, 97, 109, 101] (splitF w f (bs.drop at_) at_ acc).2.1 120 → Q .ret ⟨σ', h'⟩) →
      WPr env a20_l13 ⟨σ, h⟩ Q := by
  intro f
  induction f with
  | zero => intro at_ acc cells lv h σ h1 h2; omega
  | succ f ih =>
    intro at_ acc cells lv h σ hat hf hal ho hl0 hL g0 g1 g7 g8 g9 hQ hQf
    obtain ⟨n1, hn1⟩ : ∃ n1, bs.length = at_ + n1 := ⟨bs.length - at_, by omega⟩
    have hb := hb0.le hl0
    have hlen := hb.lenOp
    have hrl : (bs.drop at_).length = n1 := by simp; omega
    have hw4 : w ≤ 4 := by rcases hw with rfl | rfl <;> omega
    have hmx : (0 : Int) ≤ maxOf w := by rcases hw with rfl | rfl <;> simp [maxOf]
    refine wpr_round' fun b hb' => ?_
    by_cases c1 : n1 < w
    · have hs : splitF w (f + 1) (bs.drop at_) at_ acc = (acc, at_, false) := by simp only [splitF, hrl, if_pos c1]
      have hk := rlength_short hb hn1 c1 hsm
      have z0 : ((-1 : Int) > maxOf w) = False := eq_false (by omega)
      have z1 : ((-1 : Int) < 0) = True := eq_true (by omega)
      simp only [a20_l13, a20_6, a20_7, a20_9, a20_10, wpc_skip, wpc_ops, wpc_draw, wpc_seq, wpc_cond, wpc_block, wpc_loop, wpc_exit, wpc_scope, wpc_ret, seqQ_norm, seqQ_ret, seqQ_exit, blockQ'_norm, blockQ'_ret, blockQ'_exit, roundQ_norm, roundQ_ret, roundQ_exit, condK_true, condK_false, wpo_nil', wpo_none, wpo_some, opsK_apply, guardK_tt, guardK_ff, guardK_tf, guardK_ft, wp1_call, callK_ret, wp1_mv', wp1_bin', wp1_un', wp1_eq', wp1_extract', wp1_pick', wp1_len', wp1_load', wp1_conv', wp1_store', wp1_idxAddr', wp1_append', wp1_mkIface', wp1_alloc', rd_t, rd_c, ok_t, ok_c, put_some, put_none, get_put, reduceIte, Nat.reduceEqDiff, AV.bool.injEq, Option.some.injEq, exists_eq_left', Option.map_some, Option.bind_some, opds_nil, opds_cons, opd_t, opd_c, aBin, aInt, decide_true, decide_false, negIf, wp1_slice, op_slice, opdo_some, opdo_none, wp1_lit, op_lit, parts_nil, parts_cons, g0, g1, g7, g8, g9, wc_eq hk, z0, z1, aPick]
      rw [hs] at hQ
      exact hQ _ h lv cells ho hl0 rfl hL (by simp only [get_put, reduceIte, Nat.reduceEqDiff]) (by simp only [get_put, reduceIte, Nat.reduceEqDiff]) (by simp only [get_put, reduceIte, Nat.reduceEqDiff])
    · have hk := rlength_spec hb hn1 hw4 (by omega) hsm
      obtain ⟨k, hkk⟩ : ∃ k, k = num ((bs.drop at_).take w) := ⟨_, rfl⟩
      rw [← hkk] at hk
      have hk32 : k < 4294967296 := by
        have h1 := num_lt ((bs.drop at_).take w)
        have h2 : ((bs.drop at_).take w).length ≤ 4 := by simp; omega
        have h3 : 256 ^ ((bs.drop at_).take w).length ≤ 256 ^ 4 := Nat.pow_le_pow_right (by omega) h2
        rw [hkk]; omega
      by_cases c2 : maxOf w < k
      · have hs : splitF w (f + 1) (bs.drop at_) at_ acc = (acc, at_, true) := by simp only [splitF, hrl, if_neg c1, ← hkk, if_pos c2]
        have z0 : ((k : Int) > maxOf w) = True := eq_true (by omega)
        simp only [a20_l13, a20_6, a20_7, a20_8, wpc_skip, wpc_ops, wpc_draw, wpc_seq, wpc_cond, wpc_block, wpc_loop, wpc_exit, wpc_scope, wpc_ret, seqQ_norm, seqQ_ret, seqQ_exit, blockQ'_norm, blockQ'_ret, blockQ'_exit, roundQ_norm, roundQ_ret, roundQ_exit, condK_true, condK_false, wpo_nil', wpo_none, wpo_some, opsK_apply, guardK_tt, guardK_ff, guardK_tf, guardK_ft, wp1_call, callK_ret, wp1_mv', wp1_bin', wp1_un', wp1_eq', wp1_extract', wp1_pick', wp1_len', wp1_load', wp1_conv', wp1_store', wp1_idxAddr', wp1_append', wp1_mkIface', wp1_alloc', rd_t, rd_c, ok_t, ok_c, put_some, put_none, get_put, reduceIte, Nat.reduceEqDiff, AV.bool.injEq, Option.some.injEq, exists_eq_left', Option.map_some, Option.bind_some, opds_nil, opds_cons, opd_t, opd_c, aBin, aInt, decide_true, decide_false, negIf, wp1_slice, op_slice, opdo_some, opdo_none, wp1_lit, op_lit, parts_nil, parts_cons, g0, g1, g7, g8, g9, wc_eq hk, wc_eq (no_spec _ _ _), z0]
        rw [hs] at hQf
        exact hQf _ h ho hl0 rfl (by simp only [get_put, reduceIte, Nat.reduceEqDiff]) (by simp only [get_put, reduceIte, Nat.reduceEqDiff]) (by simp only [get_put, reduceIte, Nat.reduceEqDiff])
      · obtain ⟨n2, hn2⟩ : ∃ n2, n1 = w + n2 := ⟨n1 - w, by omega⟩
        have z0 : ((k : Int) > maxOf w) = False := eq_false (by omega)
        have z1 : ((k : Int) < 0) = False := eq_false (by omega)
        have e1 : IntKind.wrap .i64 ((bs.length : Int) - (at_ : Int)) = (n1 : Int) := wrap_nat (by omega) (by omega)
        have e2 : IntKind.wrap .i64 ((n1 : Int) - (w : Int)) = (n2 : Int) := wrap_nat (by omega) (by omega)
        by_cases c3 : n2 < k
        · have hs : splitF w (f + 1) (bs.drop at_) at_ acc = (acc, at_, false) := by
            simp only [splitF, hrl, if_neg c1, ← hkk, if_neg c2]
            rw [if_pos (by omega)]
          have z2 : ((n2 : Int) < (k : Int)) = True := eq_true (by omega)
          simp only [a20_l13, a20_6, a20_7, a20_9, a20_10, wpc_skip, wpc_ops, wpc_draw, wpc_seq, wpc_cond, wpc_block, wpc_loop, wpc_exit, wpc_scope, wpc_ret, seqQ_norm, seqQ_ret, seqQ_exit, blockQ'_norm, blockQ'_ret, blockQ'_exit, roundQ_norm, roundQ_ret, roundQ_exit, condK_true, condK_false, wpo_nil', wpo_none, wpo_some, opsK_apply, guardK_tt, guardK_ff, guardK_tf, guardK_ft, wp1_call, callK_ret, wp1_mv', wp1_bin', wp1_un', wp1_eq', wp1_extract', wp1_pick', wp1_len', wp1_load', wp1_conv', wp1_store', wp1_idxAddr', wp1_append', wp1_mkIface', wp1_alloc', rd_t, rd_c, ok_t, ok_c, put_some, put_none, get_put, reduceIte, Nat.reduceEqDiff, AV.bool.injEq, Option.some.injEq, exists_eq_left', Option.map_some, Option.bind_some, opds_nil, opds_cons, opd_t, opd_c, aBin, aInt, decide_true, decide_false, negIf, wp1_slice, op_slice, opdo_some, opdo_none, wp1_lit, op_lit, parts_nil, parts_cons, g0, g1, g7, g8, g9, wc_eq hk, z0, z1, z2, hlen, e1, e2, aPick]
          rw [hs] at hQ
          exact hQ _ h lv cells ho hl0 rfl hL (by simp only [get_put, reduceIte, Nat.reduceEqDiff]) (by simp only [get_put, reduceIte, Nat.reduceEqDiff]) (by simp only [get_put, reduceIte, Nat.reduceEqDiff])
        · have z2 : ((n2 : Int) < (k : Int)) = False := eq_false (by omega)
          have hs : splitF w (f + 1) (bs.drop at_) at_ acc = splitF w f (bs.drop (at_ + (w + k))) (at_ + (w + k)) (acc ++ [((bs.drop at_).drop w).take k]) := by
            rw [splitF, hrl, if_neg c1, ← hkk, if_neg c2, if_neg (by omega), List.drop_drop]
          obtain ⟨A, hA⟩ : ∃ A, A = at_ + w := ⟨_, rfl⟩
          obtain ⟨M, hM⟩ : ∃ M, M = A + k := ⟨_, rfl⟩
          have e3 : IntKind.wrap .i64 ((at_ : Int) + (w : Int)) = (A : Int) := wrap_nat (by omega) (by omega)
          have e4 : IntKind.wrap .i64 ((A : Int) + (k : Int)) = (M : Int) := wrap_nat (by omega) (by omega)
          obtain ⟨v3, t1, t2⟩ := hb.mid (k1 := .i64) (k2 := .i64) (l := A) (u := M) (by omega) (by omega)
          obtain ⟨v4, h1, c, u1, u2, u3, u4, u5⟩ := append_fresh ho t2 (by simp; omega)
          obtain ⟨lv', h2, c', x1, x2, x3, x4⟩ := hL.snoc ho u4 u3 u2 u5 hl0.1 (by omega)
          have hbody : (bs.drop A).take (M - A) = ((bs.drop at_).drop w).take k := by
            rw [List.drop_drop, hA]; congr 1; omega
          rw [hbody] at x2
          have y1 : aFill [] [] = some [] := rfl
          have y2 : aFill [.nils] [(0, 1, v4)] = some [v4] := by simp [aFill, u2.row, splice]
          have y3 : ([] : List AV).length = 0 * 1 := rfl
          have y4 : [v4].length = 1 * 1 := rfl
          have hl2 : h0.le h2 := by
            refine ⟨Nat.le_trans hl0.1 (Nat.le_trans u3.1 x4.1), fun id gen cs e => x4.2 id gen cs (fun e2 => ?_) (u3.2 _ _ _ (hl0.2 _ _ _ e))⟩
            have h5 := (hL.new id e2).1
            have h6 := ho0.lt e
            omega
          simp only [a20_l13, a20_6, a20_7, a20_9, a20_11, a20_12, wpc_skip, wpc_ops, wpc_draw, wpc_seq, wpc_cond, wpc_block, wpc_loop, wpc_exit, wpc_scope, wpc_ret, seqQ_norm, seqQ_ret, seqQ_exit, blockQ'_norm, blockQ'_ret, blockQ'_exit, roundQ_norm, roundQ_ret, roundQ_exit, condK_true, condK_false, wpo_nil', wpo_none, wpo_some, opsK_apply, guardK_tt, guardK_ff, guardK_tf, guardK_ft, wp1_call, callK_ret, wp1_mv', wp1_bin', wp1_un', wp1_eq', wp1_extract', wp1_pick', wp1_len', wp1_load', wp1_conv', wp1_store', wp1_idxAddr', wp1_append', wp1_mkIface', wp1_alloc', rd_t, rd_c, ok_t, ok_c, put_some, put_none, get_put, reduceIte, Nat.reduceEqDiff, AV.bool.injEq, Option.some.injEq, exists_eq_left', Option.map_some, Option.bind_some, opds_nil, opds_cons, opd_t, opd_c, aBin, aInt, decide_true, decide_false, negIf, wp1_slice, op_slice, opdo_some, opdo_none, wp1_lit, op_lit, parts_nil, parts_cons, g0, g1, g7, g8, g9, wc_eq hk, z0, z1, z2, hlen, e1, e2, e3, e4, aPick, t1, u1, x1, y1, y2, if_pos y3, if_pos y4]
          subst hb'
          rw [hs] at hQ hQf
          have hMe : at_ + (w + k) = M := by omega
          rw [hMe] at hQ hQf
          exact ih M _ _ lv' h2 _ (by omega) (by omega) (by simp; omega) x3 hl2 x2 (by simp only [get_put, reduceIte, Nat.reduceEqDiff, g0]) (by simp only [get_put, reduceIte, Nat.reduceEqDiff, g1]) (by simp only [get_put, reduceIte, Nat.reduceEqDiff, g7]) (by simp only [get_put, reduceIte, Nat.reduceEqDiff]) (by simp only [get_put, reduceIte, Nat.reduceEqDiff]) hQ hQf
end Go.Fd
