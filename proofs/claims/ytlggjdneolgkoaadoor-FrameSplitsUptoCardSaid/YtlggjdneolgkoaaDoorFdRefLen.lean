/-
  Package heddleref06: length.
-/
import Derived.Test.YtlggjdneolgkoaaDoorFdRef
import Derived.Test.YtlggjdneolgkoaaDoorFdSplit2
set_option linter.unusedVariables false
set_option linter.unusedSimpArgs false
set_option maxRecDepth 20000
namespace Go.Fd
open Go.AM

theorem rlength_loop {h : Heap} {v : AV} {bs : List UInt8} (hb : Bytes h v bs) {w at_ : Nat} (hw : w ≤ 4) (hat : at_ + w ≤ bs.length) (hsm : bs.length < 1000000000000) {Q : AExit → St → Prop} (hQ : ∀ σ, σ.get 7 = .int .i64 (num ((bs.drop at_).take w)) → Q (.exit 0) ⟨σ, h⟩) :
    ∀ (k i : Nat) (σ : Slots), i + k = w → σ.get 0 = .int .i64 w → σ.get 1 = v → σ.get 2 = .int .i64 at_ → σ.get 8 = .int .i64 i → σ.get 7 = .int .i64 (num ((bs.drop at_).take i)) → WPr env a30_l8 ⟨σ, h⟩ Q := by
  intro k
  induction k with
  | zero =>
    intro i σ hi g0 g1 g2 g8 g7
    have hi' : i = w := by omega
    subst hi'
    refine wpr_round' fun b hb' => ?_
    have z0 : ((i : Int) < (i : Int)) = False := by simp
    simp only [a30_l8, a30_5, wpc_skip, wpc_ops, wpc_draw, wpc_seq, wpc_cond, wpc_block, wpc_loop, wpc_exit, wpc_scope, wpc_ret, seqQ_norm, seqQ_ret, seqQ_exit, blockQ'_norm, blockQ'_ret, blockQ'_exit, roundQ_norm, roundQ_ret, roundQ_exit, condK_true, condK_false, wpo_nil', wpo_none, wpo_some, opsK_apply, guardK_tt, guardK_ff, guardK_tf, guardK_ft, wp1_call, callK_ret, wp1_mv', wp1_bin', wp1_un', wp1_eq', wp1_extract', wp1_pick', wp1_len', wp1_load', wp1_conv', wp1_store', wp1_idxAddr', wp1_append', wp1_mkIface', wp1_alloc', rd_t, rd_c, ok_t, ok_c, put_some, put_none, get_put, reduceIte, Nat.reduceEqDiff, AV.bool.injEq, Option.some.injEq, exists_eq_left', Option.map_some, Option.bind_some, opds_nil, opds_cons, opd_t, opd_c, aBin, aInt, decide_true, decide_false, negIf, g0, g1, g2, g8, g7, z0]
    exact hQ _ (by simp only [get_put, reduceIte, Nat.reduceEqDiff, g7])
  | succ k ih =>
    intro i σ hi g0 g1 g2 g8 g7
    have z0 : ((i : Int) < (w : Int)) = True := eq_true (by omega)
    obtain ⟨p, c, e1, e2, e3⟩ := hb.elem (kd := .i64) (i := at_ + i) (by omega)
    have hts : (bs.drop at_).take (i + 1) = (bs.drop at_).take i ++ [bs.getD (at_ + i) 0] := by
      have hlt : i < (bs.drop at_).length := by simp; omega
      rw [take_snoc hlt]
      congr 2
      rw [List.getD_eq_getElem?_getD, List.getD_eq_getElem?_getD, List.getElem?_drop]
    obtain ⟨x, hx⟩ : ∃ x, x = bs.getD (at_ + i) 0 := ⟨_, rfl⟩
    rw [← hx] at e2 hts
    have hn : num ((bs.drop at_).take i) < 16777216 := by
      have h1 := num_lt ((bs.drop at_).take i)
      have h2 : ((bs.drop at_).take i).length ≤ 3 := by simp; omega
      have h3 : 256 ^ ((bs.drop at_).take i).length ≤ 256 ^ 3 := Nat.pow_le_pow_right (by omega) h2
      omega
    obtain ⟨N, hN⟩ : ∃ N, N = num ((bs.drop at_).take i) := ⟨_, rfl⟩
    obtain ⟨A, hA⟩ : ∃ A, A = at_ + i := ⟨_, rfl⟩
    obtain ⟨M, hM⟩ : ∃ M, M = N * 256 := ⟨_, rfl⟩
    obtain ⟨I, hI⟩ : ∃ I, I = i + 1 := ⟨_, rfl⟩
    obtain ⟨R, hR⟩ : ∃ R, R = M + x.toNat := ⟨_, rfl⟩
    have hxl := x.toNat_lt
    rw [← hN] at g7 hn
    rw [← hA] at e1
    have w1 : IntKind.wrap .i64 ((N : Int) * 256) = (M : Int) := wrap_nat (by omega) (by omega)
    have w2 : IntKind.wrap .i64 ((at_ : Int) + (i : Int)) = (A : Int) := wrap_nat (by omega) (by omega)
    have w3 : IntKind.wrap .i64 ((M : Int) + (x.toNat : Int)) = (R : Int) := wrap_nat (by omega) (by omega)
    have w4 : IntKind.wrap .i64 ((i : Int) + 1) = (I : Int) := wrap_nat (by omega) (by omega)
    have w5 : aConv h (.int .i64) (byteAV x) = some ⟨.int .i64 x.toNat, h, .none⟩ := by
      simp only [aConv, byteAV, wrap_small (show x.toNat < 9223372036854775808 by omega)]
    refine wpr_round' fun b hb' => ?_
    simp only [a30_l8, a30_5, a30_6, a30_7, wpc_skip, wpc_ops, wpc_draw, wpc_seq, wpc_cond, wpc_block, wpc_loop, wpc_exit, wpc_scope, wpc_ret, seqQ_norm, seqQ_ret, seqQ_exit, blockQ'_norm, blockQ'_ret, blockQ'_exit, roundQ_norm, roundQ_ret, roundQ_exit, condK_true, condK_false, wpo_nil', wpo_none, wpo_some, opsK_apply, guardK_tt, guardK_ff, guardK_tf, guardK_ft, wp1_call, callK_ret, wp1_mv', wp1_bin', wp1_un', wp1_eq', wp1_extract', wp1_pick', wp1_len', wp1_load', wp1_conv', wp1_store', wp1_idxAddr', wp1_append', wp1_mkIface', wp1_alloc', rd_t, rd_c, ok_t, ok_c, put_some, put_none, get_put, reduceIte, Nat.reduceEqDiff, AV.bool.injEq, Option.some.injEq, exists_eq_left', Option.map_some, Option.bind_some, opds_nil, opds_cons, opd_t, opd_c, aBin, aInt, decide_true, decide_false, negIf, g0, g1, g2, g8, g7, z0, w1, w2, e1, e2, w5, w3, w4]
    subst hb'
    refine ih I _ (by omega) ?_ ?_ ?_ ?_ ?_ <;> simp only [get_put, reduceIte, Nat.reduceEqDiff, g0, g1, g2]
    rw [hI, hts, num_snoc, ← hN, hR, hM]
end Go.Fd
