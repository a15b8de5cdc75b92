/-
  Package frame: FrameBack answers true, the walk.
-/
import Derived.Test.YtlggjdneolgkoaaFrBack
set_option linter.unusedVariables false
set_option linter.unusedSimpArgs false
set_option maxRecDepth 20000
namespace Go.Fr
open Go.AM

theorem lenNils (h : Heap) : aLenOp false h .nils = some ⟨.int .i64 0, h, .none⟩ := rfl

/-- the answer at a body that is too long -/
theorem back_long (w : Int) {lv p u : AV} {i k : Nat} {c : Cls} (hw : w = 2 ∨ w = 4) (σ : Slots) (h : Heap) {Q : AExit → St → Prop} (g0 : σ.get 0 = .int .i64 w) (g1 : σ.get 1 = lv) (g6 : σ.get 6 = .int .i64 i) (g7 : σ.get 7 = .nils)
    (e1 : aIdxAddr 1 lv (.int .i64 i) = some p) (e2 : aLoad h false 1 p = some ⟨u, h, c⟩) (e3 : aLenOp false h u = some ⟨.int .i64 k, h, .none⟩) (hk : (1024 : Int) < k) (hQ : ∀ σ', σ'.get 4 = .bool true → Q .norm ⟨σ', h⟩) :
    wpo env a4_6 ⟨σ, h⟩ Q := by
  have z0 : ((0 : Int) == 0) = true := rfl
  have z1 : ((2 : Int) != 2) = false := rfl
  have z2 : ((4 : Int) != 2) = true := rfl
  have z3 : ((4 : Int) != 4) = false := rfl
  have z4 : ((k : Int) > 1024) = True := eq_true hk
  rcases hw with rfl | rfl
  · simp only [a4_6, wpc_skip, wpc_ops, wpc_draw, wpc_seq, wpc_cond, wpc_block, wpc_loop, wpc_exit, wpc_scope, wpc_ret, seqQ_norm, seqQ_ret, seqQ_exit, blockQ'_norm, blockQ'_ret, blockQ'_exit, roundQ_norm, roundQ_ret, roundQ_exit, condK_true, condK_false, wpo_nil', wpo_none, wpo_some, opsK_apply, guardK_tt, guardK_ff, guardK_tf, guardK_ft, wp1_call, callK_ret, wp1_mv', wp1_bin', wp1_un', wp1_eq', wp1_extract', wp1_pick', wp1_len', wp1_load', wp1_conv', wp1_store', wp1_idxAddr', wp1_append', wp1_mkIface', wp1_alloc', rd_t, rd_c, ok_t, ok_c, put_some, put_none, get_put, reduceIte, Nat.reduceEqDiff, AV.bool.injEq, Option.some.injEq, exists_eq_left', Option.map_some, Option.bind_some, opds_nil, opds_cons, opd_t, opd_c, aBin, aInt, decide_true, decide_false, negIf, g0, g1, g6, g7, e1, e2, e3, hk, lenNils, wc_eq (awake_spec h), aPick, z0, z1, z2, z3, z4]
    exact hQ _ (by simp [get_put])
  · simp only [a4_6, wpc_skip, wpc_ops, wpc_draw, wpc_seq, wpc_cond, wpc_block, wpc_loop, wpc_exit, wpc_scope, wpc_ret, seqQ_norm, seqQ_ret, seqQ_exit, blockQ'_norm, blockQ'_ret, blockQ'_exit, roundQ_norm, roundQ_ret, roundQ_exit, condK_true, condK_false, wpo_nil', wpo_none, wpo_some, opsK_apply, guardK_tt, guardK_ff, guardK_tf, guardK_ft, wp1_call, callK_ret, wp1_mv', wp1_bin', wp1_un', wp1_eq', wp1_extract', wp1_pick', wp1_len', wp1_load', wp1_conv', wp1_store', wp1_idxAddr', wp1_append', wp1_mkIface', wp1_alloc', rd_t, rd_c, ok_t, ok_c, put_some, put_none, get_put, reduceIte, Nat.reduceEqDiff, AV.bool.injEq, Option.some.injEq, exists_eq_left', Option.map_some, Option.bind_some, opds_nil, opds_cons, opd_t, opd_c, aBin, aInt, decide_true, decide_false, negIf, g0, g1, g6, g7, e1, e2, e3, hk, lenNils, wc_eq (awake_spec h), aPick, z0, z1, z2, z3, z4]
    exact hQ _ (by simp [get_put])

/-- the answer at a width that is none -/
theorem back_bad {w : Int} (h2 : w ≠ 2) (h4 : w ≠ 4) (σ : Slots) (h : Heap) {Q : AExit → St → Prop} (g0 : σ.get 0 = .int .i64 w) (g7 : σ.get 7 = .nils) (hQ : ∀ σ', σ'.get 4 = .bool true → Q .norm ⟨σ', h⟩) :
    wpo env a4_6 ⟨σ, h⟩ Q := by
  have b2 : (w != 2) = true := by simp [h2]
  have b4 : (w != 4) = true := by simp [h4]
  have z0 : ((0 : Int) == 0) = true := rfl
  simp only [a4_6, wpc_skip, wpc_ops, wpc_draw, wpc_seq, wpc_cond, wpc_block, wpc_loop, wpc_exit, wpc_scope, wpc_ret, seqQ_norm, seqQ_ret, seqQ_exit, blockQ'_norm, blockQ'_ret, blockQ'_exit, roundQ_norm, roundQ_ret, roundQ_exit, condK_true, condK_false, wpo_nil', wpo_none, wpo_some, opsK_apply, guardK_tt, guardK_ff, guardK_tf, guardK_ft, wp1_call, callK_ret, wp1_mv', wp1_bin', wp1_un', wp1_eq', wp1_extract', wp1_pick', wp1_len', wp1_load', wp1_conv', wp1_store', wp1_idxAddr', wp1_append', wp1_mkIface', wp1_alloc', rd_t, rd_c, ok_t, ok_c, put_some, put_none, get_put, reduceIte, Nat.reduceEqDiff, AV.bool.injEq, Option.some.injEq, exists_eq_left', Option.map_some, Option.bind_some, opds_nil, opds_cons, opd_t, opd_c, aBin, aInt, decide_true, decide_false, negIf, g0, g7, b2, b4, lenNils, wc_eq (awake_spec h), aPick, z0]
  exact hQ _ (by simp [get_put])

theorem ex0 (a b : AV) : ([a, b] : List AV)[0]? = some a := rfl
theorem ex1 (a b : AV) : ([a, b] : List AV)[1]? = some b := rfl

theorem flat_le (f : List UInt8 → List UInt8) (l : List (List UInt8)) (i : Nat) : ((l.take i).map f).flatten.length ≤ (l.map f).flatten.length := by
  conv => rhs; rw [← List.take_append_drop i l]
  simp only [List.map_append, List.flatten_append, List.length_append]
  omega

theorem back_loop {w : Nat} (hw : w = 2 ∨ w = 4) {lv : AV} {l : List (List UInt8)} (hl : ∀ h, LB h lv l) (hsz : (l.map (fr w)).flatten.length < 1000000000000) (hln : l.length < 1000000000000) {Q : AExit → St → Prop}
    (hQ : ∀ σ h bv, HeapOk h → Acc h 1 bv ((l.map (fr w)).flatten.map byteAV) → (∀ b ∈ l, (b.length : Int) ≤ maxOf w) → σ.get 0 = .int .i64 w → σ.get 1 = lv → σ.get 5 = bv → Q (.exit 0) ⟨σ, h⟩)
    (hQ2 : ∀ σ h, σ.get 4 = .bool true → Q .ret ⟨σ, h⟩) :
    ∀ (k i : Nat) (σ : Slots) (h : Heap) (bv : AV), i + k = l.length → HeapOk h → Acc h 1 bv (((l.take i).map (fr w)).flatten.map byteAV) → (∀ b ∈ l.take i, (b.length : Int) ≤ maxOf w) →
      σ.get 0 = .int .i64 w → σ.get 1 = lv → σ.get 5 = bv → σ.get 6 = .int .i64 i → WPr env a4_l9 ⟨σ, h⟩ Q := by
  intro k
  induction k with
  | zero =>
    intro i σ h bv hi ho hA hall g0 g1 g5 g6
    have hi' : i = l.length := by omega
    subst hi'
    rw [List.take_of_length_le (Nat.le_refl _)] at hA hall
    have hlen := (hl h).lenOp
    refine wpr_round' fun b hb' => ?_
    simp [a4_l9, a4_3, get_put, aBin, aInt, g0, g1, g5, g6, hlen]
    exact hQ _ h bv ho hA hall (by simp [get_put, g0]) (by simp [get_put, g1]) (by simp [get_put, g5])
  | succ k ih =>
    intro i σ h bv hi ho hA hall g0 g1 g5 g6
    have hlt : i < l.length := by omega
    have hlti : (i : Int) < l.length := by omega
    have hlen := (hl h).lenOp
    obtain ⟨p, c1, u, e1, e2, e3, e4⟩ := (hl h).elem (kd := .i64) hlt
    have hts := take_snoc' hlt
    obtain ⟨X, hX⟩ : ∃ X, X = l.getD i [] := ⟨_, rfl⟩
    rw [← hX] at e4 hts
    have hi1 : IntKind.wrap .i64 ((i : Int) + 1) = ((i + 1 : Nat) : Int) := wrap_nat (by omega) (by omega)
    refine wpr_round' fun b hb' => ?_
    by_cases hXl : (X.length : Int) ≤ maxOf w
    · obtain ⟨o, hev, v', h', rfl, f1, f2, f3⟩ := frame_spec hw ho e4 hXl
      have hk : WC env 13 [.int .i64 w, u] h (fun o => o = .ret ⟨.tup [v', .nili], h', .write⟩) := ⟨_, hev, rfl⟩
      obtain ⟨c2, n2, s2⟩ := f1.cells
      have hA' := hA.le f2
      obtain ⟨m, hm, hml⟩ := hA'.len
      have hfl := flat_le (fr w) l (i + 1)
      rw [hts] at hfl
      simp only [List.map_append, List.map_cons, List.map_nil, List.flatten_append, List.flatten_cons, List.flatten_nil, List.append_nil, List.length_append] at hfl
      have hfx : (fr w X).length = (hdr w X.length ++ X).length := rfl
      simp only [List.length_map, Nat.mul_one] at hml
      obtain ⟨bv', h2, c3, x1, x2, x3, x4, x5, x6⟩ := hA'.append f3 (bt := 1) (by omega) hm f1.len s2 (by simp) (by omega) (by omega)
      simp only [a4_l9, a4_3, a4_4, a4_5, a4_7, a4_8, wpc_skip, wpc_ops, wpc_draw, wpc_seq, wpc_cond, wpc_block, wpc_loop, wpc_exit, wpc_scope, wpc_ret, seqQ_norm, seqQ_ret, seqQ_exit, blockQ'_norm, blockQ'_ret, blockQ'_exit, roundQ_norm, roundQ_ret, roundQ_exit, condK_true, condK_false, wpo_nil', wpo_none, wpo_some, opsK_apply, guardK_tt, guardK_ff, guardK_tf, guardK_ft, wp1_call, callK_ret, wp1_mv', wp1_bin', wp1_un', wp1_eq', wp1_extract', wp1_pick', wp1_len', wp1_load', wp1_conv', wp1_store', wp1_idxAddr', wp1_append', wp1_mkIface', wp1_alloc', rd_t, rd_c, ok_t, ok_c, put_some, put_none, get_put, reduceIte, Nat.reduceEqDiff, AV.bool.injEq, Option.some.injEq, exists_eq_left', Option.map_some, Option.bind_some, opds_nil, opds_cons, opd_t, opd_c, aBin, aInt, decide_true, decide_false, negIf, g0, g1, g5, g6, hlen, hlti, e1, e2, wc_eq hk, aExtract, eq_nil, x1, hi1, ex0, ex1, Bool.not_true, Bool.not_false]
      subst hb'
      refine ih (i + 1) _ h2 bv' (by omega) x4 ?_ ?_ (by simp [get_put, g0]) (by simp [get_put, g1]) (by simp [get_put]) (by simp [get_put])
      · rw [hts]
        simpa [fr] using x2
      · intro b hb
        rw [hts] at hb
        simp only [List.mem_append, List.mem_singleton] at hb
        rcases hb with hb | rfl
        · exact hall b hb
        · exact hXl
    · have hk := frame_long hw e4 (by omega)
      have hXlen := e4.lenOp
      have hlong : (1024 : Int) < X.length := by
        rcases hw with rfl | rfl <;> simp [maxOf] at hXl <;> omega
      simp only [a4_l9, a4_3, a4_4, a4_5, wpc_skip, wpc_ops, wpc_draw, wpc_seq, wpc_cond, wpc_block, wpc_loop, wpc_exit, wpc_scope, wpc_ret, seqQ_norm, seqQ_ret, seqQ_exit, blockQ'_norm, blockQ'_ret, blockQ'_exit, roundQ_norm, roundQ_ret, roundQ_exit, condK_true, condK_false, wpo_nil', wpo_none, wpo_some, opsK_apply, guardK_tt, guardK_ff, guardK_tf, guardK_ft, wp1_call, callK_ret, wp1_mv', wp1_bin', wp1_un', wp1_eq', wp1_extract', wp1_pick', wp1_len', wp1_load', wp1_conv', wp1_store', wp1_idxAddr', wp1_append', wp1_mkIface', wp1_alloc', rd_t, rd_c, ok_t, ok_c, put_some, put_none, get_put, reduceIte, Nat.reduceEqDiff, AV.bool.injEq, Option.some.injEq, exists_eq_left', Option.map_some, Option.bind_some, opds_nil, opds_cons, opd_t, opd_c, aBin, aInt, decide_true, decide_false, negIf, g0, g1, g5, g6, hlen, hlti, e1, e2, wc_eq hk, aExtract, eq_fault, ex0, ex1, Bool.not_true, Bool.not_false]
      refine back_long w (k := X.length) (i := i) (p := p) (u := u) (lv := lv) (c := c1) (by rcases hw with rfl | rfl <;> simp) _ h (by simp [get_put, g0]) (by simp [get_put, g1]) (by simp [get_put, g6]) (by simp [get_put]) e1 e2 hXlen hlong fun σ' g4 => ?_
      simp
      exact hQ2 _ h g4
end Go.Fr
