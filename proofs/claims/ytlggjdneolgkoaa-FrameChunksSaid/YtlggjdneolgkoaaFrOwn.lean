/-
  FrameOwn: the parts behind the first reading.
-/
import Derived.Test.YtlggjdneolgkoaaFrRNext
import Derived.Test.YtlggjdneolgkoaaFrBack3
set_option linter.unusedVariables false
set_option linter.unusedSimpArgs false
set_option maxRecDepth 20000
namespace Go.Fr
open Go.AM

theorem _root_.Go.AM.Bytes.set {h : Heap} {v : AV} {bs : List UInt8} (ho : HeapOk h) (k : Bytes h v bs) {i : Nat} (hi : i < bs.length) (hne : v.own ≠ none) (b : UInt8) :
    ∃ p h', aIdxAddr 1 v (.int .i64 i) = some p ∧ aStore h 1 p (byteAV b) = some ⟨.undef, h', .write⟩ ∧ HeapOk h' ∧ Bytes h' v (bs.set i b) ∧ Chg (fun j => v.own = some j) h h' := by
  have hidx : aIndex bs.length (.int .i64 i) = some i := by
    have h0 : (0 : Int) ≤ i := Int.natCast_nonneg i
    have h2 : (i : Int) < bs.length := by exact_mod_cast hi
    simp [aIndex, h0, h2]
  cases k with
  | nils => simp at hi
  | fs full => exact absurd rfl hne
  | sl id gen off cap cs _ hat hle hc hcap =>
    refine ⟨.ptr id gen (off + i * 1), h.upd id gen (cs.set (off + i) (byteAV b)), by simp [aIdxAddr, hidx], ?_, ho.upd (at_look.1 hat) _ _, ?_, upd_chg rfl⟩
    · have hs : splice cs (off + i * 1) [byteAV b] = cs.set (off + i) (byteAV b) := by
        rw [List.set_eq_take_append_cons_drop, if_pos (by omega)]
        simp [splice]
      simp only [aStore, hat, Option.bind_some, row_byte, hs]
      rw [if_pos ⟨rfl, by omega⟩]
    · have := Bytes.sl (h := h.upd id gen (cs.set (off + i) (byteAV b))) id gen off cap (cs.set (off + i) (byteAV b)) (bs.set i b) at_upd (by simpa using hle) (by
        rw [List.length_set, List.drop_set, if_neg (by omega), List.take_set, hc, show off + i - off = i by omega, List.map_set]) (by simpa using hcap)
      rwa [List.length_set] at this

theorem own_loop1 {v : AV} {n : Nat} (hsm : n < 1000000000000) (hne : n ≠ 0 → v.own ≠ none) {Q : AExit → St → Prop} :
    ∀ (f i : Nat) (bs : List UInt8) (h : Heap) (σ : Slots), n - i < f → i ≤ n → HeapOk h → Bytes h v bs → bs.length = n → σ.get 5 = v → σ.get 80 = .int .i64 n → σ.get 81 = .int .i64 i →
      (∀ σ' h', HeapOk h' → Chg (fun j => v.own = some j) h h' → (∀ k, k < 15 → σ'.get k = σ.get k) → Q (.exit 0) ⟨σ', h'⟩) → WPr env a5_l19 ⟨σ, h⟩ Q := by
  intro f
  induction f with
  | zero => intro i bs h σ h1; omega
  | succ f ih =>
    intro i bs h σ hf hi ho hb hl g5 g80 g81 hQ
    refine wpr_round' fun b hb' => ?_
    by_cases c1 : i < n
    · obtain ⟨p, h', e1, e2, ho', hb2, hc⟩ := hb.set ho (i := i) (by omega) (hne (by omega)) 99
      have e2' : aStore h 1 p (.int .u8 99) = some ⟨.undef, h', .write⟩ := e2
      have z0 : ((i : Int) < (n : Int)) = True := eq_true (by omega)
      have z1 : IntKind.wrap .i64 ((i : Int) + 1) = ((i + 1 : Nat) : Int) := wrap_nat (by omega) (by omega)
      simp only [a5_l19, a5_15, a5_16, a5_17, a5_18, wpc_skip, wpc_ops, wpc_draw, wpc_seq, wpc_cond, wpc_block, wpc_loop, wpc_exit, wpc_scope, wpc_ret, seqQ_norm, seqQ_ret, seqQ_exit, blockQ'_norm, blockQ'_ret, blockQ'_exit, roundQ_norm, roundQ_ret, roundQ_exit, condK_true, condK_false, wpo_nil', wpo_none, wpo_some, opsK_apply, guardK_tt, guardK_ff, guardK_tf, guardK_ft, wp1_call, callK_ret, wp1_mv', wp1_bin', wp1_un', wp1_eq', wp1_extract', wp1_pick', wp1_len', wp1_load', wp1_conv', wp1_store', wp1_idxAddr', wp1_append', wp1_mkIface', wp1_alloc', rd_t, rd_c, ok_t, ok_c, put_some, put_none, get_put, reduceIte, Nat.reduceEqDiff, AV.bool.injEq, Option.some.injEq, exists_eq_left', Option.map_some, Option.bind_some, opds_nil, opds_cons, opd_t, opd_c, aBin, aInt, decide_true, decide_false, negIf, wp1_nilCheck', wp1_fieldAddr', wp1_slice, op_slice, opdo_some, opdo_none, wp1_lit, op_lit, parts_nil, parts_cons, wp1_build, op_build, wp1_box, op_box, g5, g80, g81, z0, e1, e2', z1]
      subst hb'
      refine ih (i + 1) _ h' _ (by omega) (by omega) ho' hb2 (by simpa using hl) ?_ ?_ ?_ ?_
      · simp only [get_put, reduceIte, Nat.reduceEqDiff, g5]
      · simp only [get_put, reduceIte, Nat.reduceEqDiff, g80]
      · simp only [get_put, reduceIte, Nat.reduceEqDiff]
      · intro σ' h2 o2 c2 s2
        refine hQ σ' h2 o2 (hc.trans c2) fun k hk => ?_
        rw [s2 k hk]
        simp only [get_put]
        rw [if_neg (by omega), if_neg (by omega), if_neg (by omega), if_neg (by omega), if_neg (by omega), if_neg (by omega), if_neg (by omega), if_neg (by omega)]
    · have z0 : ((i : Int) < (n : Int)) = False := eq_false (by omega)
      simp only [a5_l19, a5_15, wpc_skip, wpc_ops, wpc_draw, wpc_seq, wpc_cond, wpc_block, wpc_loop, wpc_exit, wpc_scope, wpc_ret, seqQ_norm, seqQ_ret, seqQ_exit, blockQ'_norm, blockQ'_ret, blockQ'_exit, roundQ_norm, roundQ_ret, roundQ_exit, condK_true, condK_false, wpo_nil', wpo_none, wpo_some, opsK_apply, guardK_tt, guardK_ff, guardK_tf, guardK_ft, wp1_call, callK_ret, wp1_mv', wp1_bin', wp1_un', wp1_eq', wp1_extract', wp1_pick', wp1_len', wp1_load', wp1_conv', wp1_store', wp1_idxAddr', wp1_append', wp1_mkIface', wp1_alloc', rd_t, rd_c, ok_t, ok_c, put_some, put_none, get_put, reduceIte, Nat.reduceEqDiff, AV.bool.injEq, Option.some.injEq, exists_eq_left', Option.map_some, Option.bind_some, opds_nil, opds_cons, opd_t, opd_c, aBin, aInt, decide_true, decide_false, negIf, wp1_nilCheck', wp1_fieldAddr', wp1_slice, op_slice, opdo_some, opdo_none, wp1_lit, op_lit, parts_nil, parts_cons, wp1_build, op_build, wp1_box, op_box, g5, g80, g81, z0]
      refine hQ _ h ho .refl fun k hk => ?_
      simp only [get_put]
      rw [if_neg (by omega)]

theorem own_loop2 {v : AV} {n : Nat} (hsm : n < 1000000000000) (hne : n ≠ 0 → v.own ≠ none) {Q : AExit → St → Prop} :
    ∀ (f i : Nat) (bs : List UInt8) (h : Heap) (σ : Slots), n - i < f → i ≤ n → HeapOk h → Bytes h v bs → bs.length = n → σ.get 12 = v → σ.get 126 = .int .i64 n → σ.get 127 = .int .i64 i →
      (∀ σ' h', HeapOk h' → Chg (fun j => v.own = some j) h h' → (∀ k, k < 24 → σ'.get k = σ.get k) → Q (.exit 2) ⟨σ', h'⟩) → WPr env a5_l31 ⟨σ, h⟩ Q := by
  intro f
  induction f with
  | zero => intro i bs h σ h1; omega
  | succ f ih =>
    intro i bs h σ hf hi ho hb hl g5 g80 g81 hQ
    refine wpr_round' fun b hb' => ?_
    by_cases c1 : i < n
    · obtain ⟨p, h', e1, e2, ho', hb2, hc⟩ := hb.set ho (i := i) (by omega) (hne (by omega)) 98
      have e2' : aStore h 1 p (.int .u8 98) = some ⟨.undef, h', .write⟩ := e2
      have z0 : ((i : Int) < (n : Int)) = True := eq_true (by omega)
      have z1 : IntKind.wrap .i64 ((i : Int) + 1) = ((i + 1 : Nat) : Int) := wrap_nat (by omega) (by omega)
      simp only [a5_l31, a5_27, a5_28, a5_29, a5_30, wpc_skip, wpc_ops, wpc_draw, wpc_seq, wpc_cond, wpc_block, wpc_loop, wpc_exit, wpc_scope, wpc_ret, seqQ_norm, seqQ_ret, seqQ_exit, blockQ'_norm, blockQ'_ret, blockQ'_exit, roundQ_norm, roundQ_ret, roundQ_exit, condK_true, condK_false, wpo_nil', wpo_none, wpo_some, opsK_apply, guardK_tt, guardK_ff, guardK_tf, guardK_ft, wp1_call, callK_ret, wp1_mv', wp1_bin', wp1_un', wp1_eq', wp1_extract', wp1_pick', wp1_len', wp1_load', wp1_conv', wp1_store', wp1_idxAddr', wp1_append', wp1_mkIface', wp1_alloc', rd_t, rd_c, ok_t, ok_c, put_some, put_none, get_put, reduceIte, Nat.reduceEqDiff, AV.bool.injEq, Option.some.injEq, exists_eq_left', Option.map_some, Option.bind_some, opds_nil, opds_cons, opd_t, opd_c, aBin, aInt, decide_true, decide_false, negIf, wp1_nilCheck', wp1_fieldAddr', wp1_slice, op_slice, opdo_some, opdo_none, wp1_lit, op_lit, parts_nil, parts_cons, wp1_build, op_build, wp1_box, op_box, g5, g80, g81, z0, e1, e2', z1]
      subst hb'
      refine ih (i + 1) _ h' _ (by omega) (by omega) ho' hb2 (by simpa using hl) ?_ ?_ ?_ ?_
      · simp only [get_put, reduceIte, Nat.reduceEqDiff, g5]
      · simp only [get_put, reduceIte, Nat.reduceEqDiff, g80]
      · simp only [get_put, reduceIte, Nat.reduceEqDiff]
      · intro σ' h2 o2 c2 s2
        refine hQ σ' h2 o2 (hc.trans c2) fun k hk => ?_
        rw [s2 k hk]
        simp only [get_put]
        rw [if_neg (by omega), if_neg (by omega), if_neg (by omega), if_neg (by omega), if_neg (by omega), if_neg (by omega), if_neg (by omega), if_neg (by omega)]
    · have z0 : ((i : Int) < (n : Int)) = False := eq_false (by omega)
      simp only [a5_l31, a5_27, wpc_skip, wpc_ops, wpc_draw, wpc_seq, wpc_cond, wpc_block, wpc_loop, wpc_exit, wpc_scope, wpc_ret, seqQ_norm, seqQ_ret, seqQ_exit, blockQ'_norm, blockQ'_ret, blockQ'_exit, roundQ_norm, roundQ_ret, roundQ_exit, condK_true, condK_false, wpo_nil', wpo_none, wpo_some, opsK_apply, guardK_tt, guardK_ff, guardK_tf, guardK_ft, wp1_call, callK_ret, wp1_mv', wp1_bin', wp1_un', wp1_eq', wp1_extract', wp1_pick', wp1_len', wp1_load', wp1_conv', wp1_store', wp1_idxAddr', wp1_append', wp1_mkIface', wp1_alloc', rd_t, rd_c, ok_t, ok_c, put_some, put_none, get_put, reduceIte, Nat.reduceEqDiff, AV.bool.injEq, Option.some.injEq, exists_eq_left', Option.map_some, Option.bind_some, opds_nil, opds_cons, opd_t, opd_c, aBin, aInt, decide_true, decide_false, negIf, wp1_nilCheck', wp1_fieldAddr', wp1_slice, op_slice, opdo_some, opdo_none, wp1_lit, op_lit, parts_nil, parts_cons, wp1_build, op_build, wp1_box, op_box, g5, g80, g81, z0]
      refine hQ _ h ho .refl fun k hk => ?_
      simp only [get_put]
      rw [if_neg (by omega)]

theorem ne_self (bs : List UInt8) : (!(bs == bs)) = false := by simp

/-- both readers, three times more -/
theorem own_loop3 {id id2 : Nat} {Q : AExit → St → Prop} (hid : id ≠ id2) :
    ∀ (f i : Nat) (s : Rs) (bs : List UInt8) (hv hv2 : AV) (h : Heap) (σ : Slots), 3 - i < f → i ≤ 3 → HeapOk h → Rd h id s bs hv → Rr h id2 s bs hv2 → hv.own ≠ some id2 → hv2.own ≠ some id → (s.w = 2 ∨ s.w = 4) → s.ok bs →
      σ.get 9 = .ptr id 0 0 → σ.get 19 = .ptr id2 0 0 → σ.get 25 = .int .i64 i → (∀ σ' h', Q (.exit 4) ⟨σ', h'⟩) → WPr env a5_l39 ⟨σ, h⟩ Q := by
  intro f
  induction f with
  | zero => intro i s bs hv hv2 h σ h1; omega
  | succ f ih =>
    intro i s bs hv hv2 h σ hf hi ho k k2 n1 n2 hw hk g9 g19 g25 hQ
    refine wpr_round' fun b hb' => ?_
    by_cases c1 : i < 3
    · have z0 : ((i : Int) < 3) = True := eq_true (by omega)
      have z1 : IntKind.wrap .i64 ((i : Int) + 1) = ((i + 1 : Nat) : Int) := wrap_nat (by omega) (by omega)
      have i1 : id < h.next := ho.lt k.hat
      have i2 : id2 < h.next := ho.lt k2.hat
      obtain ⟨o, ev, h1, hv', x, ho1, k1, c1, hown, hx, xown, xmut, rfl⟩ := next_spec ho k hw hk
      have w1 : WC env 10 [.ptr id 0 0] h (fun o => o = _) := ⟨_, ev, rfl⟩
      have k21 : Rr h1 id2 s bs hv2 := k2.chg c1 (fun e => hid e.symm) (fun i e e2 => n2 (by rw [e, e2]))
      obtain ⟨o, ev2, h2, hv2', y, ho2, k22, c2, hown2, hy, yown, rfl⟩ := rnext_spec ho1 k21 hw hk
      have w2 : WC env 17 [.ptr id2 0 0] h1 (fun o => o = _) := ⟨_, ev2, rfl⟩
      have hx2 := hx.chg c2 (fun j e e2 => by have := (xown j e).1; omega)
      have k12 := k1.chg c2 hid (fun j e e2 => by
        rcases hown j e with e3 | e3
        · exact n1 (by rw [e3, e2])
        · omega)
      obtain ⟨cx, _, bx⟩ := hx2.b2s
      obtain ⟨cy, _, by_⟩ := hy.b2s
      have hb2 : aEq .bool (.bool (nextF s bs).2.2.1.isSome) (.bool (nextF s bs).2.2.1.isSome) = some true := by simp [aEq, aEqScalar]
      have hh := nextF_ok hw hk
      have hn := ne_self ((nextF s bs).2.2.1.getD [])
      have hmono := c1.1
      generalize nextF s bs = N at *
      obtain ⟨s', bs', body, bad⟩ := N
      simp only [a5_l39, a5_33, a5_34, a5_35, a5_36, a5_38, wpc_skip, wpc_ops, wpc_draw, wpc_seq, wpc_cond, wpc_block, wpc_loop, wpc_exit, wpc_scope, wpc_ret, seqQ_norm, seqQ_ret, seqQ_exit, blockQ'_norm, blockQ'_ret, blockQ'_exit, roundQ_norm, roundQ_ret, roundQ_exit, condK_true, condK_false, wpo_nil', wpo_none, wpo_some, opsK_apply, guardK_tt, guardK_ff, guardK_tf, guardK_ft, wp1_call, callK_ret, wp1_mv', wp1_bin', wp1_un', wp1_eq', wp1_extract', wp1_pick', wp1_len', wp1_load', wp1_conv', wp1_store', wp1_idxAddr', wp1_append', wp1_mkIface', wp1_alloc', rd_t, rd_c, ok_t, ok_c, put_some, put_none, get_put, reduceIte, Nat.reduceEqDiff, AV.bool.injEq, Option.some.injEq, exists_eq_left', Option.map_some, Option.bind_some, opds_nil, opds_cons, opd_t, opd_c, aBin, aInt, decide_true, decide_false, negIf, wp1_nilCheck', wp1_fieldAddr', wp1_slice, op_slice, opdo_some, opdo_none, wp1_lit, op_lit, parts_nil, parts_cons, wp1_build, op_build, wp1_box, op_box, g9, g19, g25, z0, wc_eq w1, wc_eq w2, aExtract, ex20, ex21, ex22, hb2, Bool.not_true, bx, by_, aStr, hn, aPick, z1]
      subst hb'
      refine ih (i + 1) s' bs' hv' hv2' h2 _ (by omega) (by omega) ho2 k12 k22 ?_ ?_ (by rw [hh.2]; exact hw) hh.1 ?_ ?_ ?_ hQ
      · intro e
        rcases hown _ e with e3 | e3
        · exact n1 e3
        · omega
      · intro e
        rcases hown2 _ e with e3 | e3
        · exact n2 e3
        · omega
      · simp only [get_put, reduceIte, Nat.reduceEqDiff, g9]
      · simp only [get_put, reduceIte, Nat.reduceEqDiff, g19]
      · simp only [get_put, reduceIte, Nat.reduceEqDiff]
    · have z0 : ((i : Int) < 3) = False := eq_false (by omega)
      simp only [a5_l39, a5_33, wpc_skip, wpc_ops, wpc_draw, wpc_seq, wpc_cond, wpc_block, wpc_loop, wpc_exit, wpc_scope, wpc_ret, seqQ_norm, seqQ_ret, seqQ_exit, blockQ'_norm, blockQ'_ret, blockQ'_exit, roundQ_norm, roundQ_ret, roundQ_exit, condK_true, condK_false, wpo_nil', wpo_none, wpo_some, opsK_apply, guardK_tt, guardK_ff, guardK_tf, guardK_ft, wp1_call, callK_ret, wp1_mv', wp1_bin', wp1_un', wp1_eq', wp1_extract', wp1_pick', wp1_len', wp1_load', wp1_conv', wp1_store', wp1_idxAddr', wp1_append', wp1_mkIface', wp1_alloc', rd_t, rd_c, ok_t, ok_c, put_some, put_none, get_put, reduceIte, Nat.reduceEqDiff, AV.bool.injEq, Option.some.injEq, exists_eq_left', Option.map_some, Option.bind_some, opds_nil, opds_cons, opd_t, opd_c, aBin, aInt, decide_true, decide_false, negIf, wp1_nilCheck', wp1_fieldAddr', wp1_slice, op_slice, opdo_some, opdo_none, wp1_lit, op_lit, parts_nil, parts_cons, wp1_build, op_build, wp1_box, op_box, g25, z0]
      exact hQ _ h
end Go.Fr
