/-
  Package frame: Next.
-/
import Derived.Test.YtlggjdneolgkoaaDoorFdFeed
import Derived.Test.YtlggjdneolgkoaaDoorFdEq
set_option linter.unusedVariables false
set_option linter.unusedSimpArgs false
set_option maxRecDepth 20000
namespace Go.Fd
open Go.AM

/-- what Next does: the reader then, the bytes that it holds then, the body, is it refused -/
def nextF (s : Rs) (bs : List UInt8) : Rs × List UInt8 × Option (List UInt8) × Bool :=
  if s.dead = true then (s, bs, none, true)
  else if bs.length < s.w then (s, bs, none, false)
  else if maxOf s.w < num (bs.take s.w) then ({ s with dead := true }, bs, none, true)
  else if bs.length - s.w < num (bs.take s.w) then (s, bs, none, false)
  else ({ s with held := (bs.drop (s.w + num (bs.take s.w))).length, frames := s.frames + 1, bytes := s.bytes + (s.w + num (bs.take s.w)), ticks := if s.w = 4 ∧ num (bs.take s.w) = 0 then s.ticks + 1 else s.ticks },
    bs.drop (s.w + num (bs.take s.w)), some ((bs.drop s.w).take (num (bs.take s.w))), false)

/-- its counts are small -/
def Rs.ok (s : Rs) (bs : List UInt8) : Prop := s.frames ≤ s.bytes ∧ s.ticks ≤ s.bytes ∧ s.bytes + bs.length < 1000000000000

theorem nextF_ok {s : Rs} {bs : List UInt8} (hw : s.w = 2 ∨ s.w = 4) (k : s.ok bs) : (nextF s bs).1.ok (nextF s bs).2.1 ∧ (nextF s bs).1.w = s.w := by
  obtain ⟨k1, k2, k3⟩ := k
  unfold nextF
  by_cases c0 : s.dead = true
  · rw [if_pos c0]; exact ⟨⟨k1, k2, k3⟩, rfl⟩
  rw [if_neg c0]
  by_cases c1 : bs.length < s.w
  · rw [if_pos c1]; exact ⟨⟨k1, k2, k3⟩, rfl⟩
  rw [if_neg c1]
  by_cases c2 : maxOf s.w < num (bs.take s.w)
  · rw [if_pos c2]; exact ⟨⟨k1, k2, k3⟩, rfl⟩
  rw [if_neg c2]
  by_cases c3 : bs.length - s.w < num (bs.take s.w)
  · rw [if_pos c3]; exact ⟨⟨k1, k2, k3⟩, rfl⟩
  rw [if_neg c3]
  refine ⟨⟨?_, ?_, ?_⟩, rfl⟩
  · dsimp only; omega
  · dsimp only; split <;> omega
  · dsimp only; rw [List.length_drop]; omega

theorem _root_.Go.AM.Acc.toBytes {h : Heap} {x : AV} {bs : List UInt8} (k : Acc h 1 x (bs.map byteAV)) : Bytes h x bs := Go.Fd.Acc.bytes k

/-- is it a tick? -/
theorem next_tail {h : Heap} {id : Nat} {s : Rs} {rv bv : AV} {n : Nat} {σ : Slots} (hw4 : s.w ≤ 4) (hat : h.at_ id 0 = some (s.cells rv)) (ho : HeapOk h) (g0 : σ.get 0 = .ptr id 0 0) (g6 : σ.get 6 = .int .i64 s.w) (g7 : σ.get 7 = .int .i64 n) (g8 : σ.get 8 = bv) (hs : s.ticks < 1000000000000) {Q : AExit → St → Prop}
    (hQ : ∀ σ' h' t, Chg (fun i => i = id) h h' → HeapOk h' → h'.at_ id 0 = some (({ s with ticks := t } : Rs).cells rv) → σ'.get 2 = bv → σ'.get 3 = .bool true → σ'.get 4 = .nili → (if s.w = 4 ∧ n = 0 then s.ticks + 1 else s.ticks) = t → Q .ret ⟨σ', h'⟩) :
    wpc env (.seq (.seq (.ops a14_18) (.cond (.t 117) (.ops a14_19) .skip)) (.seq (.ops a14_20) .ret)) ⟨σ, h⟩ Q := by
  by_cases c4 : s.w = 4
  · have z4 : ((s.w : Int) == 4) = true := by simp; omega
    by_cases c5 : n = 0
    · have z5 : ((n : Int) == 0) = true := by simp; omega
      have l10 := rs_ld3 hat
      have t4 := rs_st3 (s.ticks + 1) hat
      have e6 : IntKind.wrap .i64 ((s.ticks : Int) + 1) = ((s.ticks + 1 : Nat) : Int) := wrap_nat (by omega) (by omega)
      simp only [a14_18, a14_19, a14_20, wpc_skip, wpc_ops, wpc_draw, wpc_seq, wpc_cond, wpc_block, wpc_loop, wpc_exit, wpc_scope, wpc_ret, seqQ_norm, seqQ_ret, seqQ_exit, blockQ'_norm, blockQ'_ret, blockQ'_exit, roundQ_norm, roundQ_ret, roundQ_exit, condK_true, condK_false, wpo_nil', wpo_none, wpo_some, opsK_apply, guardK_tt, guardK_ff, guardK_tf, guardK_ft, wp1_call, callK_ret, wp1_mv', wp1_bin', wp1_un', wp1_eq', wp1_extract', wp1_pick', wp1_len', wp1_load', wp1_conv', wp1_store', wp1_idxAddr', wp1_append', wp1_mkIface', wp1_alloc', rd_t, rd_c, ok_t, ok_c, put_some, put_none, get_put, reduceIte, Nat.reduceEqDiff, AV.bool.injEq, Option.some.injEq, exists_eq_left', Option.map_some, Option.bind_some, opds_nil, opds_cons, opd_t, opd_c, aBin, aInt, decide_true, decide_false, negIf, wp1_nilCheck', wp1_fieldAddr', wp1_slice, op_slice, opdo_some, opdo_none, wp1_lit, op_lit, parts_nil, parts_cons, wp1_build, op_build, wp1_box, op_box, g0, g6, g7, g8, z4, z5, aPick, aNil_ptr, aFieldAddr, Nat.add_zero, Nat.zero_add, l10, e6, t4]
      refine hQ _ _ (s.ticks + 1) (upd_chg rfl) (ho.upd (at_look.1 hat) _ _) at_upd ?_ ?_ ?_ (by rw [if_pos ⟨c4, c5⟩]) <;> simp only [get_put, reduceIte, Nat.reduceEqDiff]
    · have z5 : ((n : Int) == 0) = false := by simp; omega
      simp only [a14_18, a14_20, wpc_skip, wpc_ops, wpc_draw, wpc_seq, wpc_cond, wpc_block, wpc_loop, wpc_exit, wpc_scope, wpc_ret, seqQ_norm, seqQ_ret, seqQ_exit, blockQ'_norm, blockQ'_ret, blockQ'_exit, roundQ_norm, roundQ_ret, roundQ_exit, condK_true, condK_false, wpo_nil', wpo_none, wpo_some, opsK_apply, guardK_tt, guardK_ff, guardK_tf, guardK_ft, wp1_call, callK_ret, wp1_mv', wp1_bin', wp1_un', wp1_eq', wp1_extract', wp1_pick', wp1_len', wp1_load', wp1_conv', wp1_store', wp1_idxAddr', wp1_append', wp1_mkIface', wp1_alloc', rd_t, rd_c, ok_t, ok_c, put_some, put_none, get_put, reduceIte, Nat.reduceEqDiff, AV.bool.injEq, Option.some.injEq, exists_eq_left', Option.map_some, Option.bind_some, opds_nil, opds_cons, opd_t, opd_c, aBin, aInt, decide_true, decide_false, negIf, wp1_nilCheck', wp1_fieldAddr', wp1_slice, op_slice, opdo_some, opdo_none, wp1_lit, op_lit, parts_nil, parts_cons, wp1_build, op_build, wp1_box, op_box, g0, g6, g7, g8, z4, z5, aPick]
      refine hQ _ _ s.ticks .refl ho hat ?_ ?_ ?_ (by rw [if_neg (fun e => c5 e.2)]) <;> simp only [get_put, reduceIte, Nat.reduceEqDiff]
  · have z4 : ((s.w : Int) == 4) = false := by simp; omega
    simp only [a14_18, a14_20, wpc_skip, wpc_ops, wpc_draw, wpc_seq, wpc_cond, wpc_block, wpc_loop, wpc_exit, wpc_scope, wpc_ret, seqQ_norm, seqQ_ret, seqQ_exit, blockQ'_norm, blockQ'_ret, blockQ'_exit, roundQ_norm, roundQ_ret, roundQ_exit, condK_true, condK_false, wpo_nil', wpo_none, wpo_some, opsK_apply, guardK_tt, guardK_ff, guardK_tf, guardK_ft, wp1_call, callK_ret, wp1_mv', wp1_bin', wp1_un', wp1_eq', wp1_extract', wp1_pick', wp1_len', wp1_load', wp1_conv', wp1_store', wp1_idxAddr', wp1_append', wp1_mkIface', wp1_alloc', rd_t, rd_c, ok_t, ok_c, put_some, put_none, get_put, reduceIte, Nat.reduceEqDiff, AV.bool.injEq, Option.some.injEq, exists_eq_left', Option.map_some, Option.bind_some, opds_nil, opds_cons, opd_t, opd_c, aBin, aInt, decide_true, decide_false, negIf, wp1_nilCheck', wp1_fieldAddr', wp1_slice, op_slice, opdo_some, opdo_none, wp1_lit, op_lit, parts_nil, parts_cons, wp1_build, op_build, wp1_box, op_box, g0, g6, g7, g8, z4, aPick]
    refine hQ _ _ s.ticks .refl ho hat ?_ ?_ ?_ (by rw [if_neg (fun e => c4 e.1)]) <;> simp only [get_put, reduceIte, Nat.reduceEqDiff]

theorem next_spec {h : Heap} {id : Nat} {s : Rs} {bs : List UInt8} {hv : AV} (ho : HeapOk h) (k : Rd h id s bs hv) (hw : s.w = 2 ∨ s.w = 4) (hk : s.ok bs) :
    WC env 14 [.ptr id 0 0] h (fun o => ∃ h' hv' bv, HeapOk h' ∧ Rd h' id (nextF s bs).1 (nextF s bs).2.1 hv' ∧ Chg (fun i => i = id) h h' ∧ (∀ i, hv'.own = some i → hv.own = some i ∨ h.next ≤ i) ∧
      Bytes h' bv ((nextF s bs).2.2.1.getD []) ∧ (∀ i, bv.own = some i → h.next ≤ i ∧ hv'.own ≠ some i) ∧ ((nextF s bs).2.2.1.getD [] ≠ [] → bv.own ≠ none) ∧
      o = .ret ⟨.tup [bv, .bool (nextF s bs).2.2.1.isSome, if (nextF s bs).2.2.2 = true then faultV s.bytes 120 else .nili], h', .write⟩) := by
  obtain ⟨k1, k2, k3⟩ := hk
  have hw0 : s.w ≠ 0 := by omega
  have hb : Bytes h hv bs := k.acc.toBytes
  have hid : id < h.next := ho.lt k.hat
  have l6 := rs_ld6 k.hat
  have l0 := rs_ld0 k.hat
  have ln := hb.lenOp
  have ret : ∀ {h' : Heap} {σ : Slots} {bv : AV} {b : Bool} {e : AV}, σ.get 2 = bv → σ.get 3 = .bool b → σ.get 4 = e → env.results ⟨σ, h'⟩ [.tmp 2, .tmp 3, .tmp 4] = some [bv, .bool b, e] := by
    intro h' σ bv b e e1 e2 e3
    simp only [Env.results, Option.map_some, e1, e2, e3]
  refine call_body rfl rfl (.inl rfl) ?_
  by_cases c0 : s.dead = true
  · have hn : nextF s bs = (s, bs, none, true) := by simp only [nextF, if_pos c0]
    rw [hn]
    have z : aEq (.iface true) (faultV s.bytes 120) .nili = some false := eq_fault _ _
    simp only [a14, a14_0, a14_1, a14_2, a14_3, Slots.ofList, wpc_skip, wpc_ops, wpc_draw, wpc_seq, wpc_cond, wpc_block, wpc_loop, wpc_exit, wpc_scope, wpc_ret, seqQ_norm, seqQ_ret, seqQ_exit, blockQ'_norm, blockQ'_ret, blockQ'_exit, roundQ_norm, roundQ_ret, roundQ_exit, condK_true, condK_false, wpo_nil', wpo_none, wpo_some, opsK_apply, guardK_tt, guardK_ff, guardK_tf, guardK_ft, wp1_call, callK_ret, wp1_mv', wp1_bin', wp1_un', wp1_eq', wp1_extract', wp1_pick', wp1_len', wp1_load', wp1_conv', wp1_store', wp1_idxAddr', wp1_append', wp1_mkIface', wp1_alloc', rd_t, rd_c, ok_t, ok_c, put_some, put_none, get_put, reduceIte, Nat.reduceEqDiff, AV.bool.injEq, Option.some.injEq, exists_eq_left', Option.map_some, Option.bind_some, opds_nil, opds_cons, opd_t, opd_c, aBin, aInt, decide_true, decide_false, negIf, wp1_nilCheck', wp1_fieldAddr', wp1_slice, op_slice, opdo_some, opdo_none, wp1_lit, op_lit, parts_nil, parts_cons, wp1_build, op_build, wp1_box, op_box, wc_eq (ready_dead k.hat hw0 c0), z, Bool.not_false]
    exact ⟨_, ret rfl rfl rfl, h, hv, .nils, ho, k, .refl, fun i e => .inl e, .nils, (fun i e => by cases e), (fun e => absurd rfl e), rfl⟩
  have c0' : s.dead = false := by simpa using c0
  by_cases c1 : bs.length < s.w
  · have hn : nextF s bs = (s, bs, none, false) := by simp only [nextF, if_neg c0, if_pos c1]
    rw [hn]
    have z1 : ((bs.length : Int) < (s.w : Int)) = True := eq_true (by omega)
    simp only [a14, a14_0, a14_1, a14_2, a14_4, a14_5, a14_6, Slots.ofList, wpc_skip, wpc_ops, wpc_draw, wpc_seq, wpc_cond, wpc_block, wpc_loop, wpc_exit, wpc_scope, wpc_ret, seqQ_norm, seqQ_ret, seqQ_exit, blockQ'_norm, blockQ'_ret, blockQ'_exit, roundQ_norm, roundQ_ret, roundQ_exit, condK_true, condK_false, wpo_nil', wpo_none, wpo_some, opsK_apply, guardK_tt, guardK_ff, guardK_tf, guardK_ft, wp1_call, callK_ret, wp1_mv', wp1_bin', wp1_un', wp1_eq', wp1_extract', wp1_pick', wp1_len', wp1_load', wp1_conv', wp1_store', wp1_idxAddr', wp1_append', wp1_mkIface', wp1_alloc', rd_t, rd_c, ok_t, ok_c, put_some, put_none, get_put, reduceIte, Nat.reduceEqDiff, AV.bool.injEq, Option.some.injEq, exists_eq_left', Option.map_some, Option.bind_some, opds_nil, opds_cons, opd_t, opd_c, aBin, aInt, decide_true, decide_false, negIf, wp1_nilCheck', wp1_fieldAddr', wp1_slice, op_slice, opdo_some, opdo_none, wp1_lit, op_lit, parts_nil, parts_cons, wp1_build, op_build, wp1_box, op_box, wc_eq (ready_live k.hat hw0 c0'), aEq_nili, aNil_ptr, aFieldAddr, Nat.add_zero, Nat.zero_add, l0, l6, ln, z1, Bool.not_true]
    exact ⟨_, ret rfl rfl rfl, h, hv, .nils, ho, k, .refl, fun i e => .inl e, .nils, (fun i e => by cases e), (fun e => absurd rfl e), rfl⟩
  have z1 : ((bs.length : Int) < (s.w : Int)) = False := eq_false (by omega)
  have hw4 : s.w ≤ 4 := by omega
  have hln := length_spec hb hw4 (by omega)
  obtain ⟨n, hnn⟩ : ∃ n, n = num (bs.take s.w) := ⟨_, rfl⟩
  rw [← hnn] at hln
  have hk32 : n < 4294967296 := by
    have h1 := num_lt (bs.take s.w)
    have h2 : (bs.take s.w).length ≤ 4 := by simp; omega
    have h3 : 256 ^ (bs.take s.w).length ≤ 256 ^ 4 := Nat.pow_le_pow_right (by omega) h2
    rw [hnn]; omega
  by_cases c2 : maxOf s.w < n
  · have hn : nextF s bs = ({ s with dead := true }, bs, none, true) := by simp only [nextF, if_neg c0, if_neg c1, ← hnn, if_pos c2]
    rw [hn]
    have z2 : ((n : Int) > maxOf (s.w : Int)) = True := eq_true (by omega)
    have t0 := rs_st5 true k.hat
    have l4 := rs_ld4 (at_upd (h := h) (id := id) (gen := 0) (cs := ({ s with dead := true } : Rs).cells hv))
    simp only [a14, a14_0, a14_1, a14_2, a14_4, a14_5, a14_7, a14_8, a14_9, a14_10, Slots.ofList, wpc_skip, wpc_ops, wpc_draw, wpc_seq, wpc_cond, wpc_block, wpc_loop, wpc_exit, wpc_scope, wpc_ret, seqQ_norm, seqQ_ret, seqQ_exit, blockQ'_norm, blockQ'_ret, blockQ'_exit, roundQ_norm, roundQ_ret, roundQ_exit, condK_true, condK_false, wpo_nil', wpo_none, wpo_some, opsK_apply, guardK_tt, guardK_ff, guardK_tf, guardK_ft, wp1_call, callK_ret, wp1_mv', wp1_bin', wp1_un', wp1_eq', wp1_extract', wp1_pick', wp1_len', wp1_load', wp1_conv', wp1_store', wp1_idxAddr', wp1_append', wp1_mkIface', wp1_alloc', rd_t, rd_c, ok_t, ok_c, put_some, put_none, get_put, reduceIte, Nat.reduceEqDiff, AV.bool.injEq, Option.some.injEq, exists_eq_left', Option.map_some, Option.bind_some, opds_nil, opds_cons, opd_t, opd_c, aBin, aInt, decide_true, decide_false, negIf, wp1_nilCheck', wp1_fieldAddr', wp1_slice, op_slice, opdo_some, opdo_none, wp1_lit, op_lit, parts_nil, parts_cons, wp1_build, op_build, wp1_box, op_box, wc_eq (ready_live k.hat hw0 c0'), aEq_nili, aNil_ptr, aFieldAddr, Nat.add_zero, Nat.zero_add, l0, l6, ln, z1, Bool.not_true, wc_eq hln, wc_eq (greatest_spec _ _), wc_eq (fault_spec _ _ _), z2, t0, l4]
    exact ⟨_, ret rfl rfl rfl, _, hv, .nils, ho.upd (at_look.1 k.hat) _ _, ⟨at_upd, k.acc.chg (S := fun i => i = id) (upd_chg rfl) (fun i e e2 => k.ne (by rw [e, e2])), k.ne, k.held⟩, upd_chg rfl, fun i e => .inl e, .nils, (fun i e => by cases e), (fun e => absurd rfl e), rfl⟩
  have z2 : ((n : Int) > maxOf (s.w : Int)) = False := eq_false (by omega)
  obtain ⟨n2, hn2⟩ : ∃ n2, bs.length = s.w + n2 := ⟨bs.length - s.w, by omega⟩
  have e2 : IntKind.wrap .i64 ((bs.length : Int) - (s.w : Int)) = (n2 : Int) := wrap_nat (by omega) (by omega)
  by_cases c3 : n2 < n
  · have hn : nextF s bs = (s, bs, none, false) := by
      simp only [nextF, if_neg c0, if_neg c1, ← hnn, if_neg c2]
      rw [if_pos (by omega)]
    rw [hn]
    have z3 : ((n2 : Int) < (n : Int)) = True := eq_true (by omega)
    simp only [a14, a14_0, a14_1, a14_2, a14_4, a14_5, a14_7, a14_8, a14_11, a14_12, Slots.ofList, wpc_skip, wpc_ops, wpc_draw, wpc_seq, wpc_cond, wpc_block, wpc_loop, wpc_exit, wpc_scope, wpc_ret, seqQ_norm, seqQ_ret, seqQ_exit, blockQ'_norm, blockQ'_ret, blockQ'_exit, roundQ_norm, roundQ_ret, roundQ_exit, condK_true, condK_false, wpo_nil', wpo_none, wpo_some, opsK_apply, guardK_tt, guardK_ff, guardK_tf, guardK_ft, wp1_call, callK_ret, wp1_mv', wp1_bin', wp1_un', wp1_eq', wp1_extract', wp1_pick', wp1_len', wp1_load', wp1_conv', wp1_store', wp1_idxAddr', wp1_append', wp1_mkIface', wp1_alloc', rd_t, rd_c, ok_t, ok_c, put_some, put_none, get_put, reduceIte, Nat.reduceEqDiff, AV.bool.injEq, Option.some.injEq, exists_eq_left', Option.map_some, Option.bind_some, opds_nil, opds_cons, opd_t, opd_c, aBin, aInt, decide_true, decide_false, negIf, wp1_nilCheck', wp1_fieldAddr', wp1_slice, op_slice, opdo_some, opdo_none, wp1_lit, op_lit, parts_nil, parts_cons, wp1_build, op_build, wp1_box, op_box, wc_eq (ready_live k.hat hw0 c0'), aEq_nili, aNil_ptr, aFieldAddr, Nat.add_zero, Nat.zero_add, l0, l6, ln, z1, Bool.not_true, wc_eq hln, wc_eq (greatest_spec _ _), z2, e2, z3]
    exact ⟨_, ret rfl rfl rfl, h, hv, .nils, ho, k, .refl, fun i e => .inl e, .nils, (fun i e => by cases e), (fun e => absurd rfl e), rfl⟩
  have z3 : ((n2 : Int) < (n : Int)) = False := eq_false (by omega)
  obtain ⟨w, hwn⟩ : ∃ w, w = s.w + n := ⟨_, rfl⟩
  have hn : nextF s bs = ({ s with held := (bs.drop w).length, frames := s.frames + 1, bytes := s.bytes + w, ticks := if s.w = 4 ∧ n = 0 then s.ticks + 1 else s.ticks }, bs.drop w, some ((bs.drop s.w).take n), false) := by
    simp only [nextF, if_neg c0, if_neg c1, ← hnn, if_neg c2, ← hwn]
    rw [if_neg (by omega)]
  rw [hn]
  simp only [Option.getD_some, Option.isSome_some, Bool.false_eq_true, if_false]
  have e3 : IntKind.wrap .i64 ((s.w : Int) + (n : Int)) = (w : Int) := wrap_nat (by omega) (by omega)
  obtain ⟨v1, s1, b1⟩ := hb.three (k1 := .i64) (k2 := .i64) (k3 := .i64) (l := s.w) (u := w) (by omega) (by omega)
  rw [show w - s.w = n by omega] at b1
  obtain ⟨bv, h1, c1', ha1, hacc1, hlen1, hle1, ho1, hown1, hne1⟩ := append_own ho b1 (by simp; omega)
  have hat1 := hle1.2 _ _ _ k.hat
  have hb1 := hb.le hle1
  obtain ⟨v2, s2, b2⟩ := hb1.from (kd := .i64) (l := w) (by omega)
  obtain ⟨rv, h2, c2', ha2, hacc2, hlen2, hle2, ho2, hown2, hne2⟩ := append_own ho1 b2 (by simp; omega)
  have hat2 := hle2.2 _ _ _ hat1
  have l61 := rs_ld6 hat1
  have t0 := rs_st6 hacc2.row hat2
  have l7 := rs_ld6 (at_upd (h := h2) (id := id) (gen := 0) (cs := s.cells rv))
  obtain ⟨H, hH⟩ : ∃ H, H = (bs.drop w).length := ⟨_, rfl⟩
  rw [← hH] at hlen2 ⊢
  have hln2 := hacc2.lenOp hlen2 (h2.upd id 0 (s.cells rv))
  have t1 := rs_st1 H (at_upd (h := h2) (id := id) (gen := 0) (cs := s.cells rv))
  have l8 := rs_ld2 (at_upd (h := h2.upd id 0 (s.cells rv)) (id := id) (gen := 0) (cs := ({ s with held := H } : Rs).cells rv))
  have t2 := rs_st2 (s.frames + 1) (at_upd (h := h2.upd id 0 (s.cells rv)) (id := id) (gen := 0) (cs := ({ s with held := H } : Rs).cells rv))
  have l9 := rs_ld4 (at_upd (h := (h2.upd id 0 (s.cells rv)).upd id 0 (({ s with held := H } : Rs).cells rv)) (id := id) (gen := 0) (cs := ({ s with held := H, frames := s.frames + 1 } : Rs).cells rv))
  have t3 := rs_st4 (s.bytes + w) (at_upd (h := (h2.upd id 0 (s.cells rv)).upd id 0 (({ s with held := H } : Rs).cells rv)) (id := id) (gen := 0) (cs := ({ s with held := H, frames := s.frames + 1 } : Rs).cells rv))
  have e4 : IntKind.wrap .i64 ((s.frames : Int) + 1) = ((s.frames + 1 : Nat) : Int) := wrap_nat (by omega) (by omega)
  have e5 : IntKind.wrap .i64 ((s.bytes : Int) + (w : Int)) = ((s.bytes + w : Nat) : Int) := wrap_nat (by omega) (by omega)
  have hid2 : id < h2.next := ho2.lt hat2
  have hid1 : id < h1.next := ho1.lt hat1
  have rid : rv.own ≠ some id := fun e => by have := hown2 _ e; omega
  have bid : bv.own ≠ some id := fun e => by have := hown1 _ e; omega
  have chg2 : Chg (fun i => i = id) h h2 := hle1.chg.trans hle2.chg
  have up : ∀ {h : Heap} {cs cs' : List AV}, HeapOk h → h.at_ id 0 = some cs → HeapOk (h.upd id 0 cs') := fun ho e => ho.upd (at_look.1 e) _ _
  have fin : ∀ {h' : Heap} {t : Nat}, Chg (fun i => i = id) h2 h' → HeapOk h' → h'.at_ id 0 = some (({ s with held := H, frames := s.frames + 1, bytes := s.bytes + w, ticks := t } : Rs).cells rv) → (if s.w = 4 ∧ n = 0 then s.ticks + 1 else s.ticks) = t →
      ∃ h'' hv' bv', HeapOk h'' ∧ Rd h'' id { s with held := H, frames := s.frames + 1, bytes := s.bytes + w, ticks := if s.w = 4 ∧ n = 0 then s.ticks + 1 else s.ticks } (bs.drop w) hv' ∧ Chg (fun i => i = id) h h'' ∧ (∀ i, hv'.own = some i → hv.own = some i ∨ h.next ≤ i) ∧
        Bytes h'' bv' ((bs.drop s.w).take n) ∧ (∀ i, bv'.own = some i → h.next ≤ i ∧ hv'.own ≠ some i) ∧ ((bs.drop s.w).take n ≠ [] → bv'.own ≠ none) ∧
        COut.ret ⟨.tup [bv, .bool true, .nili], h', .write⟩ = .ret ⟨.tup [bv', .bool true, .nili], h'', .write⟩ := by
    intro h' t hc hh hat ht
    rw [ht]
    refine ⟨h', rv, bv, hh, ⟨hat, hacc2.chg hc fun i e e2 => rid (by rw [e, e2]), rid, hH⟩, chg2.trans hc, fun i e => .inr (Nat.le_trans hle1.1 (hown2 i e).1), ?_, fun i e => ⟨(hown1 i e).1, fun e2 => ?_⟩, hne1, rfl⟩
    · exact (hacc1.toBytes.le hle2).chg hc fun i e e2 => bid (by rw [e, e2])
    · have := (hown1 i e).2; have := (hown2 i e2).1; omega
  have hog := up (cs' := ({ s with held := H, frames := s.frames + 1, bytes := s.bytes + w } : Rs).cells rv) (up (cs' := ({ s with held := H, frames := s.frames + 1 } : Rs).cells rv) (up (cs' := ({ s with held := H } : Rs).cells rv) (up (cs' := s.cells rv) ho2 hat2) at_upd) at_upd) at_upd
  have hat_g := at_upd (h := (((h2.upd id 0 (s.cells rv)).upd id 0 (({ s with held := H } : Rs).cells rv)).upd id 0 (({ s with held := H, frames := s.frames + 1 } : Rs).cells rv))) (id := id) (gen := 0) (cs := ({ s with held := H, frames := s.frames + 1, bytes := s.bytes + w } : Rs).cells rv)
  have chg_g : Chg (fun i => i = id) h2 ((((h2.upd id 0 (s.cells rv)).upd id 0 (({ s with held := H } : Rs).cells rv)).upd id 0 (({ s with held := H, frames := s.frames + 1 } : Rs).cells rv)).upd id 0 (({ s with held := H, frames := s.frames + 1, bytes := s.bytes + w } : Rs).cells rv)) :=
    ((Chg.trans (S := fun i => i = id) (upd_chg rfl) (upd_chg rfl)).trans (upd_chg rfl)).trans (upd_chg rfl)
  have hticks : s.ticks < 1000000000000 := by omega
  simp only [a14, a14_0, a14_1, a14_2, a14_4, a14_5, a14_7, a14_8, a14_11, a14_13, a14_14, a14_15, a14_16, a14_17, Slots.ofList, wpc_skip, wpc_ops, wpc_draw, wpc_seq, wpc_cond, wpc_block, wpc_loop, wpc_exit, wpc_scope, wpc_ret, seqQ_norm, seqQ_ret, seqQ_exit, blockQ'_norm, blockQ'_ret, blockQ'_exit, roundQ_norm, roundQ_ret, roundQ_exit, condK_true, condK_false, wpo_nil', wpo_none, wpo_some, opsK_apply, guardK_tt, guardK_ff, guardK_tf, guardK_ft, wp1_call, callK_ret, wp1_mv', wp1_bin', wp1_un', wp1_eq', wp1_extract', wp1_pick', wp1_len', wp1_load', wp1_conv', wp1_store', wp1_idxAddr', wp1_append', wp1_mkIface', wp1_alloc', rd_t, rd_c, ok_t, ok_c, put_some, put_none, get_put, reduceIte, Nat.reduceEqDiff, AV.bool.injEq, Option.some.injEq, exists_eq_left', Option.map_some, Option.bind_some, opds_nil, opds_cons, opd_t, opd_c, aBin, aInt, decide_true, decide_false, negIf, wp1_nilCheck', wp1_fieldAddr', wp1_slice, op_slice, opdo_some, opdo_none, wp1_lit, op_lit, parts_nil, parts_cons, wp1_build, op_build, wp1_box, op_box, wc_eq (ready_live k.hat hw0 c0'), aEq_nili, aNil_ptr, aFieldAddr, Nat.add_zero, Nat.zero_add, l0, l6, ln, z1, Bool.not_true, wc_eq hln, wc_eq (greatest_spec _ _), z2, e2, z3, e3, s1, aFill, List.length_nil, Nat.mul_one, ha1, l61, s2, ha2, t0, l7, hln2, t1, l8, e4, t2, l9, e5, t3]
  refine next_tail (id := id) (s := { s with held := H, frames := s.frames + 1, bytes := s.bytes + w }) (n := n) (rv := rv) hw4 hat_g hog (by simp only [get_put, reduceIte, Nat.reduceEqDiff]) (by simp only [get_put, reduceIte, Nat.reduceEqDiff]) (by simp only [get_put, reduceIte, Nat.reduceEqDiff]) (bv := bv) (by simp only [get_put, reduceIte, Nat.reduceEqDiff]) hticks fun σ' h' t' c' o' a' g2 g3 g4 g5 => ?_
  exact ⟨_, ret g2 g3 g4, fin (chg_g.trans c') o' a' g5⟩
end Go.Fd
