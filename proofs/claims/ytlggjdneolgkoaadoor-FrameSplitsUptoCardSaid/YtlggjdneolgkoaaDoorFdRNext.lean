/-
  Package heddleref06: Feed, Next.
-/
import Derived.Test.YtlggjdneolgkoaaDoorFdNext
set_option linter.unusedVariables false
set_option linter.unusedSimpArgs false
set_option maxRecDepth 20000
namespace Go.Fd
open Go.AM

/-- a reader of the reference that holds these bytes -/
structure Rr (h : Heap) (id : Nat) (s : Rs) (bs : List UInt8) (hv : AV) : Prop where
  hat : h.at_ id 0 = some (s.cells hv)
  by_ : Bytes h hv bs
  ne : hv.own ≠ some id
  held : s.held = bs.length

theorem Rr.chg {S : Nat → Prop} {h h' : Heap} {id : Nat} {s : Rs} {bs : List UInt8} {hv : AV} (k : Rr h id s bs hv) (c : Chg S h h') (h1 : ¬ S id) (h2 : ∀ i, hv.own = some i → ¬ S i) : Rr h' id s bs hv :=
  ⟨c.2 _ _ _ h1 k.hat, k.by_.chg c h2, k.ne, k.held⟩

/-- a part lies where the whole lies -/
theorem _root_.Go.AM.Bytes.from_own {h : Heap} {v : AV} {bs : List UInt8} (k : Bytes h v bs) {kd : IntKind} {l : Nat} (h1 : l ≤ bs.length) : ∃ v', aSlice 1 v (some (.int kd l)) none none = some v' ∧ Bytes h v' (bs.drop l) ∧ ∀ i, v'.own = some i → v.own = some i := by
  obtain ⟨v', g1, g2⟩ := k.from (kd := kd) h1
  refine ⟨v', g1, g2, ?_⟩
  cases k with
  | nils => intro i e; cases l with
    | zero => cases g1; cases e
    | succ l => simp at h1
  | fs full =>
    intro i e
    rw [aSlice_fs (by simp) (bounds_from h1)] at g1
    cases g1; cases e
  | sl id gen off cap cs _ hat hle hc hcap =>
    intro i e
    have hsb : sbound bs.length (.int kd l) = some l := sbound_ok h1
    unfold aSlice at g1
    cases cap with
    | none =>
      simp only [reduceIte, bounds_from h1, Option.map_some, Option.some.injEq] at g1
      subst g1; exact e
    | some c =>
      simp only [reduceIte, bounds_from h1, Option.map_some, Option.some.injEq] at g1
      subst g1; exact e

theorem rfeed_spec {h : Heap} {id : Nat} {s : Rs} {bs cs : List UInt8} {hv v : AV} (ho : HeapOk h) (k : Rr h id s bs hv) (hb : Bytes h v cs)
    (hd : s.dead = false) (hsm : bs.length + cs.length ≤ 16777216) :
    WC env 13 [.ptr id 0 0, v] h (fun o => ∃ h' hv', HeapOk h' ∧ Rr h' id { s with held := bs.length + cs.length } (bs ++ cs) hv' ∧ Chg (fun i => i = id) h h' ∧
      (∀ i, hv'.own = some i → hv.own = some i ∨ h.next ≤ i) ∧ o = .ret ⟨.nils, h', .write⟩) := by
  have hid : id < h.next := ho.lt k.hat
  obtain ⟨x, h1, c1, ha1, hacc1, hlen1, hle1, ho1, hown1, _⟩ := append_own ho k.by_ (by omega)
  have hb1 := hb.le hle1
  have hat1 := hle1.2 _ _ _ k.hat
  obtain ⟨c, hcn, hc⟩ := hb1.cells
  obtain ⟨y, h2, c2, ha2, hacc2, hle2, ho2, hown2, hlen2⟩ := hacc1.append ho1 (bt := 1) (by omega) hlen1 hb1.len hc (by simp) (by omega) (by omega)
  have xid : x.own ≠ some id := fun e => by have := hown1 _ e; omega
  have hat2 : h2.at_ id 0 = some (s.cells hv) := hle2.2 _ _ _ xid hat1
  have yown : ∀ i, y.own = some i → h.next ≤ i := fun i e => by
    have := hle1.1
    rcases hown2 i e with e | e
    · exact (hown1 i e).1
    · omega
  have yid : y.own ≠ some id := fun e => by have := yown _ e; omega
  obtain ⟨N, hN⟩ : ∃ N, N = bs.length + cs.length := ⟨_, rfl⟩
  rw [← hN] at hlen2 hsm ⊢
  have l5 := rs_ld5 k.hat
  rw [hd] at l5
  have l0 := rs_ld6 k.hat
  have l1 := k.by_.lenOp
  have l2 := hb.lenOp
  have z1 : IntKind.wrap .i64 ((bs.length : Int) + (cs.length : Int)) = N := wrap_nat (by omega) (by omega)
  have z2 : ((N : Int) > 16777216) = False := eq_false (by omega)
  have t0 := rs_st6 hacc2.row hat2
  have l3 := rs_ld6 (at_upd (h := h2) (id := id) (gen := 0) (cs := s.cells y))
  have l4 := hacc2.lenOp hlen2 (h2.upd id 0 (s.cells y))
  have t1 := rs_st1 N (at_upd (h := h2) (id := id) (gen := 0) (cs := s.cells y))
  refine call_body rfl rfl (.inl rfl) ?_
  simp only [a13, a13_0, a13_1, a13_3, a13_5, a13_6, a13_7, Slots.ofList, wpc_skip, wpc_ops, wpc_draw, wpc_seq, wpc_cond, wpc_block, wpc_loop, wpc_exit, wpc_scope, wpc_ret, seqQ_norm, seqQ_ret, seqQ_exit, blockQ'_norm, blockQ'_ret, blockQ'_exit, roundQ_norm, roundQ_ret, roundQ_exit, condK_true, condK_false, wpo_nil', wpo_none, wpo_some, opsK_apply, guardK_tt, guardK_ff, guardK_tf, guardK_ft, wp1_call, callK_ret, wp1_mv', wp1_bin', wp1_un', wp1_eq', wp1_extract', wp1_pick', wp1_len', wp1_load', wp1_conv', wp1_store', wp1_idxAddr', wp1_append', wp1_mkIface', wp1_alloc', rd_t, rd_c, ok_t, ok_c, put_some, put_none, get_put, reduceIte, Nat.reduceEqDiff, AV.bool.injEq, Option.some.injEq, exists_eq_left', Option.map_some, Option.bind_some, opds_nil, opds_cons, opd_t, opd_c, aBin, aInt, decide_true, decide_false, negIf, wp1_nilCheck', wp1_fieldAddr', wp1_slice, op_slice, opdo_some, opdo_none, wp1_lit, op_lit, parts_nil, parts_cons, wp1_build, op_build, wp1_box, op_box, aNil_ptr, aFieldAddr, Nat.add_zero, Nat.zero_add, l5, l0, l1, l2, z1, z2, aFill, List.length_nil, Nat.mul_one, ha1, ha2, t0, l3, l4, t1]
  refine ⟨[.nils], by simp only [Env.results, Option.map_some, get_put, reduceIte], _, y, ?_, ⟨at_upd, ?_, yid, ?_⟩, ?_, fun i e => .inr (yown i e), rfl⟩
  · exact (ho2.upd (at_look.1 hat2) _ _).upd (at_look.1 at_upd) _ _
  · have := hacc2
    rw [← List.map_append] at this
    exact ((this.chg (S := fun i => i = id) (upd_chg rfl) fun i e e2 => yid (by rw [e, e2])).chg (S := fun i => i = id) (upd_chg rfl) fun i e e2 => yid (by rw [e, e2])).toBytes
  · simp [hN]
  · refine ⟨Nat.le_trans hle1.1 hle2.1, fun i gen cs hne e => ?_⟩
    have h3 := hle1.2 _ _ _ e
    have h4 := hle2.2 i gen cs (fun e2 => by have := hown1 _ e2; have := ho.lt e; omega) h3
    rw [at_upd_ne hne, at_upd_ne hne]
    exact h4

/-- is it a tick? -/
theorem rnext_tail {h : Heap} {id : Nat} {s : Rs} {rv bv : AV} {n : Nat} {σ : Slots} (hw4 : s.w ≤ 4) (hat : h.at_ id 0 = some (s.cells rv)) (ho : HeapOk h) (g0 : σ.get 0 = .ptr id 0 0) (g5 : σ.get 5 = .int .i64 s.w) (g6 : σ.get 6 = .int .i64 n) (g7 : σ.get 7 = bv) (hs : s.ticks < 1000000000000) {Q : AExit → St → Prop}
    (hQ : ∀ σ' h' t, Chg (fun i => i = id) h h' → HeapOk h' → h'.at_ id 0 = some (({ s with ticks := t } : Rs).cells rv) → σ'.get 2 = bv → σ'.get 3 = .bool true → σ'.get 4 = .nils → (if s.w = 4 ∧ n = 0 then s.ticks + 1 else s.ticks) = t → Q .ret ⟨σ', h'⟩) :
    wpc env (.seq (.seq (.ops a15_15) (.cond (.t 115) (.ops a15_16) .skip)) (.seq (.ops a15_17) .ret)) ⟨σ, h⟩ Q := by
  by_cases c4 : s.w = 4
  · have z4 : ((s.w : Int) == 4) = true := by simp; omega
    by_cases c5 : n = 0
    · have z5 : ((n : Int) == 0) = true := by simp; omega
      have l10 := rs_ld3 hat
      have t4 := rs_st3 (s.ticks + 1) hat
      have e6 : IntKind.wrap .i64 ((s.ticks : Int) + 1) = ((s.ticks + 1 : Nat) : Int) := wrap_nat (by omega) (by omega)
      simp only [a15_15, a15_16, a15_17, wpc_skip, wpc_ops, wpc_draw, wpc_seq, wpc_cond, wpc_block, wpc_loop, wpc_exit, wpc_scope, wpc_ret, seqQ_norm, seqQ_ret, seqQ_exit, blockQ'_norm, blockQ'_ret, blockQ'_exit, roundQ_norm, roundQ_ret, roundQ_exit, condK_true, condK_false, wpo_nil', wpo_none, wpo_some, opsK_apply, guardK_tt, guardK_ff, guardK_tf, guardK_ft, wp1_call, callK_ret, wp1_mv', wp1_bin', wp1_un', wp1_eq', wp1_extract', wp1_pick', wp1_len', wp1_load', wp1_conv', wp1_store', wp1_idxAddr', wp1_append', wp1_mkIface', wp1_alloc', rd_t, rd_c, ok_t, ok_c, put_some, put_none, get_put, reduceIte, Nat.reduceEqDiff, AV.bool.injEq, Option.some.injEq, exists_eq_left', Option.map_some, Option.bind_some, opds_nil, opds_cons, opd_t, opd_c, aBin, aInt, decide_true, decide_false, negIf, wp1_nilCheck', wp1_fieldAddr', wp1_slice, op_slice, opdo_some, opdo_none, wp1_lit, op_lit, parts_nil, parts_cons, wp1_build, op_build, wp1_box, op_box, g0, g5, g6, g7, z4, z5, aPick, aNil_ptr, aFieldAddr, Nat.add_zero, Nat.zero_add, l10, e6, t4]
      refine hQ _ _ (s.ticks + 1) (upd_chg rfl) (ho.upd (at_look.1 hat) _ _) at_upd ?_ ?_ ?_ (by rw [if_pos ⟨c4, c5⟩]) <;> simp only [get_put, reduceIte, Nat.reduceEqDiff]
    · have z5 : ((n : Int) == 0) = false := by simp; omega
      simp only [a15_15, a15_17, wpc_skip, wpc_ops, wpc_draw, wpc_seq, wpc_cond, wpc_block, wpc_loop, wpc_exit, wpc_scope, wpc_ret, seqQ_norm, seqQ_ret, seqQ_exit, blockQ'_norm, blockQ'_ret, blockQ'_exit, roundQ_norm, roundQ_ret, roundQ_exit, condK_true, condK_false, wpo_nil', wpo_none, wpo_some, opsK_apply, guardK_tt, guardK_ff, guardK_tf, guardK_ft, wp1_call, callK_ret, wp1_mv', wp1_bin', wp1_un', wp1_eq', wp1_extract', wp1_pick', wp1_len', wp1_load', wp1_conv', wp1_store', wp1_idxAddr', wp1_append', wp1_mkIface', wp1_alloc', rd_t, rd_c, ok_t, ok_c, put_some, put_none, get_put, reduceIte, Nat.reduceEqDiff, AV.bool.injEq, Option.some.injEq, exists_eq_left', Option.map_some, Option.bind_some, opds_nil, opds_cons, opd_t, opd_c, aBin, aInt, decide_true, decide_false, negIf, wp1_nilCheck', wp1_fieldAddr', wp1_slice, op_slice, opdo_some, opdo_none, wp1_lit, op_lit, parts_nil, parts_cons, wp1_build, op_build, wp1_box, op_box, g0, g5, g6, g7, z4, z5, aPick]
      refine hQ _ _ s.ticks .refl ho hat ?_ ?_ ?_ (by rw [if_neg (fun e => c5 e.2)]) <;> simp only [get_put, reduceIte, Nat.reduceEqDiff]
  · have z4 : ((s.w : Int) == 4) = false := by simp; omega
    simp only [a15_15, a15_17, wpc_skip, wpc_ops, wpc_draw, wpc_seq, wpc_cond, wpc_block, wpc_loop, wpc_exit, wpc_scope, wpc_ret, seqQ_norm, seqQ_ret, seqQ_exit, blockQ'_norm, blockQ'_ret, blockQ'_exit, roundQ_norm, roundQ_ret, roundQ_exit, condK_true, condK_false, wpo_nil', wpo_none, wpo_some, opsK_apply, guardK_tt, guardK_ff, guardK_tf, guardK_ft, wp1_call, callK_ret, wp1_mv', wp1_bin', wp1_un', wp1_eq', wp1_extract', wp1_pick', wp1_len', wp1_load', wp1_conv', wp1_store', wp1_idxAddr', wp1_append', wp1_mkIface', wp1_alloc', rd_t, rd_c, ok_t, ok_c, put_some, put_none, get_put, reduceIte, Nat.reduceEqDiff, AV.bool.injEq, Option.some.injEq, exists_eq_left', Option.map_some, Option.bind_some, opds_nil, opds_cons, opd_t, opd_c, aBin, aInt, decide_true, decide_false, negIf, wp1_nilCheck', wp1_fieldAddr', wp1_slice, op_slice, opdo_some, opdo_none, wp1_lit, op_lit, parts_nil, parts_cons, wp1_build, op_build, wp1_box, op_box, g0, g5, g6, g7, z4, aPick]
    refine hQ _ _ s.ticks .refl ho hat ?_ ?_ ?_ (by rw [if_neg (fun e => c4 e.1)]) <;> simp only [get_put, reduceIte, Nat.reduceEqDiff]

theorem rnext_spec {h : Heap} {id : Nat} {s : Rs} {bs : List UInt8} {hv : AV} (ho : HeapOk h) (k : Rr h id s bs hv) (hw : s.w = 2 ∨ s.w = 4) (hk : s.ok bs) :
    WC env 15 [.ptr id 0 0] h (fun o => ∃ h' hv' bv, HeapOk h' ∧ Rr h' id (nextF s bs).1 (nextF s bs).2.1 hv' ∧ Chg (fun i => i = id) h h' ∧ (∀ i, hv'.own = some i → hv.own = some i ∨ h.next ≤ i) ∧
      Bytes h' bv ((nextF s bs).2.2.1.getD []) ∧ (∀ i, bv.own = some i → h.next ≤ i) ∧
      o = .ret ⟨.tup [bv, .bool (nextF s bs).2.2.1.isSome, if (nextF s bs).2.2.2 = true then linkV [102, 114, 97, 109, 101] s.bytes 120 else .nils], h', .write⟩) := by
  obtain ⟨k1, k2, k3⟩ := hk
  have hw0 : s.w ≠ 0 := by omega
  have hb : Bytes h hv bs := k.by_
  have hid : id < h.next := ho.lt k.hat
  have l6 := rs_ld6 k.hat
  have l0 := rs_ld0 k.hat
  have l5 := rs_ld5 k.hat
  have ln := hb.lenOp
  have ret : ∀ {h' : Heap} {σ : Slots} {bv : AV} {b : Bool} {e : AV}, σ.get 2 = bv → σ.get 3 = .bool b → σ.get 4 = e → env.results ⟨σ, h'⟩ [.tmp 2, .tmp 3, .tmp 4] = some [bv, .bool b, e] := by
    intro h' σ bv b e e1 e2 e3
    simp only [Env.results, Option.map_some, e1, e2, e3]
  have hmax : rmaxOf (s.w : Int) = maxOf s.w := by rcases hw with hw | hw <;> simp [maxOf, rmaxOf, hw]
  have hmax0 : (0 : Int) ≤ maxOf s.w := by rcases hw with hw | hw <;> simp [maxOf, hw]
  refine call_body rfl rfl (.inl rfl) ?_
  by_cases c0 : s.dead = true
  · have hn : nextF s bs = (s, bs, none, true) := by simp only [nextF, if_pos c0]
    rw [hn]
    rw [c0] at l5
    have l4 := rs_ld4 k.hat
    simp only [a15, a15_0, a15_1, a15_2, Slots.ofList, wpc_skip, wpc_ops, wpc_draw, wpc_seq, wpc_cond, wpc_block, wpc_loop, wpc_exit, wpc_scope, wpc_ret, seqQ_norm, seqQ_ret, seqQ_exit, blockQ'_norm, blockQ'_ret, blockQ'_exit, roundQ_norm, roundQ_ret, roundQ_exit, condK_true, condK_false, wpo_nil', wpo_none, wpo_some, opsK_apply, guardK_tt, guardK_ff, guardK_tf, guardK_ft, wp1_call, callK_ret, wp1_mv', wp1_bin', wp1_un', wp1_eq', wp1_extract', wp1_pick', wp1_len', wp1_load', wp1_conv', wp1_store', wp1_idxAddr', wp1_append', wp1_mkIface', wp1_alloc', rd_t, rd_c, ok_t, ok_c, put_some, put_none, get_put, reduceIte, Nat.reduceEqDiff, AV.bool.injEq, Option.some.injEq, exists_eq_left', Option.map_some, Option.bind_some, opds_nil, opds_cons, opd_t, opd_c, aBin, aInt, decide_true, decide_false, negIf, wp1_nilCheck', wp1_fieldAddr', wp1_slice, op_slice, opdo_some, opdo_none, wp1_lit, op_lit, parts_nil, parts_cons, wp1_build, op_build, wp1_box, op_box, aNil_ptr, aFieldAddr, Nat.add_zero, Nat.zero_add, l5, l4, wc_eq (no_spec _ _ _)]
    exact ⟨_, ret rfl rfl rfl, h, hv, .nils, ho, k, .refl, fun i e => .inl e, .nils, (fun i e => by cases e), rfl⟩
  have c0' : s.dead = false := by simpa using c0
  rw [c0'] at l5
  by_cases c1 : bs.length < s.w
  · have hn : nextF s bs = (s, bs, none, false) := by simp only [nextF, if_neg c0, if_pos c1]
    rw [hn]
    have hln : WC env 30 [.int .i64 s.w, hv, .int .i64 0] h (fun o => o = .ret ⟨.int .i64 (-1), h, .write⟩) := rlength_short hb (w := s.w) (at_ := 0) (n := bs.length) (by omega) c1 (by omega)
    have z1 : ((-1 : Int) > maxOf s.w) = False := eq_false (by omega)
    have z2 : ((-1 : Int) < 0) = True := eq_true (by omega)
    simp only [a15, a15_0, a15_1, a15_3, a15_4, a15_5, a15_8, a15_9, Slots.ofList, wpc_skip, wpc_ops, wpc_draw, wpc_seq, wpc_cond, wpc_block, wpc_loop, wpc_exit, wpc_scope, wpc_ret, seqQ_norm, seqQ_ret, seqQ_exit, blockQ'_norm, blockQ'_ret, blockQ'_exit, roundQ_norm, roundQ_ret, roundQ_exit, condK_true, condK_false, wpo_nil', wpo_none, wpo_some, opsK_apply, guardK_tt, guardK_ff, guardK_tf, guardK_ft, wp1_call, callK_ret, wp1_mv', wp1_bin', wp1_un', wp1_eq', wp1_extract', wp1_pick', wp1_len', wp1_load', wp1_conv', wp1_store', wp1_idxAddr', wp1_append', wp1_mkIface', wp1_alloc', rd_t, rd_c, ok_t, ok_c, put_some, put_none, get_put, reduceIte, Nat.reduceEqDiff, AV.bool.injEq, Option.some.injEq, exists_eq_left', Option.map_some, Option.bind_some, opds_nil, opds_cons, opd_t, opd_c, aBin, aInt, decide_true, decide_false, negIf, wp1_nilCheck', wp1_fieldAddr', wp1_slice, op_slice, opdo_some, opdo_none, wp1_lit, op_lit, parts_nil, parts_cons, wp1_build, op_build, wp1_box, op_box, aNil_ptr, aFieldAddr, Nat.add_zero, Nat.zero_add, l5, l0, l6, wc_eq hln, wc_eq (rgreatest_spec _ _), hmax, z1, z2, aPick]
    exact ⟨_, ret rfl rfl rfl, h, hv, .nils, ho, k, .refl, fun i e => .inl e, .nils, (fun i e => by cases e), rfl⟩
  have hw4 : s.w ≤ 4 := by omega
  have hln : WC env 30 [.int .i64 s.w, hv, .int .i64 0] h (fun o => o = .ret ⟨.int .i64 (num ((bs.drop 0).take s.w)), h, .write⟩) := rlength_spec hb (w := s.w) (at_ := 0) (n := bs.length) (by omega) hw4 (by omega) (by omega)
  rw [List.drop_zero] at hln
  obtain ⟨n, hnn⟩ : ∃ n, n = num (bs.take s.w) := ⟨_, rfl⟩
  rw [← hnn] at hln
  have hk32 : n < 4294967296 := by
    have h1 := num_lt (bs.take s.w)
    have h2 : (bs.take s.w).length ≤ 4 := by simp; omega
    have h3 : 256 ^ (bs.take s.w).length ≤ 256 ^ 4 := Nat.pow_le_pow_right (by omega) h2
    rw [hnn]; omega
  by_cases c2 : maxOf s.w < n
  · have hn : nextF s bs = ({ s with dead := true }, bs, none, true) := by simp only [nextF, if_neg c0, if_neg c1, ← hnn, if_pos c2]
    rw [hn]
    have z2 : ((n : Int) > maxOf (s.w : Int)) = True := eq_true (by omega)
    have t0 := rs_st5 true k.hat
    have l4 := rs_ld4 (at_upd (h := h) (id := id) (gen := 0) (cs := ({ s with dead := true } : Rs).cells hv))
    simp only [a15, a15_0, a15_1, a15_3, a15_4, a15_5, a15_6, a15_7, Slots.ofList, wpc_skip, wpc_ops, wpc_draw, wpc_seq, wpc_cond, wpc_block, wpc_loop, wpc_exit, wpc_scope, wpc_ret, seqQ_norm, seqQ_ret, seqQ_exit, blockQ'_norm, blockQ'_ret, blockQ'_exit, roundQ_norm, roundQ_ret, roundQ_exit, condK_true, condK_false, wpo_nil', wpo_none, wpo_some, opsK_apply, guardK_tt, guardK_ff, guardK_tf, guardK_ft, wp1_call, callK_ret, wp1_mv', wp1_bin', wp1_un', wp1_eq', wp1_extract', wp1_pick', wp1_len', wp1_load', wp1_conv', wp1_store', wp1_idxAddr', wp1_append', wp1_mkIface', wp1_alloc', rd_t, rd_c, ok_t, ok_c, put_some, put_none, get_put, reduceIte, Nat.reduceEqDiff, AV.bool.injEq, Option.some.injEq, exists_eq_left', Option.map_some, Option.bind_some, opds_nil, opds_cons, opd_t, opd_c, aBin, aInt, decide_true, decide_false, negIf, wp1_nilCheck', wp1_fieldAddr', wp1_slice, op_slice, opdo_some, opdo_none, wp1_lit, op_lit, parts_nil, parts_cons, wp1_build, op_build, wp1_box, op_box, aNil_ptr, aFieldAddr, Nat.add_zero, Nat.zero_add, l5, l0, l6, ln, wc_eq hln, wc_eq (rgreatest_spec _ _), hmax, wc_eq (no_spec _ _ _), z2, t0, l4]
    exact ⟨_, ret rfl rfl rfl, _, hv, .nils, ho.upd (at_look.1 k.hat) _ _, ⟨at_upd, k.by_.chg (S := fun i => i = id) (upd_chg rfl) (fun i e e2 => k.ne (by rw [e, e2])), k.ne, k.held⟩, upd_chg rfl, fun i e => .inl e, .nils, (fun i e => by cases e), rfl⟩
  have z2 : ((n : Int) > maxOf (s.w : Int)) = False := eq_false (by omega)
  have z0 : ((n : Int) < 0) = False := eq_false (by omega)
  obtain ⟨n2, hn2⟩ : ∃ n2, bs.length = s.w + n2 := ⟨bs.length - s.w, by omega⟩
  have e2 : IntKind.wrap .i64 ((bs.length : Int) - (s.w : Int)) = (n2 : Int) := wrap_nat (by omega) (by omega)
  by_cases c3 : n2 < n
  · have hn : nextF s bs = (s, bs, none, false) := by
      simp only [nextF, if_neg c0, if_neg c1, ← hnn, if_neg c2]
      rw [if_pos (by omega)]
    rw [hn]
    have z3 : ((n2 : Int) < (n : Int)) = True := eq_true (by omega)
    simp only [a15, a15_0, a15_1, a15_3, a15_4, a15_5, a15_8, a15_9, Slots.ofList, wpc_skip, wpc_ops, wpc_draw, wpc_seq, wpc_cond, wpc_block, wpc_loop, wpc_exit, wpc_scope, wpc_ret, seqQ_norm, seqQ_ret, seqQ_exit, blockQ'_norm, blockQ'_ret, blockQ'_exit, roundQ_norm, roundQ_ret, roundQ_exit, condK_true, condK_false, wpo_nil', wpo_none, wpo_some, opsK_apply, guardK_tt, guardK_ff, guardK_tf, guardK_ft, wp1_call, callK_ret, wp1_mv', wp1_bin', wp1_un', wp1_eq', wp1_extract', wp1_pick', wp1_len', wp1_load', wp1_conv', wp1_store', wp1_idxAddr', wp1_append', wp1_mkIface', wp1_alloc', rd_t, rd_c, ok_t, ok_c, put_some, put_none, get_put, reduceIte, Nat.reduceEqDiff, AV.bool.injEq, Option.some.injEq, exists_eq_left', Option.map_some, Option.bind_some, opds_nil, opds_cons, opd_t, opd_c, aBin, aInt, decide_true, decide_false, negIf, wp1_nilCheck', wp1_fieldAddr', wp1_slice, op_slice, opdo_some, opdo_none, wp1_lit, op_lit, parts_nil, parts_cons, wp1_build, op_build, wp1_box, op_box, aNil_ptr, aFieldAddr, Nat.add_zero, Nat.zero_add, l5, l0, l6, ln, wc_eq hln, wc_eq (rgreatest_spec _ _), hmax, z2, z0, e2, z3, aPick]
    exact ⟨_, ret rfl rfl rfl, h, hv, .nils, ho, k, .refl, fun i e => .inl e, .nils, (fun i e => by cases e), rfl⟩
  have z3 : ((n2 : Int) < (n : Int)) = False := eq_false (by omega)
  obtain ⟨w, hwn⟩ : ∃ w, w = s.w + n := ⟨_, rfl⟩
  have hn : nextF s bs = ({ s with held := (bs.drop w).length, frames := s.frames + 1, bytes := s.bytes + w, ticks := if s.w = 4 ∧ n = 0 then s.ticks + 1 else s.ticks }, bs.drop w, some ((bs.drop s.w).take n), false) := by
    simp only [nextF, if_neg c0, if_neg c1, ← hnn, if_neg c2, ← hwn]
    rw [if_neg (by omega)]
  rw [hn]
  simp only [Option.getD_some, Option.isSome_some, Bool.false_eq_true, if_false]
  have e3 : IntKind.wrap .i64 ((s.w : Int) + (n : Int)) = (w : Int) := wrap_nat (by omega) (by omega)
  obtain ⟨v1, s1, b1⟩ := hb.mid (k1 := .i64) (k2 := .i64) (l := s.w) (u := w) (by omega) (by omega)
  rw [show w - s.w = n by omega] at b1
  obtain ⟨bv, h1, c1', ha1, hacc1, hlen1, hle1, ho1, hown1, hne1⟩ := append_own ho b1 (by simp; omega)
  have hat1 := hle1.2 _ _ _ k.hat
  have hb1 := hb.le hle1
  obtain ⟨rv, s2, b2, rown⟩ := hb1.from_own (kd := .i64) (l := w) (by omega)
  have l61 := rs_ld6 hat1
  have t0 := rs_st6 b2.row hat1
  have l7 := rs_ld6 (at_upd (h := h1) (id := id) (gen := 0) (cs := s.cells rv))
  obtain ⟨H, hH⟩ : ∃ H, H = (bs.drop w).length := ⟨_, rfl⟩
  have hln2 := (b2.chg (S := fun i => i = id) (h' := h1.upd id 0 (s.cells rv)) (upd_chg rfl) fun i e e2 => k.ne (by rw [← e2]; exact rown i e)).lenOp
  rw [← hH] at hln2 ⊢
  have t1 := rs_st1 H (at_upd (h := h1) (id := id) (gen := 0) (cs := s.cells rv))
  have l8 := rs_ld2 (at_upd (h := h1.upd id 0 (s.cells rv)) (id := id) (gen := 0) (cs := ({ s with held := H } : Rs).cells rv))
  have t2 := rs_st2 (s.frames + 1) (at_upd (h := h1.upd id 0 (s.cells rv)) (id := id) (gen := 0) (cs := ({ s with held := H } : Rs).cells rv))
  have l9 := rs_ld4 (at_upd (h := (h1.upd id 0 (s.cells rv)).upd id 0 (({ s with held := H } : Rs).cells rv)) (id := id) (gen := 0) (cs := ({ s with held := H, frames := s.frames + 1 } : Rs).cells rv))
  have t3 := rs_st4 (s.bytes + w) (at_upd (h := (h1.upd id 0 (s.cells rv)).upd id 0 (({ s with held := H } : Rs).cells rv)) (id := id) (gen := 0) (cs := ({ s with held := H, frames := s.frames + 1 } : Rs).cells rv))
  have e4 : IntKind.wrap .i64 ((s.frames : Int) + 1) = ((s.frames + 1 : Nat) : Int) := wrap_nat (by omega) (by omega)
  obtain ⟨m, hm⟩ : ∃ m, m = s.bytes + s.w := ⟨_, rfl⟩
  have e5 : IntKind.wrap .i64 ((s.bytes : Int) + (s.w : Int)) = (m : Int) := wrap_nat (by omega) (by omega)
  have e6 : IntKind.wrap .i64 ((m : Int) + (n : Int)) = ((s.bytes + w : Nat) : Int) := wrap_nat (by omega) (by omega)
  have hid1 : id < h1.next := ho1.lt hat1
  have rid : rv.own ≠ some id := fun e => k.ne (rown _ e)
  have bid : bv.own ≠ some id := fun e => by have := hown1 _ e; omega
  have chg2 : Chg (fun i => i = id) h h1 := hle1.chg
  have up : ∀ {h : Heap} {cs cs' : List AV}, HeapOk h → h.at_ id 0 = some cs → HeapOk (h.upd id 0 cs') := fun ho e => ho.upd (at_look.1 e) _ _
  have fin : ∀ {h' : Heap} {t : Nat}, Chg (fun i => i = id) h1 h' → HeapOk h' → h'.at_ id 0 = some (({ s with held := H, frames := s.frames + 1, bytes := s.bytes + w, ticks := t } : Rs).cells rv) → (if s.w = 4 ∧ n = 0 then s.ticks + 1 else s.ticks) = t →
      ∃ h'' hv' bv', HeapOk h'' ∧ Rr h'' id { s with held := H, frames := s.frames + 1, bytes := s.bytes + w, ticks := if s.w = 4 ∧ n = 0 then s.ticks + 1 else s.ticks } (bs.drop w) hv' ∧ Chg (fun i => i = id) h h'' ∧ (∀ i, hv'.own = some i → hv.own = some i ∨ h.next ≤ i) ∧
        Bytes h'' bv' ((bs.drop s.w).take n) ∧ (∀ i, bv'.own = some i → h.next ≤ i) ∧
        COut.ret ⟨.tup [bv, .bool true, .nils], h', .write⟩ = .ret ⟨.tup [bv', .bool true, .nils], h'', .write⟩ := by
    intro h' t hc hh hat ht
    rw [ht]
    refine ⟨h', rv, bv, hh, ⟨hat, b2.chg hc fun i e e2 => rid (by rw [e, e2]), rid, hH⟩, chg2.trans hc, fun i e => .inl (rown i e), ?_, fun i e => (hown1 i e).1, rfl⟩
    exact hacc1.toBytes.chg hc fun i e e2 => bid (by rw [e, e2])
  have hog := up (cs' := ({ s with held := H, frames := s.frames + 1, bytes := s.bytes + w } : Rs).cells rv) (up (cs' := ({ s with held := H, frames := s.frames + 1 } : Rs).cells rv) (up (cs' := ({ s with held := H } : Rs).cells rv) (up (cs' := s.cells rv) ho1 hat1) at_upd) at_upd) at_upd
  have hat_g := at_upd (h := (((h1.upd id 0 (s.cells rv)).upd id 0 (({ s with held := H } : Rs).cells rv)).upd id 0 (({ s with held := H, frames := s.frames + 1 } : Rs).cells rv))) (id := id) (gen := 0) (cs := ({ s with held := H, frames := s.frames + 1, bytes := s.bytes + w } : Rs).cells rv)
  have chg_g : Chg (fun i => i = id) h1 ((((h1.upd id 0 (s.cells rv)).upd id 0 (({ s with held := H } : Rs).cells rv)).upd id 0 (({ s with held := H, frames := s.frames + 1 } : Rs).cells rv)).upd id 0 (({ s with held := H, frames := s.frames + 1, bytes := s.bytes + w } : Rs).cells rv)) :=
    ((Chg.trans (S := fun i => i = id) (upd_chg rfl) (upd_chg rfl)).trans (upd_chg rfl)).trans (upd_chg rfl)
  have hticks : s.ticks < 1000000000000 := by omega
  simp only [a15, a15_0, a15_1, a15_3, a15_4, a15_5, a15_8, a15_10, a15_11, a15_12, a15_13, a15_14, Slots.ofList, wpc_skip, wpc_ops, wpc_draw, wpc_seq, wpc_cond, wpc_block, wpc_loop, wpc_exit, wpc_scope, wpc_ret, seqQ_norm, seqQ_ret, seqQ_exit, blockQ'_norm, blockQ'_ret, blockQ'_exit, roundQ_norm, roundQ_ret, roundQ_exit, condK_true, condK_false, wpo_nil', wpo_none, wpo_some, opsK_apply, guardK_tt, guardK_ff, guardK_tf, guardK_ft, wp1_call, callK_ret, wp1_mv', wp1_bin', wp1_un', wp1_eq', wp1_extract', wp1_pick', wp1_len', wp1_load', wp1_conv', wp1_store', wp1_idxAddr', wp1_append', wp1_mkIface', wp1_alloc', rd_t, rd_c, ok_t, ok_c, put_some, put_none, get_put, reduceIte, Nat.reduceEqDiff, AV.bool.injEq, Option.some.injEq, exists_eq_left', Option.map_some, Option.bind_some, opds_nil, opds_cons, opd_t, opd_c, aBin, aInt, decide_true, decide_false, negIf, wp1_nilCheck', wp1_fieldAddr', wp1_slice, op_slice, opdo_some, opdo_none, wp1_lit, op_lit, parts_nil, parts_cons, wp1_build, op_build, wp1_box, op_box, aNil_ptr, aFieldAddr, Nat.add_zero, Nat.zero_add, l5, l0, l6, ln, wc_eq hln, wc_eq (rgreatest_spec _ _), hmax, z2, z0, e2, z3, aPick, e3, s1, aFill, List.length_nil, Nat.mul_one, ha1, l61, s2, t0, l7, hln2, t1, l8, e4, t2, l9, e5, e6, t3]
  refine rnext_tail (id := id) (s := { s with held := H, frames := s.frames + 1, bytes := s.bytes + w }) (n := n) (rv := rv) hw4 hat_g hog (by simp only [get_put, reduceIte, Nat.reduceEqDiff]) (by simp only [get_put, reduceIte, Nat.reduceEqDiff]) (by simp only [get_put, reduceIte, Nat.reduceEqDiff]) (bv := bv) (by simp only [get_put, reduceIte, Nat.reduceEqDiff]) hticks fun σ' h' t' c' o' a' g2 g3 g4 g5 => ?_
  exact ⟨_, ret g2 g3 g4, fin (chg_g.trans c') o' a' g5⟩
end Go.Fd
