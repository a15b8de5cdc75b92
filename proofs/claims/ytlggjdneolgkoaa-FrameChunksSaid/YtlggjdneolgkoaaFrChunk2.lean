/-
  FrameChunks: the inner loop.
-/
import Derived.Test.YtlggjdneolgkoaaFrChunk
set_option linter.unusedVariables false
set_option linter.unusedSimpArgs false
set_option maxRecDepth 20000
namespace Go.Fr
open Go.AM

def Rs.head (s : Rs) : List AV := [.int .i64 s.w, .int .i64 s.held, .int .i64 s.frames, .int .i64 s.ticks, .int .i64 s.bytes, .bool s.dead]

theorem state_spec {h : Heap} {id : Nat} {s : Rs} {hv : AV} (ho : HeapOk h) (hat : h.at_ id 0 = some (s.cells hv)) :
    WC env 12 [.ptr id 0 0] h (fun o => ∃ h', HeapOk h' ∧ h.le h' ∧ o = .ret ⟨.agg s.head, h', .write⟩) := by
  have hle := le_new ho [AV.int .i64 0, .int .i64 0, .int .i64 0, .int .i64 0, .int .i64 0, .bool false]
  have hat1 := hle.2 _ _ _ hat
  have l0 : aLoad (h.new [AV.int .i64 0, .int .i64 0, .int .i64 0, .int .i64 0, .int .i64 0, .bool false]) true 6 (.ptr id 0 0) = some ⟨.agg s.head, h.new [AV.int .i64 0, .int .i64 0, .int .i64 0, .int .i64 0, .int .i64 0, .bool false], .read⟩ := by
    simp only [aLoad, hat1, Option.bind_some]; rfl
  have t0 : aStore (h.new [AV.int .i64 0, .int .i64 0, .int .i64 0, .int .i64 0, .int .i64 0, .bool false]) 6 (.ptr h.next 0 0) (.agg s.head) = some ⟨.undef, (h.new [AV.int .i64 0, .int .i64 0, .int .i64 0, .int .i64 0, .int .i64 0, .bool false]).upd h.next 0 s.head, .write⟩ := by
    simp only [aStore, at_new, Option.bind_some]; rfl
  have l1 : aLoad ((h.new [AV.int .i64 0, .int .i64 0, .int .i64 0, .int .i64 0, .int .i64 0, .bool false]).upd h.next 0 s.head) true 6 (.ptr h.next 0 0) = some ⟨.agg s.head, (h.new [AV.int .i64 0, .int .i64 0, .int .i64 0, .int .i64 0, .int .i64 0, .bool false]).upd h.next 0 s.head, .read⟩ := by
    simp only [aLoad, at_upd, Option.bind_some]; rfl
  refine call_body rfl rfl (.inl rfl) ?_
  simp only [a12, a12_0, a12_1, a12_3, Slots.ofList, wpc_skip, wpc_ops, wpc_draw, wpc_seq, wpc_cond, wpc_block, wpc_loop, wpc_exit, wpc_scope, wpc_ret, seqQ_norm, seqQ_ret, seqQ_exit, blockQ'_norm, blockQ'_ret, blockQ'_exit, roundQ_norm, roundQ_ret, roundQ_exit, condK_true, condK_false, wpo_nil', wpo_none, wpo_some, opsK_apply, guardK_tt, guardK_ff, guardK_tf, guardK_ft, wp1_call, callK_ret, wp1_mv', wp1_bin', wp1_un', wp1_eq', wp1_extract', wp1_pick', wp1_len', wp1_load', wp1_conv', wp1_store', wp1_idxAddr', wp1_append', wp1_mkIface', wp1_alloc', rd_t, rd_c, ok_t, ok_c, put_some, put_none, get_put, reduceIte, Nat.reduceEqDiff, AV.bool.injEq, Option.some.injEq, exists_eq_left', Option.map_some, Option.bind_some, opds_nil, opds_cons, opd_t, opd_c, aBin, aInt, decide_true, decide_false, negIf, wp1_nilCheck', wp1_fieldAddr', wp1_slice, op_slice, opdo_some, opdo_none, wp1_lit, op_lit, parts_nil, parts_cons, wp1_build, op_build, wp1_box, op_box, aEq_ptr, aNil_ptr, aFieldAddr, Nat.add_zero, l0, t0]
  refine ⟨[.agg s.head], ?_, _, (ho.new _).upd (at_look.1 (at_new _)) _ _, ⟨hle.1, fun i g cs e => ?_⟩, rfl⟩
  · simp only [Env.results, Option.map_some, Option.bind_some, get_put, reduceIte, Nat.reduceEqDiff, l1]
  · rw [at_upd_ne (fun e2 => by have := ho.lt e; omega)]
    exact hle.2 _ _ _ e

theorem feed_dead {h : Heap} {id : Nat} {s : Rs} {bs : List UInt8} {hv v : AV} (k : Rd h id s bs hv) (hw : s.w ≠ 0) (hd : s.dead = true) :
    WC env 9 [.ptr id 0 0, v] h (fun o => o = .ret ⟨faultV s.bytes 120, h, .write⟩) := by
  refine call_body rfl rfl (.inl rfl) ?_
  simp only [a9, a9_0, a9_1, a9_2, a9_3, Slots.ofList, wpc_skip, wpc_ops, wpc_draw, wpc_seq, wpc_cond, wpc_block, wpc_loop, wpc_exit, wpc_scope, wpc_ret, seqQ_norm, seqQ_ret, seqQ_exit, blockQ'_norm, blockQ'_ret, blockQ'_exit, roundQ_norm, roundQ_ret, roundQ_exit, condK_true, condK_false, wpo_nil', wpo_none, wpo_some, opsK_apply, guardK_tt, guardK_ff, guardK_tf, guardK_ft, wp1_call, callK_ret, wp1_mv', wp1_bin', wp1_un', wp1_eq', wp1_extract', wp1_pick', wp1_len', wp1_load', wp1_conv', wp1_store', wp1_idxAddr', wp1_append', wp1_mkIface', wp1_alloc', rd_t, rd_c, ok_t, ok_c, put_some, put_none, get_put, reduceIte, Nat.reduceEqDiff, AV.bool.injEq, Option.some.injEq, exists_eq_left', Option.map_some, Option.bind_some, opds_nil, opds_cons, opd_t, opd_c, aBin, aInt, decide_true, decide_false, negIf, wp1_nilCheck', wp1_fieldAddr', wp1_slice, op_slice, opdo_some, opdo_none, wp1_lit, op_lit, parts_nil, parts_cons, wp1_build, op_build, wp1_box, op_box, wc_eq (ready_dead k.hat hw hd), eq_fault, Bool.not_false]
  exact ⟨[faultV s.bytes 120], by simp only [Env.results, Option.map_some, get_put, reduceIte], rfl⟩

theorem Lists.snoc2 {h1 : Heap} {lv v : AV} {cells : List AV} {acc : List (List UInt8)} {b : Nat} {bs : List UInt8} (ho1 : HeapOk h1) (k : Lists h1 lv cells acc b) (hb : Bytes h1 v bs)
    (hv : ∀ id, v.own = some id → b ≤ id ∧ lv.own ≠ some id) (hbn : b ≤ h1.next) (hsm : acc.length < 1000000000000) :
    ∃ lv' h2 c, aAppend h1 1 24 lv (.fs true 1 [v]) = some ⟨lv', h2, c⟩ ∧ Lists h2 lv' (cells ++ [v]) (acc ++ [bs]) b ∧ HeapOk h2 ∧ Heap.leBut lv.own h1 h2 ∧ (∀ id, lv'.own = some id → lv.own = some id ∨ h1.next ≤ id) := by
  have ha := k.grown
  obtain ⟨m, hm, hlen⟩ := ha.len
  have hcl := k.all.length
  have hm' : m = acc.length := by omega
  obtain ⟨lv', h2, c, g1, g2, g3, g4, g5, g6⟩ := ha.append ho1 (bt := 24) (by omega) hm (y := .fs true 1 [v]) (n := 1) (new := [v]) (c := .none) rfl (by simp [sliceCells]) rfl (by omega) (by omega)
  refine ⟨lv', h2, c, g1, ⟨g2, ?_, ?_, ?_⟩, g4, g3, g5⟩
  · refine All2b.snoc (hb.leBut g3 fun id e e2 => (hv id e).2 e2) (k.all.leBut (o := lv.own) g3 fun x hx id e e2 => (k.new id e2).2 x hx e)
  · intro id e
    rcases g5 id e with h5 | h5
    · refine ⟨(k.new id h5).1, fun x hx => ?_⟩
      simp only [List.mem_append, List.mem_singleton] at hx
      rcases hx with hx | rfl
      · exact (k.new id h5).2 x hx
      · exact fun e2 => (hv id e2).2 h5
    · refine ⟨by omega, fun x hx e2 => ?_⟩
      simp only [List.mem_append, List.mem_singleton] at hx
      rcases hx with hx | rfl
      · have := k.all.ownLt ho1 x hx id e2
        omega
      · have := hb.ownLt ho1 e2
        omega
  · intro x hx id e
    simp only [List.mem_append, List.mem_singleton] at hx
    rcases hx with hx | rfl
    · exact k.low x hx id e
    · exact (hv id e).1

theorem Lists.chg3 {h h' : Heap} {lv : AV} {cells : List AV} {acc : List (List UInt8)} {b : Nat} {S : Nat → Prop} (k : Lists h lv cells acc b) (c : Chg S h h') (hS : ∀ i, S i → lv.own ≠ some i ∧ ∀ x ∈ cells, x.own ≠ some i) : Lists h' lv cells acc b :=
  ⟨k.grown.chg c fun i e s => (hS i s).1 e, k.all.chg c fun x hx i e s => (hS i s).2 x hx e, k.new, k.low⟩

/-- what has come so far lies apart from what is held -/
structure Gt (h : Heap) (lv : AV) (cells : List AV) (got : List (List UInt8)) (b0 : Nat) (hv : AV) : Prop where
  ls : Lists h lv cells got b0
  dis : ∀ i, hv.own = some i → lv.own ≠ some i ∧ ∀ x ∈ cells, x.own ≠ some i
  low : ∀ i, hv.own = some i → b0 ≤ i

theorem Gt.chg {h h' : Heap} {lv hv hv' : AV} {cells : List AV} {got : List (List UInt8)} {b0 id : Nat} {S : Nat → Prop} (ho : HeapOk h) (hb0 : b0 ≤ h.next) (k : Gt h lv cells got b0 hv) (hid : id < b0) (c : Chg S h h') (hS : ∀ i, S i → i = id ∨ hv.own = some i)
    (hn : ∀ i, hv'.own = some i → hv.own = some i ∨ h.next ≤ i) : Gt h' lv cells got b0 hv' := by
  refine ⟨k.ls.chg3 c fun i s => ?_, fun i e => ?_, fun i e => (hn i e).elim (k.low i) fun e => by omega⟩
  · rcases hS i s with rfl | e
    · exact ⟨fun e => by have := (k.ls.new _ e).1; omega, fun x hx e => by have := k.ls.low x hx _ e; omega⟩
    · exact k.dis i e
  · rcases hn i e with e | e
    · exact k.dis i e
    · exact ⟨fun e2 => by have := k.ls.grown.ownLt ho e2; omega, fun x hx e2 => by have := k.ls.all.ownLt ho x hx i e2; omega⟩

theorem chunk_cond {σ : Slots} {h : Heap} {asks : Int} {fed i : Nat} {bv : AV} {b : List UInt8} (hbv : ∀ h, Bytes h bv b) (hi : i < 200) (g4 : σ.get 4 = bv) (g6 : σ.get 6 = .int .u64 asks) (g14 : σ.get 14 = .int .i64 fed) (g15 : σ.get 15 = .int .i64 i) {Q : AExit → St → Prop}
    (h1 : ∀ σ', (∀ n, n < 111 → σ'.get n = σ.get n) → Q .norm ⟨σ', h⟩) (h2 : fed ≠ b.length → ∀ σ', (∀ n, n < 111 → σ'.get n = σ.get n) → Q (.exit 2) ⟨σ', h⟩) :
    wpc env (.seq (.ops a3_22) (.cond (.t 123) .skip (.exit 2))) ⟨σ, h⟩ Q := by
  have z64 : ((64 : Int) = 0) = False := eq_false (by decide)
  have e1 : (i : Int).tmod 64 = ((i % 64 : Nat) : Int) := rfl
  obtain ⟨j, hj⟩ : ∃ j, j = i % 64 := ⟨_, rfl⟩
  have hj64 : j < 64 := by omega
  rw [← hj] at e1
  have e2 : aConv h (.int .u64) (.int .i64 (j : Int)) = some ⟨.int .u64 (j : Int), h, .none⟩ := by
    have : IntKind.wrap .u64 (j : Int) = j := by
      unfold IntKind.wrap
      simp [IntKind.signed, IntKind.bits]
      omega
    simp [aConv, this]
  obtain ⟨M, e3⟩ : ∃ M, aShift .shr .u64 asks (j : Int) = some (.int .u64 M) := by
    unfold aShift
    rw [if_neg (by omega)]
    exact ⟨_, rfl⟩
  have e4 := (hbv h).lenOp
  have fr : ∀ {σ' : Slots}, (∀ n, n < 111 → σ'.get n = σ.get n) → ∀ n, n < 111 → σ'.get n = σ.get n := fun h => h
  by_cases hx : (IntKind.wrap .u64 ((BitVec.ofInt IntKind.u64.bits M &&& BitVec.ofInt IntKind.u64.bits 1).toNat : Int) == 1) = true
  · simp only [a3_22, wpc_skip, wpc_ops, wpc_draw, wpc_seq, wpc_cond, wpc_block, wpc_loop, wpc_exit, wpc_scope, wpc_ret, seqQ_norm, seqQ_ret, seqQ_exit, blockQ'_norm, blockQ'_ret, blockQ'_exit, roundQ_norm, roundQ_ret, roundQ_exit, condK_true, condK_false, wpo_nil', wpo_none, wpo_some, opsK_apply, guardK_tt, guardK_ff, guardK_tf, guardK_ft, wp1_call, callK_ret, wp1_mv', wp1_bin', wp1_un', wp1_eq', wp1_extract', wp1_pick', wp1_len', wp1_load', wp1_conv', wp1_store', wp1_idxAddr', wp1_append', wp1_mkIface', wp1_alloc', rd_t, rd_c, ok_t, ok_c, put_some, put_none, get_put, reduceIte, Nat.reduceEqDiff, AV.bool.injEq, Option.some.injEq, exists_eq_left', Option.map_some, Option.bind_some, opds_nil, opds_cons, opd_t, opd_c, aBin, aInt, decide_true, decide_false, negIf, wp1_nilCheck', wp1_fieldAddr', wp1_slice, op_slice, opdo_some, opdo_none, wp1_lit, op_lit, parts_nil, parts_cons, wp1_build, op_build, wp1_box, op_box, g4, g6, g14, g15, z64, e1, e2, e3, hx, aPick]
    refine h1 _ fun n hn => ?_
    simp only [get_put]
    repeat rw [if_neg (by omega)]
  · have hx : (IntKind.wrap .u64 ((BitVec.ofInt IntKind.u64.bits M &&& BitVec.ofInt IntKind.u64.bits 1).toNat : Int) == 1) = false := by simpa using hx
    by_cases c : fed = b.length
    · have z : ((fed : Int) == (b.length : Int)) = true := by simp [c]
      simp only [a3_22, wpc_skip, wpc_ops, wpc_draw, wpc_seq, wpc_cond, wpc_block, wpc_loop, wpc_exit, wpc_scope, wpc_ret, seqQ_norm, seqQ_ret, seqQ_exit, blockQ'_norm, blockQ'_ret, blockQ'_exit, roundQ_norm, roundQ_ret, roundQ_exit, condK_true, condK_false, wpo_nil', wpo_none, wpo_some, opsK_apply, guardK_tt, guardK_ff, guardK_tf, guardK_ft, wp1_call, callK_ret, wp1_mv', wp1_bin', wp1_un', wp1_eq', wp1_extract', wp1_pick', wp1_len', wp1_load', wp1_conv', wp1_store', wp1_idxAddr', wp1_append', wp1_mkIface', wp1_alloc', rd_t, rd_c, ok_t, ok_c, put_some, put_none, get_put, reduceIte, Nat.reduceEqDiff, AV.bool.injEq, Option.some.injEq, exists_eq_left', Option.map_some, Option.bind_some, opds_nil, opds_cons, opd_t, opd_c, aBin, aInt, decide_true, decide_false, negIf, wp1_nilCheck', wp1_fieldAddr', wp1_slice, op_slice, opdo_some, opdo_none, wp1_lit, op_lit, parts_nil, parts_cons, wp1_build, op_build, wp1_box, op_box, g4, g6, g14, g15, z64, e1, e2, e3, hx, aPick, e4, z]
      refine h1 _ fun n hn => ?_
      simp only [get_put]
      repeat rw [if_neg (by omega)]
    · have z : ((fed : Int) == (b.length : Int)) = false := by
        simp only [beq_eq_false_iff_ne, ne_eq]; omega
      simp only [a3_22, wpc_skip, wpc_ops, wpc_draw, wpc_seq, wpc_cond, wpc_block, wpc_loop, wpc_exit, wpc_scope, wpc_ret, seqQ_norm, seqQ_ret, seqQ_exit, blockQ'_norm, blockQ'_ret, blockQ'_exit, roundQ_norm, roundQ_ret, roundQ_exit, condK_true, condK_false, wpo_nil', wpo_none, wpo_some, opsK_apply, guardK_tt, guardK_ff, guardK_tf, guardK_ft, wp1_call, callK_ret, wp1_mv', wp1_bin', wp1_un', wp1_eq', wp1_extract', wp1_pick', wp1_len', wp1_load', wp1_conv', wp1_store', wp1_idxAddr', wp1_append', wp1_mkIface', wp1_alloc', rd_t, rd_c, ok_t, ok_c, put_some, put_none, get_put, reduceIte, Nat.reduceEqDiff, AV.bool.injEq, Option.some.injEq, exists_eq_left', Option.map_some, Option.bind_some, opds_nil, opds_cons, opd_t, opd_c, aBin, aInt, decide_true, decide_false, negIf, wp1_nilCheck', wp1_fieldAddr', wp1_slice, op_slice, opdo_some, opdo_none, wp1_lit, op_lit, parts_nil, parts_cons, wp1_build, op_build, wp1_box, op_box, g4, g6, g14, g15, z64, e1, e2, e3, hx, aPick, e4, z]
      refine h2 c _ fun n hn => ?_
      simp only [get_put]
      repeat rw [if_neg (by omega)]
end Go.Fr
