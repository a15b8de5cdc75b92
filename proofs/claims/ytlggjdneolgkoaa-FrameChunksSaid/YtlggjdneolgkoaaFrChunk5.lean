/-
  FrameChunks answers true.
-/
import Derived.Test.YtlggjdneolgkoaaFrChunk4
set_option linter.unusedVariables false
set_option linter.unusedSimpArgs false
set_option maxRecDepth 20000
namespace Go.Fr
open Go.AM

/-- two classes of operations that may change places, or are ordered -/
def clsApart (ordered : Bool) (x y : Cls) : Bool := ordered || match x, y with
  | .none, _ | _, .none | .read, .read => true
  | _, _ => false
def clsAll (x : Cls) (i : Nat) : List Cls → List Nat → Bool
  | y :: ys, m :: ms => clsApart (Nat.testBit m i) x y && clsAll x i ys ms
  | _, _ => true
def clsDraw : Nat → List Cls → List Nat → Bool
  | i, x :: xs, _ :: ms => clsAll x i xs ms && clsDraw (i + 1) xs ms
  | _, _, _ => true

theorem apart_of_cls {E : Env} {o : Bool} {hs : List Heap} {x y : AOper × St × Cls} (h : clsApart o x.2.2 y.2.2 = true) : E.apart o hs x y = true := by
  unfold clsApart at h
  unfold Env.apart
  cases o
  · simp only [Bool.false_or] at h ⊢
    cases hx : x.2.2 <;> cases hy : y.2.2 <;> simp [hx, hy] at h ⊢
  · rfl
theorem all_of_cls {E : Env} {hs : List Heap} {x : AOper × St × Cls} {i : Nat} : ∀ {l : List (AOper × St × Cls)} {ms : List Nat}, clsAll x.2.2 i (l.map fun y => y.2.2) ms = true → E.apartAll hs x i l ms = true
  | [], _, _ => by simp [Env.apartAll]
  | _ :: _, [], _ => by simp [Env.apartAll]
  | y :: l, m :: ms, h => by
    simp only [List.map_cons, clsAll, Bool.and_eq_true] at h
    simp only [Env.apartAll, Bool.and_eq_true]
    exact ⟨apart_of_cls h.1, all_of_cls h.2⟩
theorem draw_of_cls {E : Env} {hs : List Heap} : ∀ {l : List (AOper × St × Cls)} {ms : List Nat} {i : Nat}, clsDraw i (l.map fun y => y.2.2) ms = true → E.drawOk hs i l ms = true
  | [], _, _, _ => by simp [Env.drawOk]
  | _ :: _, [], _, _ => by simp [Env.drawOk]
  | y :: l, m :: ms, i, h => by
    simp only [List.map_cons, clsDraw, Bool.and_eq_true] at h
    simp only [Env.drawOk, Bool.and_eq_true]
    exact ⟨all_of_cls h.1, draw_of_cls h.2⟩

theorem op_field {E : Env} {σ : Slots} {h : Heap} {ag : Bool} {sz o : Nat} {x : Opd} : E.op σ h (.field ag sz o x) = (E.opd σ x).bind fun
    | .agg cs => if o + sz ≤ cs.length then (partOf ag sz o cs).map fun v => ⟨v, h, .none⟩ else none
    | _ => none := rfl

theorem head_bytes (s : Rs) : partOf false 1 4 s.head = some (.int .i64 s.bytes) := rfl
theorem head_held (s : Rs) : partOf false 1 1 s.head = some (.int .i64 s.held) := rfl
theorem head_len4 (s : Rs) : (4 + 1 ≤ s.head.length) = True := eq_true (by simp [Rs.head])
theorem head_len1 (s : Rs) : (1 + 1 ≤ s.head.length) = True := eq_true (by simp [Rs.head])

theorem frozen_to {bv : AV} {b : List UInt8} (hbv : ∀ h, Bytes h bv b) {u : Nat} (h2 : u ≤ b.length) : ∃ v, aSlice 1 bv none (some (.int .i64 u)) none = some v ∧ ∀ h, Bytes h v (b.take u) := by
  obtain ⟨v, g1, g2⟩ := (hbv .empty).to (kd := .i64) h2
  refine ⟨v, g1, fun h => ?_⟩
  obtain ⟨v2, g3, g4⟩ := (hbv h).to (kd := .i64) h2
  rw [g1] at g3; cases g3
  exact g4

theorem slice_link (l : List UInt8) (a c : Int) : aEq .slice (linkV l a c) .nils = some false := rfl
theorem slice_nils : aEq .slice .nils .nils = some true := rfl
theorem link_idx (l : List UInt8) (a c : Int) : aIdxAddr 3 (linkV l a c) (.int .i64 0) = some (.fp [.str l, .int .i64 a, .int .i64 c]) := rfl
theorem link_field (l : List UInt8) (a c : Int) : aFieldAddr 1 (.fp [.str l, .int .i64 a, .int .i64 c]) = some (.fp [.int .i64 a, .int .i64 c]) := rfl
theorem link_load (h : Heap) (a c : Int) : aLoad h false 1 (.fp [.int .i64 a, .int .i64 c]) = some ⟨.int .i64 a, h, .none⟩ := rfl

theorem chunk_end_bad {w id b0 : Nat} {b : List UInt8} {bv : AV} (hw : w = 2 ∨ w = 4) (hbv : ∀ h, Bytes h bv b) (hsm : b.length ≤ 16777216) {s : Rs} {bs : List UInt8} {got : List (List UInt8)} {hv lv : AV} {cells : List AV} {h : Heap} {σ : Slots}
    (ho : HeapOk h) (kr : Rd h id s bs hv) (hgl : got.length ≤ s.bytes) (hgt : Gt h lv cells got b0 hv) (hsp : splitF w (b.length + 1) b 0 [] = (got, s.bytes, true))
    (g3 : σ.get 3 = .int .i64 w) (g4 : σ.get 4 = bv) (g7 : σ.get 7 = .ptr id 0 0) (g11 : σ.get 11 = linkV [102, 114, 97, 109, 101] s.bytes 120) (g12 : σ.get 12 = lv) (g13 : σ.get 13 = .bool true) {Q : AExit → St → Prop}
    (hQ : ∀ σ' h', σ'.get 2 = .bool true → Q .ret ⟨σ', h'⟩) :
    wpc env (.seq (.seq (.ops a3_31) (.cond (.t 144) (.seq (.ops a3_32) (.seq (.draw a3_33 a3_33b) .ret)) .skip)) (.seq (.ops a3_34) .ret)) ⟨σ, h⟩ Q := by
  obtain ⟨_, t2, t3⟩ := split_take hw b (b.length + 1) 0 [] got s.bytes (Nat.zero_le _) (by simpa using hsp)
  obtain ⟨v, e1, hv1⟩ := frozen_to hbv t2
  have hvl : (b.take s.bytes).length = s.bytes := by simp; omega
  obtain ⟨o, ev, h1, ho1, hl1, hr⟩ := rsplit_spec hw ho (hv1 h) (by omega)
  have hs2 : splitF w ((b.take s.bytes).length + 1) (b.take s.bytes) 0 [] = (got, s.bytes, false) := by
    have := t3 ((b.take s.bytes).length + 1) (by omega)
    simpa using this
  rw [hs2, if_neg (by simp)] at hr
  obtain ⟨mv, cells2, hL2, rfl⟩ := hr
  have w1 : WC env 8 [.int .i64 w, v] h (fun o => o = _) := ⟨_, ev, rfl⟩
  have hL1 := hgt.ls.chg (S := fun i => False) hl1.chg fun i _ e => e
  have hsame := same_spec hL1.lb hL2.lb (by omega)
  rw [decide_eq_true rfl] at hsame
  obtain ⟨o, ev2, h2, ho2, hl2, rfl⟩ := state_spec ho1 (hl1.2 _ _ _ kr.hat)
  have w2 : WC env 12 [.ptr id 0 0] h1 (fun o => o = _) := ⟨_, ev2, rfl⟩
  have z1 : ((s.bytes : Int) == (s.bytes : Int)) = true := by simp
  simp only [a3_31, a3_32, a3_33, wpc_skip, wpc_ops, wpc_draw, wpc_seq, wpc_cond, wpc_block, wpc_loop, wpc_exit, wpc_scope, wpc_ret, seqQ_norm, seqQ_ret, seqQ_exit, blockQ'_norm, blockQ'_ret, blockQ'_exit, roundQ_norm, roundQ_ret, roundQ_exit, condK_true, condK_false, wpo_nil', wpo_none, wpo_some, opsK_apply, guardK_tt, guardK_ff, guardK_tf, guardK_ft, wp1_call, callK_ret, wp1_mv', wp1_bin', wp1_un', wp1_eq', wp1_extract', wp1_pick', wp1_len', wp1_load', wp1_conv', wp1_store', wp1_idxAddr', wp1_append', wp1_mkIface', wp1_alloc', rd_t, rd_c, ok_t, ok_c, put_some, put_none, get_put, reduceIte, Nat.reduceEqDiff, AV.bool.injEq, Option.some.injEq, exists_eq_left', Option.map_some, Option.bind_some, opds_nil, opds_cons, opd_t, opd_c, aBin, aInt, decide_true, decide_false, negIf, wp1_nilCheck', wp1_fieldAddr', wp1_slice, op_slice, opdo_some, opdo_none, wp1_lit, op_lit, parts_nil, parts_cons, wp1_build, op_build, wp1_box, op_box, wpl_nil', wpl_none, wpl_some, logK_apply, logQ_apply, guardL_tt, guardL_ff, guardL_tf, guardL_ft, drawQ_apply, g3, g4, g7, g11, g12, g13, slice_link, Bool.not_false, link_idx, link_field, link_load, e1, wc_eq w1, aExtract, ex20, ex21, ex22, wc_eq hsame, wc_eq w2, wp1_field, op_field, head_bytes, head_len4, z1, aPick]
  exact ⟨draw_of_cls rfl, hQ _ _ (by simp only [get_put, reduceIte, Nat.reduceEqDiff])⟩

theorem chunk_end_good {w id b0 : Nat} {b : List UInt8} {bv : AV} (hw : w = 2 ∨ w = 4) (hbv : ∀ h, Bytes h bv b) (hsm : b.length ≤ 16777216) {s : Rs} {bs : List UInt8} {got : List (List UInt8)} {hv lv wv : AV} {cells : List AV} {h : Heap} {σ : Slots}
    (ho : HeapOk h) (kr : Rd h id s bs hv) (hgl : got.length ≤ s.bytes) (hok : s.ok bs) (hgt : Gt h lv cells got b0 hv) (hwl : LB h wv got) (hsum : s.bytes + bs.length = b.length)
    (g4 : σ.get 4 = bv) (g7 : σ.get 7 = .ptr id 0 0) (g9 : σ.get 9 = wv) (g10 : σ.get 10 = .int .i64 s.bytes) (g11 : σ.get 11 = .nils) (g12 : σ.get 12 = lv) (g13 : σ.get 13 = .bool false) {Q : AExit → St → Prop}
    (hQ : ∀ σ' h', σ'.get 2 = .bool true → Q .ret ⟨σ', h'⟩) :
    wpc env (.seq (.seq (.ops a3_31) (.cond (.t 144) (.seq (.ops a3_32) (.seq (.draw a3_33 a3_33b) .ret)) .skip)) (.seq (.ops a3_34) .ret)) ⟨σ, h⟩ Q := by
  have hsame := same_spec hgt.ls.lb hwl (by have := hok.2.2; omega)
  rw [decide_eq_true rfl] at hsame
  obtain ⟨o, ev2, h2, ho2, hl2, rfl⟩ := state_spec ho kr.hat
  have w2 : WC env 12 [.ptr id 0 0] h (fun o => o = _) := ⟨_, ev2, rfl⟩
  obtain ⟨o, ev3, h3, ho3, hl3, rfl⟩ := state_spec ho2 (hl2.2 _ _ _ kr.hat)
  have w3 : WC env 12 [.ptr id 0 0] h2 (fun o => o = _) := ⟨_, ev3, rfl⟩
  have z1 : ((s.bytes : Int) == (s.bytes : Int)) = true := by simp
  have e1 : IntKind.wrap .i64 ((b.length : Int) - (s.bytes : Int)) = (s.held : Int) := by
    have := kr.held
    exact wrap_nat (by omega) (by omega)
  have z2 : ((s.held : Int) == (s.held : Int)) = true := by simp
  have e4 := (hbv h3).lenOp
  simp only [a3_31, a3_34, wpc_skip, wpc_ops, wpc_draw, wpc_seq, wpc_cond, wpc_block, wpc_loop, wpc_exit, wpc_scope, wpc_ret, seqQ_norm, seqQ_ret, seqQ_exit, blockQ'_norm, blockQ'_ret, blockQ'_exit, roundQ_norm, roundQ_ret, roundQ_exit, condK_true, condK_false, wpo_nil', wpo_none, wpo_some, opsK_apply, guardK_tt, guardK_ff, guardK_tf, guardK_ft, wp1_call, callK_ret, wp1_mv', wp1_bin', wp1_un', wp1_eq', wp1_extract', wp1_pick', wp1_len', wp1_load', wp1_conv', wp1_store', wp1_idxAddr', wp1_append', wp1_mkIface', wp1_alloc', rd_t, rd_c, ok_t, ok_c, put_some, put_none, get_put, reduceIte, Nat.reduceEqDiff, AV.bool.injEq, Option.some.injEq, exists_eq_left', Option.map_some, Option.bind_some, opds_nil, opds_cons, opd_t, opd_c, aBin, aInt, decide_true, decide_false, negIf, wp1_nilCheck', wp1_fieldAddr', wp1_slice, op_slice, opdo_some, opdo_none, wp1_lit, op_lit, parts_nil, parts_cons, wp1_build, op_build, wp1_box, op_box, g4, g7, g9, g10, g11, g12, g13, slice_nils, Bool.not_true, Bool.not_false, aUn, wc_eq hsame, wc_eq w2, wc_eq w3, wp1_field, op_field, head_bytes, head_len4, head_held, head_len1, z1, z2, e1, e4, aPick]
  exact hQ _ _ (by simp only [get_put, reduceIte, Nat.reduceEqDiff])

theorem chunk_bad {w : Int} (h2 : w ≠ 2) (h4 : w ≠ 4) {bv atv : AV} {asks : Int} (hbr : bv.row = some [bv]) (har : atv.row = some [atv]) :
    WC env 3 [.agg [.int .i64 w, bv, atv, .int .u64 asks]] .empty (fun o => ∃ h', o = .ret ⟨.bool true, h', .write⟩) := by
  have h1 : ∃ h, h = Heap.empty.new [.int .i64 w, bv, atv, .int .u64 asks] := ⟨_, rfl⟩
  have y1 : [AV.int .i64 w, bv, atv, .int .u64 asks].length = 4 := rfl
  have y2 : aEq .ptr .nilp .nilp = some true := rfl
  refine call_body rfl rfl (.inl rfl) ?_
  simp only [a3, a3_0, a3_1, a3_2, a3_3, a3_4, Slots.ofList, wpc_skip, wpc_ops, wpc_draw, wpc_seq, wpc_cond, wpc_block, wpc_loop, wpc_exit, wpc_scope, wpc_ret, seqQ_norm, seqQ_ret, seqQ_exit, blockQ'_norm, blockQ'_ret, blockQ'_exit, roundQ_norm, roundQ_ret, roundQ_exit, condK_true, condK_false, wpo_nil', wpo_none, wpo_some, opsK_apply, guardK_tt, guardK_ff, guardK_tf, guardK_ft, wp1_call, callK_ret, wp1_mv', wp1_bin', wp1_un', wp1_eq', wp1_extract', wp1_pick', wp1_len', wp1_load', wp1_conv', wp1_store', wp1_idxAddr', wp1_append', wp1_mkIface', wp1_alloc', rd_t, rd_c, ok_t, ok_c, put_some, put_none, get_put, reduceIte, Nat.reduceEqDiff, AV.bool.injEq, Option.some.injEq, exists_eq_left', Option.map_some, Option.bind_some, opds_nil, opds_cons, opd_t, opd_c, aBin, aInt, decide_true, decide_false, negIf, wp1_nilCheck', wp1_fieldAddr', wp1_slice, op_slice, opdo_some, opdo_none, wp1_lit, op_lit, parts_nil, parts_cons, wp1_build, op_build, wp1_box, op_box, wpl_nil', wpl_none, wpl_some, logK_apply, logQ_apply, guardL_tt, guardL_ff, guardL_tf, guardL_ft, drawQ_apply, row_agg, if_pos y1, aFieldAddr, Nat.zero_add, Nat.add_zero, aLoad, at_new, ldCells, List.drop_zero, List.drop_succ_cons, List.head?_cons, wc_eq (new_bad h2 h4 _), aExtract, ex0, ex1, eq_fault, Bool.not_false, Bool.not_true, aPick, y2, wc_eq (awake_spec _)]
  exact ⟨draw_of_cls rfl, [.bool true], by simp only [Env.results, Option.map_some, get_put, reduceIte, Nat.reduceEqDiff], _, rfl⟩

theorem chunk_good {w : Nat} (hw : w = 2 ∨ w = 4) {bv atv : AV} {b : List UInt8} {l : List Int} {asks : Int} (hbv : ∀ h, Bytes h bv b) (hl : IntsV atv l) (hsm : b.length ≤ 16777216) :
    WC env 3 [.agg [.int .i64 w, bv, atv, .int .u64 asks]] .empty (fun o => ∃ h', o = .ret ⟨.bool true, h', .write⟩) := by
  obtain ⟨h1, eh1⟩ : ∃ h, h = Heap.empty.new [.int .i64 w, bv, atv, .int .u64 asks] := ⟨_, rfl⟩
  have ho1 : HeapOk h1 := by rw [eh1]; exact HeapOk.empty.new _
  have hat1 : h1.at_ Heap.empty.next 0 = some [.int .i64 w, bv, atv, .int .u64 asks] := by rw [eh1]; exact at_new _
  have y1 : [AV.int .i64 w, bv, atv, .int .u64 asks].length = 4 := rfl
  have w2 := new_spec hw h1
  have ho2 := ho1.new ((Rs.mk w 0 0 0 0 false).cells .nils)
  have kr : Rd (h1.new ((Rs.mk w 0 0 0 0 false).cells .nils)) h1.next ⟨w, 0, 0, 0, 0, false⟩ [] .nils := ⟨at_new _, .nils, by simp [AV.own], rfl⟩
  have hnx : (h1.new ((Rs.mk w 0 0 0 0 false).cells .nils)).next = h1.next + 1 := rfl
  obtain ⟨h2, eh2⟩ : ∃ h, h = h1.new ((Rs.mk w 0 0 0 0 false).cells .nils) := ⟨_, rfl⟩
  rw [← eh2] at w2 ho2 kr hnx
  obtain ⟨id, hid⟩ : ∃ id, id = h1.next := ⟨_, rfl⟩
  rw [← hid] at w2 kr hnx
  have e4 := (hbv h2).lenOp
  have z0 : ((b.length : Int) > 16777216) = False := eq_false (by omega)
  have yp : aEq .ptr (.ptr id 0 0) .nilp = some false := rfl
  obtain ⟨o, ev, h3, ho3, hl3, hr⟩ := rsplit_spec hw ho2 (hbv h2) (by omega)
  have kr3 : Rd h3 id ⟨w, 0, 0, 0, 0, false⟩ [] .nils := kr.chg (S := fun i => False) hl3.chg (fun e => e) fun i _ e => e
  have i3 : id < h3.next := ho3.lt kr3.hat
  have gt0 : Gt h3 .nils [] [] h3.next .nils := ⟨⟨.nils, .nil, (fun i e => by cases e), (fun x hx => by cases hx)⟩, (fun i e => by cases e), (fun i e => by cases e)⟩
  have ok0 : (⟨w, 0, 0, 0, 0, false⟩ : Rs).ok [] := ⟨Nat.le_refl _, Nat.le_refl _, by simp⟩
  have fin : ∀ {σ : Slots} {h : Heap}, σ.get 2 = .bool true → ∃ vs, env.results ⟨σ, h⟩ [.tmp 2] = some vs ∧ ∃ h', COut.ret ⟨oneOrTup vs, h, .write⟩ = .ret ⟨.bool true, h', .write⟩ := by
    intro σ h g2
    exact ⟨[.bool true], by simp only [Env.results, Option.map_some, g2], h, rfl⟩
  obtain ⟨wv, nv, ev2, rfl, hcase⟩ : ∃ wv nv ev2, o = .ret ⟨.tup [wv, nv, ev2], h3, .write⟩ ∧ (((splitF w (b.length + 1) b 0 []).2.2 = true ∧ ev2 = linkV [102, 114, 97, 109, 101] (splitF w (b.length + 1) b 0 []).2.1 120) ∨
      ((splitF w (b.length + 1) b 0 []).2.2 = false ∧ ev2 = .nils ∧ nv = .int .i64 (splitF w (b.length + 1) b 0 []).2.1 ∧ ∃ cells, Lists h3 wv cells (splitF w (b.length + 1) b 0 []).1 h2.next)) := by
    by_cases c : (splitF w (b.length + 1) b 0 []).2.2 = true
    · rw [if_pos c] at hr
      exact ⟨_, _, _, hr, .inl ⟨c, rfl⟩⟩
    · rw [if_neg c] at hr
      obtain ⟨lv, cells, hL, rfl⟩ := hr
      exact ⟨_, _, _, rfl, .inr ⟨by simpa using c, rfl, rfl, cells, hL⟩⟩
  have w3 : WC env 8 [.int .i64 w, bv] h2 (fun o => o = _) := ⟨_, ev, rfl⟩
  refine call_body rfl rfl (.inl rfl) ?_
  simp only [a3, a3_0, a3_1, a3_2, a3_3, a3_5, a3_7, a3_9, a3_10, a3_11, a3_12, a3_13, Slots.ofList, wpc_skip, wpc_ops, wpc_draw, wpc_seq, wpc_cond, wpc_block, wpc_loop, wpc_exit, wpc_scope, wpc_ret, seqQ_norm, seqQ_ret, seqQ_exit, blockQ'_norm, blockQ'_ret, blockQ'_exit, roundQ_norm, roundQ_ret, roundQ_exit, condK_true, condK_false, wpo_nil', wpo_none, wpo_some, opsK_apply, guardK_tt, guardK_ff, guardK_tf, guardK_ft, wp1_call, callK_ret, wp1_mv', wp1_bin', wp1_un', wp1_eq', wp1_extract', wp1_pick', wp1_len', wp1_load', wp1_conv', wp1_store', wp1_idxAddr', wp1_append', wp1_mkIface', wp1_alloc', rd_t, rd_c, ok_t, ok_c, put_some, put_none, get_put, reduceIte, Nat.reduceEqDiff, AV.bool.injEq, Option.some.injEq, exists_eq_left', Option.map_some, Option.bind_some, opds_nil, opds_cons, opd_t, opd_c, aBin, aInt, decide_true, decide_false, negIf, wp1_nilCheck', wp1_fieldAddr', wp1_slice, op_slice, opdo_some, opdo_none, wp1_lit, op_lit, parts_nil, parts_cons, wp1_build, op_build, wp1_box, op_box, wpl_nil', wpl_none, wpl_some, logK_apply, logQ_apply, guardL_tt, guardL_ff, guardL_tf, guardL_ft, drawQ_apply, row_agg, if_pos y1, ← eh1, aFieldAddr, Nat.zero_add, Nat.add_zero, aLoad, hat1, ldCells, List.drop_zero, List.drop_succ_cons, List.head?_cons, wc_eq w2, aExtract, ex0, ex1, ex20, ex21, ex22, eq_nil, Bool.not_false, Bool.not_true, aPick, yp, wc_eq (awake_spec _), aUn, e4, z0, wc_eq w3]
  refine ⟨draw_of_cls rfl, ?_⟩
  refine chunk_outer (asks := asks) hw hbv hl hsm (id := id) (b0 := h3.next) i3 201 0 0 ⟨w, 0, 0, 0, 0, false⟩ [] [] .nils .nils [] h3 _ (by omega) (by omega) (Nat.zero_le _) ho3 (Nat.le_refl _) kr3 rfl ok0 (Nat.le_refl _) inv_start gt0 (fun e => absurd ⟨Nat.zero_le _, by omega⟩ e) ?_ ?_ ?_ ?_ ?_ ?_ ?_ ?_ fun σ' h' s bs got hv lv cells a1 a2 a3 a4 a5 a6 a7 a8 a9 a10 a11 a12 => ?_
  · simp only [get_put, reduceIte, Nat.reduceEqDiff]
  · simp only [get_put, reduceIte, Nat.reduceEqDiff]
  · simp only [get_put, reduceIte, Nat.reduceEqDiff]
  · simp only [get_put, reduceIte, Nat.reduceEqDiff]
  · simp only [get_put, reduceIte, Nat.reduceEqDiff]
  · simp only [get_put, reduceIte, Nat.reduceEqDiff]
  · simp only [get_put, reduceIte, Nat.reduceEqDiff]; rfl
  · simp only [get_put, reduceIte, Nat.reduceEqDiff]; rfl
  obtain ⟨q1, q2⟩ := inv_end hw a3 a6 a8
  simp only [blockQ'_exit, reduceIte, seqQ_norm]
  rw [q1] at hcase
  rcases hcase with ⟨c1, rfl⟩ | ⟨c1, rfl, rfl, cells2, hL⟩
  · dsimp only at c1
    rw [c1] at q1 a10
    refine chunk_end_bad hw hbv hsm a1 a2 a5 a7 q1 ?_ ?_ ?_ ?_ a9 a10 fun σ2 h2' g2 => fin g2
    · rw [a12 3 (by omega)]; simp only [get_put, reduceIte, Nat.reduceEqDiff]
    · rw [a12 4 (by omega)]; simp only [get_put, reduceIte, Nat.reduceEqDiff]
    · rw [a12 7 (by omega)]; simp only [get_put, reduceIte, Nat.reduceEqDiff]
    · rw [a12 11 (by omega)]; simp only [get_put, reduceIte, Nat.reduceEqDiff]
  · dsimp only at c1 hL
    rw [c1] at a10
    have hnx2 : h2.next ≤ h3.next := hl3.1
    have hL' : Lists h' wv cells2 got h2.next := hL.chg3 a11 fun i e => by
      rcases e with rfl | e
      · exact ⟨fun e => by have := (hL.new _ e).1; omega, fun x hx e => by have := hL.low x hx _ e; omega⟩
      · exact ⟨fun e2 => by have := hL.grown.ownLt ho3 e2; omega, fun x hx e2 => by have := hL.all.ownLt ho3 x hx i e2; omega⟩
    refine chunk_end_good hw hbv hsm a1 a2 a5 a4 a7 hL'.lb (q2 c1) ?_ ?_ ?_ ?_ ?_ a9 a10 fun σ2 h2' g2 => fin g2
    · rw [a12 4 (by omega)]; simp only [get_put, reduceIte, Nat.reduceEqDiff]
    · rw [a12 7 (by omega)]; simp only [get_put, reduceIte, Nat.reduceEqDiff]
    · rw [a12 9 (by omega)]; simp only [get_put, reduceIte, Nat.reduceEqDiff]
    · rw [a12 10 (by omega)]; simp only [get_put, reduceIte, Nat.reduceEqDiff]
    · rw [a12 11 (by omega)]; simp only [get_put, reduceIte, Nat.reduceEqDiff]

theorem chunk_long {w : Nat} (hw : w = 2 ∨ w = 4) {bv atv : AV} {b : List UInt8} {asks : Int} (hbv : ∀ h, Bytes h bv b) (har : atv.row = some [atv]) (hlong : 16777216 < b.length) :
    WC env 3 [.agg [.int .i64 w, bv, atv, .int .u64 asks]] .empty (fun o => ∃ h', o = .ret ⟨.bool true, h', .write⟩) := by
  have y1 : [AV.int .i64 w, bv, atv, .int .u64 asks].length = 4 := rfl
  obtain ⟨h1, eh1⟩ : ∃ h, h = Heap.empty.new [.int .i64 w, bv, atv, .int .u64 asks] := ⟨_, rfl⟩
  have hat1 : h1.at_ Heap.empty.next 0 = some [.int .i64 w, bv, atv, .int .u64 asks] := by rw [eh1]; exact at_new _
  have w2 := new_spec hw h1
  have e4 := (hbv (h1.new ((Rs.mk w 0 0 0 0 false).cells .nils))).lenOp
  have z0 : ((b.length : Int) > 16777216) = True := eq_true (by omega)
  have yp : aEq .ptr (.ptr h1.next 0 0) .nilp = some false := rfl
  refine call_body rfl rfl (.inl rfl) ?_
  simp only [a3, a3_0, a3_1, a3_2, a3_3, a3_5, a3_7, a3_8, Slots.ofList, wpc_skip, wpc_ops, wpc_draw, wpc_seq, wpc_cond, wpc_block, wpc_loop, wpc_exit, wpc_scope, wpc_ret, seqQ_norm, seqQ_ret, seqQ_exit, blockQ'_norm, blockQ'_ret, blockQ'_exit, roundQ_norm, roundQ_ret, roundQ_exit, condK_true, condK_false, wpo_nil', wpo_none, wpo_some, opsK_apply, guardK_tt, guardK_ff, guardK_tf, guardK_ft, wp1_call, callK_ret, wp1_mv', wp1_bin', wp1_un', wp1_eq', wp1_extract', wp1_pick', wp1_len', wp1_load', wp1_conv', wp1_store', wp1_idxAddr', wp1_append', wp1_mkIface', wp1_alloc', rd_t, rd_c, ok_t, ok_c, put_some, put_none, get_put, reduceIte, Nat.reduceEqDiff, AV.bool.injEq, Option.some.injEq, exists_eq_left', Option.map_some, Option.bind_some, opds_nil, opds_cons, opd_t, opd_c, aBin, aInt, decide_true, decide_false, negIf, wp1_nilCheck', wp1_fieldAddr', wp1_slice, op_slice, opdo_some, opdo_none, wp1_lit, op_lit, parts_nil, parts_cons, wp1_build, op_build, wp1_box, op_box, wpl_nil', wpl_none, wpl_some, logK_apply, logQ_apply, guardL_tt, guardL_ff, guardL_tf, guardL_ft, drawQ_apply, row_agg, if_pos y1, ← eh1, aFieldAddr, Nat.zero_add, Nat.add_zero, aLoad, hat1, ldCells, List.drop_zero, List.drop_succ_cons, List.head?_cons, wc_eq w2, aExtract, ex0, ex1, eq_nil, Bool.not_false, Bool.not_true, aPick, yp, wc_eq (awake_spec _), aUn, e4, z0]
  exact ⟨draw_of_cls rfl, [.bool true], by simp only [Env.results, Option.map_some, get_put, reduceIte, Nat.reduceEqDiff], _, rfl⟩

theorem chunk_spec {w : Int} {bv atv : AV} {b : List UInt8} {l : List Int} {asks : Int} (hbv : ∀ h, Bytes h bv b) (hl : IntsV atv l) :
    WC env 3 [.agg [.int .i64 w, bv, atv, .int .u64 asks]] .empty (fun o => ∃ h', o = .ret ⟨.bool true, h', .write⟩) := by
  have har : atv.row = some [atv] := by rcases hl with ⟨rfl, _⟩ | ⟨f, rfl⟩ <;> rfl
  by_cases hsm : b.length ≤ 16777216
  · by_cases h2 : w = 2
    · subst h2; exact chunk_good (w := 2) (.inl rfl) hbv hl hsm
    by_cases h4 : w = 4
    · subst h4; exact chunk_good (w := 4) (.inr rfl) hbv hl hsm
    exact chunk_bad h2 h4 (hbv .empty).row har
  · by_cases h2 : w = 2
    · subst h2; exact chunk_long (w := 2) (.inl rfl) hbv har (by omega)
    by_cases h4 : w = 4
    · subst h4; exact chunk_long (w := 4) (.inr rfl) hbv har (by omega)
    exact chunk_bad h2 h4 (hbv .empty).row har
end Go.Fr
