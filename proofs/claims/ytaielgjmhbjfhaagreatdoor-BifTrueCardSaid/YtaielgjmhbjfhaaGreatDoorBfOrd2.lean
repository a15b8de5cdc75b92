/-
  The order of two terms: lists; the walk kind by kind (written by tools/bford.py).
-/
import Derived.Test.YtaielgjmhbjfhaaGreatDoorBfOrd
set_option linter.unusedVariables false
set_option linter.unusedSimpArgs false
set_option maxRecDepth 20000
namespace Go.Bf
open Go.AM

theorem fill3 (x y z : Int) : aFill [.int .i64 0, .int .i64 0, .int .i64 0] [(0, 1, .int .i64 x), (1, 1, .int .i64 y), (2, 1, .int .i64 z)] = some [.int .i64 x, .int .i64 y, .int .i64 z] := rfl
theorem len3 (x y z : AV) : ([x, y, z] : List AV).length = 3 := rfl
theorem fill2 (x y : Int) : aFill [.int .i64 0, .int .i64 0] [(0, 1, .int .i64 x), (1, 1, .int .i64 y)] = some [.int .i64 x, .int .i64 y] := rfl
theorem len2 (x y : AV) : ([x, y] : List AV).length = 2 := rfl
theorem left_one {nv av : AV} (hn : SN nv) (ha : SN av) (b : Bool) (k i : Int) (s : List UInt8) (c : Int) : ran a128 [.fs b 1 [.int .i64 k, .int .i64 i, .str s, .int .u32 c, nv, av]] = some (.agg [.int .i64 k, .int .i64 i, .str s, .int .u32 c, nv, av]) := by
  cases hn <;> cases ha <;> kernel_rfl
theorem left_many (b : Bool) (n : Nat) (cs : List AV) : ran a128 [.fs b (n + 2) cs] = some (.agg [.int .i64 7, .int .i64 0, .str [], .int .u32 0, .nils, .fs b (n + 2) cs]) := by kernel_rfl
/-- what is left of a list, as a term -/
theorem left_spec {v : AV} {l : List Tm} (k : Sl v l) (hl : l ≠ []) (h : Heap) : ∃ t : Tm, WC env 128 [v] h (fun o => o = .ret ⟨.agg (tc t), h, .none⟩) ∧ ((∃ a, l = [a] ∧ t = a) ∨ (2 ≤ l.length ∧ ∃ b, t = .mk 7 0 [] 0 none [] (some b) l)) := by
  have hr : AV.noRefs [v] = true := by simp only [AV.noRefs, k.noRef, Bool.and_self]
  cases k with
  | nil => exact absurd rfl hl
  | fs b l =>
    match l, hl with
    | [a], _ =>
      refine ⟨a, ?_, .inl ⟨a, rfl, rfl⟩⟩
      refine pure_run (n := 29) rfl rfl rfl hr (noRef_agg a) ?_
      cases a with
      | mk k i s c nf ns af ar =>
        exact left_one (slF nf ns.length (u32s ns)).any (slF af ar.length (tcs ar)).any b k i s c
    | a :: a' :: l, _ =>
      refine ⟨.mk 7 0 [] 0 none [] (some b) (a :: a' :: l), ?_, .inr ⟨by simp, b, rfl⟩⟩
      refine pure_run (n := 29) rfl rfl rfl hr (noRef_agg _) ?_
      exact left_many b l.length (tcs (a :: a' :: l))

theorem lists_loop {h : Heap} {Q : AExit → St → Prop} : ∀ (l m : List Tm) (σ : Slots), l ≠ [] → m ≠ [] → (∀ t, t ∈ l → OrdOk t) → Oks m → Wfs m → Sl (σ.get 0) l → Sl (σ.get 1) m →
    (∀ σ', (∀ x, σ'.get 4 = .int .i64 x → x = ordL l m → Q .ret ⟨σ', h⟩) ∧ (∀ l' m', (∀ t, t ∈ l' → t ∈ l) → (∀ t, t ∈ m' → t ∈ m) → (lastNot7 l' = lastNot7 l) → (lastNot7 m' = lastNot7 m) → l' ≠ [] → m' ≠ [] → (l'.length = 1 ∨ m'.length = 1) → ordL l m = ordL l' m' → Sl (σ'.get 0) l' → Sl (σ'.get 1) m' → Q (.exit 0) ⟨σ', h⟩)) →
    WPr env a96_l6 ⟨σ, h⟩ Q := by
  intro l
  induction l with
  | nil => intro m σ h1; exact absurd rfl h1
  | cons a l ih =>
    intro m σ _ hm hP okm wfm k0 k1 hQ
    cases m with
    | nil => exact absurd rfl hm
    | cons b m =>
      refine wpr_round' fun bb hbb => ?_
      obtain ⟨v0, g0⟩ : ∃ v, σ.get 0 = v := ⟨_, rfl⟩
      obtain ⟨v1, g1⟩ : ∃ v, σ.get 1 = v := ⟨_, rfl⟩
      rw [g0] at k0
      rw [g1] at k1
      have n0 := k0.len
      have n1 := k1.len
      rw [List.length_cons] at n0 n1
      by_cases c0 : l.length = 0
      · have z0 : (((l.length + 1 : Nat) : Int) > 1) = False := eq_false (by omega)
        simp only [a96_l6, a96_1, wpo_u, wpc_skip, wpc_ops, wpc_draw, wpc_seq, wpc_cond, wpc_block, wpc_loop, wpc_exit, wpc_scope, wpc_ret, seqQ_norm, seqQ_ret, seqQ_exit, blockQ'_norm, blockQ'_ret, blockQ'_exit, roundQ_norm, roundQ_ret, roundQ_exit, condK_true, condK_false, wpo_nil', wpo_none, wpo_tt, wpo_ff, wpo_tf, wpo_ft, opsK_c, isC_none, isC_read, isC_write, wp1_call, callK_ret, wp1_mv', wp1_bin', wp1_un', wp1_eq', wp1_extract', wp1_pick', wp1_len', wp1_load', wp1_conv', wp1_store', wp1_idxAddr', wp1_append', wp1_mkIface', wp1_alloc', rd_t, rd_c, ok_t, ok_c, put_some, put_none, get_put, reduceIte, Nat.reduceEqDiff, AV.bool.injEq, Option.some.injEq, exists_eq_left', Option.map_some, Option.bind_some, opds_nil, opds_cons, opd_t, opd_c, aBin, aInt, decide_true, decide_false, negIf, wp1_nilCheck', wp1_fieldAddr', wp1_slice, op_slice, opdo_some, opdo_none, wp1_lit, op_lit, parts_nil, parts_cons, wp1_build, op_build, wp1_box, op_box, g0, g1, n0, n1, z0, aPick]
        refine (hQ _).2 (a :: l) (b :: m) (fun _ x => x) (fun _ x => x) rfl rfl (by simp) (by simp) (.inl (by rw [List.length_cons, c0])) rfl ?_ ?_
        · simp only [get_put, reduceIte, Nat.reduceEqDiff, g0]; exact k0
        · simp only [get_put, reduceIte, Nat.reduceEqDiff, g1]; exact k1
      have z0 : (((l.length + 1 : Nat) : Int) > 1) = True := eq_true (by omega)
      by_cases c1 : m.length = 0
      · have z1 : (((m.length + 1 : Nat) : Int) > 1) = False := eq_false (by omega)
        simp only [a96_l6, a96_1, wpo_u, wpc_skip, wpc_ops, wpc_draw, wpc_seq, wpc_cond, wpc_block, wpc_loop, wpc_exit, wpc_scope, wpc_ret, seqQ_norm, seqQ_ret, seqQ_exit, blockQ'_norm, blockQ'_ret, blockQ'_exit, roundQ_norm, roundQ_ret, roundQ_exit, condK_true, condK_false, wpo_nil', wpo_none, wpo_tt, wpo_ff, wpo_tf, wpo_ft, opsK_c, isC_none, isC_read, isC_write, wp1_call, callK_ret, wp1_mv', wp1_bin', wp1_un', wp1_eq', wp1_extract', wp1_pick', wp1_len', wp1_load', wp1_conv', wp1_store', wp1_idxAddr', wp1_append', wp1_mkIface', wp1_alloc', rd_t, rd_c, ok_t, ok_c, put_some, put_none, get_put, reduceIte, Nat.reduceEqDiff, AV.bool.injEq, Option.some.injEq, exists_eq_left', Option.map_some, Option.bind_some, opds_nil, opds_cons, opd_t, opd_c, aBin, aInt, decide_true, decide_false, negIf, wp1_nilCheck', wp1_fieldAddr', wp1_slice, op_slice, opdo_some, opdo_none, wp1_lit, op_lit, parts_nil, parts_cons, wp1_build, op_build, wp1_box, op_box, g0, g1, n0, n1, z0, z1, aPick]
        refine (hQ _).2 (a :: l) (b :: m) (fun _ x => x) (fun _ x => x) rfl rfl (by simp) (by simp) (.inr (by rw [List.length_cons, c1])) rfl ?_ ?_
        · simp only [get_put, reduceIte, Nat.reduceEqDiff, g0]; exact k0
        · simp only [get_put, reduceIte, Nat.reduceEqDiff, g1]; exact k1
      have z1 : (((m.length + 1 : Nat) : Int) > 1) = True := eq_true (by omega)
      have x0 : aIdxAddr 6 v0 (.int .i64 0) = some (.fp (tcs (a :: l))) := by have := k0.idx (i := 0) (by simp); simpa using this
      have x1 : aIdxAddr 6 v1 (.int .i64 0) = some (.fp (tcs (b :: m))) := by have := k1.idx (i := 0) (by simp); simpa using this
      have l0 : ∀ h, aLoad h true 6 (.fp (tcs (a :: l))) = some ⟨.agg (tc a), h, .none⟩ := fun h => by have := ld_args (l := a :: l) (i := 0) (by simp) h; simpa using this
      have l1 : ∀ h, aLoad h true 6 (.fp (tcs (b :: m))) = some ⟨.agg (tc b), h, .none⟩ := fun h => by have := ld_args (l := b :: m) (i := 0) (by simp) h; simpa using this
      have wo := hP a (by simp) b (okm.get (by simp)) (wfm.get (by simp))
      simp only [a96_l6, a96_1, wpo_u, wpc_skip, wpc_ops, wpc_seq, wpc_cond, wpc_block, wpc_loop, wpc_exit, wpc_scope, wpc_ret, seqQ_norm, seqQ_ret, seqQ_exit, blockQ'_norm, blockQ'_ret, blockQ'_exit, roundQ_norm, roundQ_ret, roundQ_exit, condK_true, condK_false, wpo_nil', wpo_none, wpo_tt, wpo_ff, wpo_tf, wpo_ft, opsK_c, isC_none, isC_read, isC_write, wp1_call, callK_ret, wp1_mv', wp1_bin', wp1_un', wp1_eq', wp1_extract', wp1_pick', wp1_len', wp1_load', wp1_conv', wp1_store', wp1_idxAddr', wp1_append', wp1_mkIface', wp1_alloc', rd_t, rd_c, ok_t, ok_c, put_some, put_none, get_put, reduceIte, Nat.reduceEqDiff, AV.bool.injEq, Option.some.injEq, exists_eq_left', Option.map_some, Option.bind_some, opds_nil, opds_cons, opd_t, opd_c, aBin, aInt, decide_true, decide_false, negIf, wp1_nilCheck', wp1_fieldAddr', wp1_slice, op_slice, opdo_some, opdo_none, wp1_lit, op_lit, parts_nil, parts_cons, wp1_build, op_build, wp1_box, op_box, g0, g1, n0, n1, z0, z1, aPick]
      refine wpc_draw_k ?_
      simp only [wpc_skip, wpc_ops, wpc_seq, wpc_cond, wpc_block, wpc_loop, wpc_exit, wpc_scope, wpc_ret, seqQ_norm, seqQ_ret, seqQ_exit, blockQ'_norm, blockQ'_ret, blockQ'_exit, roundQ_norm, roundQ_ret, roundQ_exit, condK_true, condK_false, wpo_nil', wpo_none, wpo_tt, wpo_ff, wpo_tf, wpo_ft, opsK_c, isC_none, isC_read, isC_write, wp1_call, callK_ret, wp1_mv', wp1_bin', wp1_un', wp1_eq', wp1_extract', wp1_pick', wp1_len', wp1_load', wp1_conv', wp1_store', wp1_idxAddr', wp1_append', wp1_mkIface', wp1_alloc', rd_t, rd_c, ok_t, ok_c, put_some, put_none, get_put, reduceIte, Nat.reduceEqDiff, AV.bool.injEq, Option.some.injEq, exists_eq_left', Option.map_some, Option.bind_some, opds_nil, opds_cons, opd_t, opd_c, aBin, aInt, decide_true, decide_false, negIf, wp1_nilCheck', wp1_fieldAddr', wp1_slice, op_slice, opdo_some, opdo_none, wp1_lit, op_lit, parts_nil, parts_cons, wp1_build, op_build, wp1_box, op_box, wpk_nil, wpk_none, wpk_tt, wpk_ff, wpk_tf, wpk_ft, clsK_c, logC_apply, drawC_apply, a96_2, g0, g1, x0, x1, l0, l1, wc_eq (wo _)]
      refine ⟨rfl, ?_⟩
      by_cases c3 : ordF a b = 0
      · have z3 : (ordF a b != 0) = false := by simpa using c3
        have eo : ordL (a :: l) (b :: m) = ordL l m := by
          rw [ordL, if_neg c0, if_neg c1, if_neg (by omega)]
        obtain ⟨t0, s0, q0⟩ := k0.tail
        obtain ⟨t1, s1, q1⟩ := k1.tail
        simp only [a96_3, wpc_skip, wpc_ops, wpc_seq, wpc_cond, wpc_block, wpc_loop, wpc_exit, wpc_scope, wpc_ret, seqQ_norm, seqQ_ret, seqQ_exit, blockQ'_norm, blockQ'_ret, blockQ'_exit, roundQ_norm, roundQ_ret, roundQ_exit, condK_true, condK_false, wpo_nil', wpo_none, wpo_tt, wpo_ff, wpo_tf, wpo_ft, opsK_c, isC_none, isC_read, isC_write, wp1_call, callK_ret, wp1_mv', wp1_bin', wp1_un', wp1_eq', wp1_extract', wp1_pick', wp1_len', wp1_load', wp1_conv', wp1_store', wp1_idxAddr', wp1_append', wp1_mkIface', wp1_alloc', rd_t, rd_c, ok_t, ok_c, put_some, put_none, get_put, reduceIte, Nat.reduceEqDiff, AV.bool.injEq, Option.some.injEq, exists_eq_left', Option.map_some, Option.bind_some, opds_nil, opds_cons, opd_t, opd_c, aBin, aInt, decide_true, decide_false, negIf, wp1_nilCheck', wp1_fieldAddr', wp1_slice, op_slice, opdo_some, opdo_none, wp1_lit, op_lit, parts_nil, parts_cons, wp1_build, op_build, wp1_box, op_box, z3]
        refine wpc_draw_k ?_
        simp only [wpc_skip, wpc_ops, wpc_seq, wpc_cond, wpc_block, wpc_loop, wpc_exit, wpc_scope, wpc_ret, seqQ_norm, seqQ_ret, seqQ_exit, blockQ'_norm, blockQ'_ret, blockQ'_exit, roundQ_norm, roundQ_ret, roundQ_exit, condK_true, condK_false, wpo_nil', wpo_none, wpo_tt, wpo_ff, wpo_tf, wpo_ft, opsK_c, isC_none, isC_read, isC_write, wp1_call, callK_ret, wp1_mv', wp1_bin', wp1_un', wp1_eq', wp1_extract', wp1_pick', wp1_len', wp1_load', wp1_conv', wp1_store', wp1_idxAddr', wp1_append', wp1_mkIface', wp1_alloc', rd_t, rd_c, ok_t, ok_c, put_some, put_none, get_put, reduceIte, Nat.reduceEqDiff, AV.bool.injEq, Option.some.injEq, exists_eq_left', Option.map_some, Option.bind_some, opds_nil, opds_cons, opd_t, opd_c, aBin, aInt, decide_true, decide_false, negIf, wp1_nilCheck', wp1_fieldAddr', wp1_slice, op_slice, opdo_some, opdo_none, wp1_lit, op_lit, parts_nil, parts_cons, wp1_build, op_build, wp1_box, op_box, wpk_nil, wpk_none, wpk_tt, wpk_ff, wpk_tf, wpk_ft, clsK_c, logC_apply, drawC_apply, a96_5, g0, g1, s0, s1]
        refine ⟨rfl, ?_⟩
        subst hbb
        have e7 : ∀ (x : Tm) (l : List Tm), l.length ≠ 0 → lastNot7 l = lastNot7 (x :: l) := by
          intro x l hl
          cases l with
          | nil => exact absurd rfl hl
          | cons y l => rfl
        refine ih m _ (fun e => c0 (by rw [e]; rfl)) (fun e => c1 (by rw [e]; rfl)) (fun t x => hP t (by simp [x])) okm.2 wfm.2 ?_ ?_ fun σ' => ⟨fun x g e => (hQ σ').1 x g (by rw [eo]; exact e), fun l' m' p1 p2 p3 p4 p5 p6 p7 p8 p9 p10 => (hQ σ').2 l' m' (fun t x => by simp [p1 t x]) (fun t x => by simp [p2 t x]) (by rw [p3]; exact e7 a l c0) (by rw [p4]; exact e7 b m c1) p5 p6 p7 (by rw [eo]; exact p8) p9 p10⟩
        · simp only [get_put, reduceIte, Nat.reduceEqDiff]; exact q0
        · simp only [get_put, reduceIte, Nat.reduceEqDiff]; exact q1
      · have z3 : (ordF a b != 0) = true := by simpa using c3
        simp only [a96_3, a96_4, wpc_skip, wpc_ops, wpc_seq, wpc_cond, wpc_block, wpc_loop, wpc_exit, wpc_scope, wpc_ret, seqQ_norm, seqQ_ret, seqQ_exit, blockQ'_norm, blockQ'_ret, blockQ'_exit, roundQ_norm, roundQ_ret, roundQ_exit, condK_true, condK_false, wpo_nil', wpo_none, wpo_tt, wpo_ff, wpo_tf, wpo_ft, opsK_c, isC_none, isC_read, isC_write, wp1_call, callK_ret, wp1_mv', wp1_bin', wp1_un', wp1_eq', wp1_extract', wp1_pick', wp1_len', wp1_load', wp1_conv', wp1_store', wp1_idxAddr', wp1_append', wp1_mkIface', wp1_alloc', rd_t, rd_c, ok_t, ok_c, put_some, put_none, get_put, reduceIte, Nat.reduceEqDiff, AV.bool.injEq, Option.some.injEq, exists_eq_left', Option.map_some, Option.bind_some, opds_nil, opds_cons, opd_t, opd_c, aBin, aInt, decide_true, decide_false, negIf, wp1_nilCheck', wp1_fieldAddr', wp1_slice, op_slice, opdo_some, opdo_none, wp1_lit, op_lit, parts_nil, parts_cons, wp1_build, op_build, wp1_box, op_box, z3]
        exact (hQ _).1 (ordF a b) (by simp only [get_put, reduceIte, Nat.reduceEqDiff]) (by rw [ordL, if_neg c0, if_neg c1, if_pos c3])

def KindsOk : Prop := ∀ a b : Tm, a.kind ≠ b.kind → ∀ h, WC env 53 [.agg (tc a), .agg (tc b)] h (fun o => o = .ret ⟨.int .i64 (cmpI a.kind b.kind), h, .none⟩)

theorem lists_spec (kinds : KindsOk) (f1 f2 : Option Bool) (l m : List Tm) (hl : l ≠ []) (hm : m ≠ []) (l7 : lastNot7 l = true) (m7 : lastNot7 m = true) (hP : ∀ t, t ∈ l → OrdOk t) (okm : Oks m) (wfm : Wfs m) (h : Heap) : WC env 96 [slAV f1 l.length (tcs l), slAV f2 m.length (tcs m)] h (fun o => o = .ret ⟨.int .i64 (ordL l m), h, .none⟩) := by
  refine call_pure rfl rfl rfl (by simp only [AV.noRefs, noRef_sl _ _ (noRef_tcs _), Bool.and_self]) ?_
  simp only [a96, a96_0, Slots.ofList, wpc_skip, wpc_ops, wpc_draw, wpc_seq, wpc_cond, wpc_block, wpc_loop, wpc_exit, wpc_scope, wpc_ret, seqQ_norm, seqQ_ret, seqQ_exit, blockQ'_norm, blockQ'_ret, blockQ'_exit, roundQ_norm, roundQ_ret, roundQ_exit, condK_true, condK_false, wpo_nil', wpo_none, wpo_tt, wpo_ff, wpo_tf, wpo_ft, opsK_c, isC_none, isC_read, isC_write, wp1_call, callK_ret, wp1_mv', wp1_bin', wp1_un', wp1_eq', wp1_extract', wp1_pick', wp1_len', wp1_load', wp1_conv', wp1_store', wp1_idxAddr', wp1_append', wp1_mkIface', wp1_alloc', rd_t, rd_c, ok_t, ok_c, put_some, put_none, get_put, reduceIte, Nat.reduceEqDiff, AV.bool.injEq, Option.some.injEq, exists_eq_left', Option.map_some, Option.bind_some, opds_nil, opds_cons, opd_t, opd_c, aBin, aInt, decide_true, decide_false, negIf, wp1_nilCheck', wp1_fieldAddr', wp1_slice, op_slice, opdo_some, opdo_none, wp1_lit, op_lit, parts_nil, parts_cons, wp1_build, op_build, wp1_box, op_box]
  refine lists_loop l m _ hl hm hP okm wfm ?_ ?_ fun σ' => ⟨fun x g e => ?_, fun l' m' p1 p2 p3 p4 p5 p6 p7 p8 p9 p10 => ?_⟩
  · simp only [get_put, reduceIte, Nat.reduceEqDiff]; exact sl_of _ _
  · simp only [get_put, reduceIte, Nat.reduceEqDiff]; exact sl_of _ _
  · simp only [wpc_skip, wpc_ops, wpc_draw, wpc_seq, wpc_cond, wpc_block, wpc_loop, wpc_exit, wpc_scope, wpc_ret, seqQ_norm, seqQ_ret, seqQ_exit, blockQ'_norm, blockQ'_ret, blockQ'_exit, roundQ_norm, roundQ_ret, roundQ_exit, condK_true, condK_false, wpo_nil', wpo_none, wpo_tt, wpo_ff, wpo_tf, wpo_ft, opsK_c, isC_none, isC_read, isC_write, wp1_call, callK_ret, wp1_mv', wp1_bin', wp1_un', wp1_eq', wp1_extract', wp1_pick', wp1_len', wp1_load', wp1_conv', wp1_store', wp1_idxAddr', wp1_append', wp1_mkIface', wp1_alloc', rd_t, rd_c, ok_t, ok_c, put_some, put_none, get_put, reduceIte, Nat.reduceEqDiff, AV.bool.injEq, Option.some.injEq, exists_eq_left', Option.map_some, Option.bind_some, opds_nil, opds_cons, opd_t, opd_c, aBin, aInt, decide_true, decide_false, negIf, wp1_nilCheck', wp1_fieldAddr', wp1_slice, op_slice, opdo_some, opdo_none, wp1_lit, op_lit, parts_nil, parts_cons, wp1_build, op_build, wp1_box, op_box]
    exact finI g (by rw [e])
  · obtain ⟨v0, g0⟩ : ∃ v, σ'.get 0 = v := ⟨_, rfl⟩
    obtain ⟨v1, g1⟩ : ∃ v, σ'.get 1 = v := ⟨_, rfl⟩
    rw [g0] at p9
    rw [g1] at p10
    obtain ⟨a, wa, ha⟩ := left_spec p9 p5 Heap.empty
    obtain ⟨b, wb, hb⟩ := left_spec p10 p6 Heap.empty
    have wo : WC env 53 [.agg (tc a), .agg (tc b)] Heap.empty (fun o => o = .ret ⟨.int .i64 (ordL l m), .empty, .none⟩) := by
      rw [p8]
      rcases ha with ⟨x, rfl, rfl⟩ | ⟨n0, f, rfl⟩
      · rcases hb with ⟨y, rfl, rfl⟩ | ⟨n1, g, rfl⟩
        · have : ordL [a] [b] = ordF a b := by simp [ordL]
          rw [this]
          exact hP a (p1 a (by simp)) b (okm.get (p2 b (by simp))) (wfm.get (p2 b (by simp))) _
        · have h7 : a.kind ≠ 7 := by
            rw [l7, lastNot7] at p3
            simpa using p3
          match m', n1 with
          | b :: b' :: m', n1 =>
            have : ordL [a] (b :: b' :: m') = cmpI a.kind 7 := by simp [ordL]
            rw [this]
            exact kinds a (.mk 7 0 [] 0 none [] (some g) (b :: b' :: m')) h7 _
      · rcases hb with ⟨y, rfl, rfl⟩ | ⟨n1, g, rfl⟩
        · have h7 : b.kind ≠ 7 := by
            rw [m7, lastNot7] at p4
            simpa using p4
          match l', n0 with
          | a :: a' :: l', n0 =>
            have : ordL (a :: a' :: l') [b] = cmpI 7 b.kind := by simp [ordL]
            rw [this]
            exact kinds (.mk 7 0 [] 0 none [] (some f) (a :: a' :: l')) b (fun e => h7 e.symm) _
        · omega
    simp only [a96_7, a96_8, wpc_skip, wpc_ops, wpc_draw, wpc_seq, wpc_cond, wpc_block, wpc_loop, wpc_exit, wpc_scope, wpc_ret, seqQ_norm, seqQ_ret, seqQ_exit, blockQ'_norm, blockQ'_ret, blockQ'_exit, roundQ_norm, roundQ_ret, roundQ_exit, condK_true, condK_false, wpo_nil', wpo_none, wpo_tt, wpo_ff, wpo_tf, wpo_ft, opsK_c, isC_none, isC_read, isC_write, wp1_call, callK_ret, wp1_mv', wp1_bin', wp1_un', wp1_eq', wp1_extract', wp1_pick', wp1_len', wp1_load', wp1_conv', wp1_store', wp1_idxAddr', wp1_append', wp1_mkIface', wp1_alloc', rd_t, rd_c, ok_t, ok_c, put_some, put_none, get_put, reduceIte, Nat.reduceEqDiff, AV.bool.injEq, Option.some.injEq, exists_eq_left', Option.map_some, Option.bind_some, opds_nil, opds_cons, opd_t, opd_c, aBin, aInt, decide_true, decide_false, negIf, wp1_nilCheck', wp1_fieldAddr', wp1_slice, op_slice, opdo_some, opdo_none, wp1_lit, op_lit, parts_nil, parts_cons, wp1_build, op_build, wp1_box, op_box, wp1_callv', callvK_fn, g0, g1, wc_eq wa, wc_eq wb, wc_eq wo]
    exact finI (by simp only [get_put, reduceIte, Nat.reduceEqDiff]) rfl

theorem ord_kinds : KindsOk := by
  intro a b hk h
  rcases a with ⟨k, i, s, c, nf, ns, af, ar⟩
  rcases b with ⟨k', i', s', c', nf', ns', af', ar'⟩
  have hk : k ≠ k' := hk
  refine call_pure rfl rfl rfl (by simp only [AV.noRefs, AV.noRef, noRef_tc, Bool.and_self]) ?_
  obtain ⟨ca, ea⟩ : ∃ ca, ca = tc (.mk k i s c nf ns af ar) := ⟨_, rfl⟩
  obtain ⟨cb, eb⟩ : ∃ cb, cb = tc (.mk k' i' s' c' nf' ns' af' ar') := ⟨_, rfl⟩
  rw [← ea, ← eb]
  obtain ⟨nv, env'⟩ : ∃ nv, nv = slAV nf ns.length (u32s ns) := ⟨_, rfl⟩
  obtain ⟨av, eav⟩ : ∃ av, av = slAV af ar.length (tcs ar) := ⟨_, rfl⟩
  obtain ⟨nv2, env2⟩ : ∃ nv, nv = slAV nf' ns'.length (u32s ns') := ⟨_, rfl⟩
  obtain ⟨av2, eav2⟩ : ∃ av, av = slAV af' ar'.length (tcs ar') := ⟨_, rfl⟩
  have ea' : ca = [.int .i64 k, .int .i64 i, .str s, .int .u32 c, nv, av] := by rw [ea, env', eav]; rfl
  have eb' : cb = [.int .i64 k', .int .i64 i', .str s', .int .u32 c', nv2, av2] := by rw [eb, env2, eav2]; rfl
  obtain ⟨h1, eh1⟩ : ∃ h1, h1 = Heap.empty.new ca := ⟨_, rfl⟩
  have ho1 : HeapOk h1 := by rw [eh1]; exact HeapOk.empty.new _
  have a1' : h1.at_ Heap.empty.next 0 = some ca := by rw [eh1]; exact at_new _
  obtain ⟨h2, eh2⟩ : ∃ h2, h2 = h1.new cb := ⟨_, rfl⟩
  have a2' : h2.at_ Heap.empty.next 0 = some ca := by rw [eh2]; exact (le_new ho1 _).2 _ _ _ a1'
  have b2' : h2.at_ h1.next 0 = some cb := by rw [eh2]; exact at_new _
  have y1 : (AV.agg ca).row = some ca := rfl
  have y2 : ca.length = 6 := by rw [ea']; rfl
  have y3 : (AV.agg cb).row = some cb := rfl
  have y4 : cb.length = 6 := by rw [eb']; rfl
  rw [ea'] at a2'
  rw [eb'] at b2'
  have p0 := ld60 a2'
  have p1 := ld61 a2'
  have p2 := ld62 a2'
  have p3 := ld63 a2'
  have p4 := ld64 a2'
  have p5 := ld65 a2'
  have q0 := ld60 b2'
  have q1 := ld61 b2'
  have q2 := ld62 b2'
  have q3 := ld63 b2'
  have q4 := ld64 b2'
  have q5 := ld65 b2'
  have z : (k != k') = true := by simpa using hk
  simp only [a53, a53_0, a53_1, a53_2, Slots.ofList, wpc_skip, wpc_ops, wpc_seq, wpc_cond, wpc_block, wpc_loop, wpc_exit, wpc_scope, wpc_ret, seqQ_norm, seqQ_ret, seqQ_exit, blockQ'_norm, blockQ'_ret, blockQ'_exit, roundQ_norm, roundQ_ret, roundQ_exit, condK_true, condK_false, wpo_nil', wpo_none, wpo_tt, wpo_ff, wpo_tf, wpo_ft, opsK_c, isC_none, isC_read, isC_write, wp1_call, callK_ret, wp1_mv', wp1_bin', wp1_un', wp1_eq', wp1_extract', wp1_pick', wp1_len', wp1_load', wp1_conv', wp1_store', wp1_idxAddr', wp1_append', wp1_mkIface', wp1_alloc', rd_t, rd_c, ok_t, ok_c, put_some, put_none, get_put, reduceIte, Nat.reduceEqDiff, AV.bool.injEq, Option.some.injEq, exists_eq_left', Option.map_some, Option.bind_some, opds_nil, opds_cons, opd_t, opd_c, aBin, aInt, decide_true, decide_false, negIf, wp1_nilCheck', wp1_fieldAddr', wp1_slice, op_slice, opdo_some, opdo_none, wp1_lit, op_lit, parts_nil, parts_cons, wp1_build, op_build, wp1_box, op_box, y1, y2, y3, y4, ← eh1, ← eh2, aFieldAddr, Nat.zero_add, Int.reduceBEq, Int.reduceBNe, p0, q0, z, wc_eq (cmp88 _ _ _)]
  exact finI (x := cmpI k k') (by simp only [get_put, reduceIte, Nat.reduceEqDiff]) rfl
theorem ord_k1 (i : Int) (s : List UInt8) (c : Int) (nf : Option Bool) (ns : List Int) (af : Option Bool) (ar : List Tm) (i' : Int) (s' : List UInt8) (c' : Int) (nf' : Option Bool) (ns' : List Int) (af' : Option Bool) (ar' : List Tm) (h : Heap) : WC env 53 [.agg (tc (.mk 1 i s c nf ns af ar)), .agg (tc (.mk 1 i' s' c' nf' ns' af' ar'))] h (fun o => o = .ret ⟨.int .i64 (ordF (.mk 1 i s c nf ns af ar) (.mk 1 i' s' c' nf' ns' af' ar')), h, .none⟩) := by
  refine call_pure rfl rfl rfl (by simp only [AV.noRefs, AV.noRef, noRef_tc, Bool.and_self]) ?_
  obtain ⟨ca, ea⟩ : ∃ ca, ca = tc (.mk 1 i s c nf ns af ar) := ⟨_, rfl⟩
  obtain ⟨cb, eb⟩ : ∃ cb, cb = tc (.mk 1 i' s' c' nf' ns' af' ar') := ⟨_, rfl⟩
  rw [← ea, ← eb]
  obtain ⟨nv, env'⟩ : ∃ nv, nv = slAV nf ns.length (u32s ns) := ⟨_, rfl⟩
  obtain ⟨av, eav⟩ : ∃ av, av = slAV af ar.length (tcs ar) := ⟨_, rfl⟩
  obtain ⟨nv2, env2⟩ : ∃ nv, nv = slAV nf' ns'.length (u32s ns') := ⟨_, rfl⟩
  obtain ⟨av2, eav2⟩ : ∃ av, av = slAV af' ar'.length (tcs ar') := ⟨_, rfl⟩
  have ea' : ca = [.int .i64 1, .int .i64 i, .str s, .int .u32 c, nv, av] := by rw [ea, env', eav]; rfl
  have eb' : cb = [.int .i64 1, .int .i64 i', .str s', .int .u32 c', nv2, av2] := by rw [eb, env2, eav2]; rfl
  obtain ⟨h1, eh1⟩ : ∃ h1, h1 = Heap.empty.new ca := ⟨_, rfl⟩
  have ho1 : HeapOk h1 := by rw [eh1]; exact HeapOk.empty.new _
  have a1' : h1.at_ Heap.empty.next 0 = some ca := by rw [eh1]; exact at_new _
  obtain ⟨h2, eh2⟩ : ∃ h2, h2 = h1.new cb := ⟨_, rfl⟩
  have a2' : h2.at_ Heap.empty.next 0 = some ca := by rw [eh2]; exact (le_new ho1 _).2 _ _ _ a1'
  have b2' : h2.at_ h1.next 0 = some cb := by rw [eh2]; exact at_new _
  have y1 : (AV.agg ca).row = some ca := rfl
  have y2 : ca.length = 6 := by rw [ea']; rfl
  have y3 : (AV.agg cb).row = some cb := rfl
  have y4 : cb.length = 6 := by rw [eb']; rfl
  rw [ea'] at a2'
  rw [eb'] at b2'
  have p0 := ld60 a2'
  have p1 := ld61 a2'
  have p2 := ld62 a2'
  have p3 := ld63 a2'
  have p4 := ld64 a2'
  have p5 := ld65 a2'
  have q0 := ld60 b2'
  have q1 := ld61 b2'
  have q2 := ld62 b2'
  have q3 := ld63 b2'
  have q4 := ld64 b2'
  have q5 := ld65 b2'
  have e : ordF (.mk 1 i s c nf ns af ar) (.mk 1 i' s' c' nf' ns' af' ar') = cmpI i i' := by simp [ordF]
  simp only [a53, a53_0, a53_1, a53_3, a53_4, Slots.ofList, wpc_skip, wpc_ops, wpc_seq, wpc_cond, wpc_block, wpc_loop, wpc_exit, wpc_scope, wpc_ret, seqQ_norm, seqQ_ret, seqQ_exit, blockQ'_norm, blockQ'_ret, blockQ'_exit, roundQ_norm, roundQ_ret, roundQ_exit, condK_true, condK_false, wpo_nil', wpo_none, wpo_tt, wpo_ff, wpo_tf, wpo_ft, opsK_c, isC_none, isC_read, isC_write, wp1_call, callK_ret, wp1_mv', wp1_bin', wp1_un', wp1_eq', wp1_extract', wp1_pick', wp1_len', wp1_load', wp1_conv', wp1_store', wp1_idxAddr', wp1_append', wp1_mkIface', wp1_alloc', rd_t, rd_c, ok_t, ok_c, put_some, put_none, get_put, reduceIte, Nat.reduceEqDiff, AV.bool.injEq, Option.some.injEq, exists_eq_left', Option.map_some, Option.bind_some, opds_nil, opds_cons, opd_t, opd_c, aBin, aInt, decide_true, decide_false, negIf, wp1_nilCheck', wp1_fieldAddr', wp1_slice, op_slice, opdo_some, opdo_none, wp1_lit, op_lit, parts_nil, parts_cons, wp1_build, op_build, wp1_box, op_box, y1, y2, y3, y4, ← eh1, ← eh2, aFieldAddr, Nat.zero_add, Int.reduceBEq, Int.reduceBNe, p0, q0, a53_10, p1, q1, wc_eq (cmp89 _ _ _)]
  exact finI (by simp only [get_put, reduceIte, Nat.reduceEqDiff]; rw [e]) rfl
theorem ord_k2 (i : Int) (s : List UInt8) (c : Int) (nf : Option Bool) (ns : List Int) (af : Option Bool) (ar : List Tm) (i' : Int) (s' : List UInt8) (c' : Int) (nf' : Option Bool) (ns' : List Int) (af' : Option Bool) (ar' : List Tm) (h : Heap) : WC env 53 [.agg (tc (.mk 2 i s c nf ns af ar)), .agg (tc (.mk 2 i' s' c' nf' ns' af' ar'))] h (fun o => o = .ret ⟨.int .i64 (ordF (.mk 2 i s c nf ns af ar) (.mk 2 i' s' c' nf' ns' af' ar')), h, .none⟩) := by
  refine call_pure rfl rfl rfl (by simp only [AV.noRefs, AV.noRef, noRef_tc, Bool.and_self]) ?_
  obtain ⟨ca, ea⟩ : ∃ ca, ca = tc (.mk 2 i s c nf ns af ar) := ⟨_, rfl⟩
  obtain ⟨cb, eb⟩ : ∃ cb, cb = tc (.mk 2 i' s' c' nf' ns' af' ar') := ⟨_, rfl⟩
  rw [← ea, ← eb]
  obtain ⟨nv, env'⟩ : ∃ nv, nv = slAV nf ns.length (u32s ns) := ⟨_, rfl⟩
  obtain ⟨av, eav⟩ : ∃ av, av = slAV af ar.length (tcs ar) := ⟨_, rfl⟩
  obtain ⟨nv2, env2⟩ : ∃ nv, nv = slAV nf' ns'.length (u32s ns') := ⟨_, rfl⟩
  obtain ⟨av2, eav2⟩ : ∃ av, av = slAV af' ar'.length (tcs ar') := ⟨_, rfl⟩
  have ea' : ca = [.int .i64 2, .int .i64 i, .str s, .int .u32 c, nv, av] := by rw [ea, env', eav]; rfl
  have eb' : cb = [.int .i64 2, .int .i64 i', .str s', .int .u32 c', nv2, av2] := by rw [eb, env2, eav2]; rfl
  obtain ⟨h1, eh1⟩ : ∃ h1, h1 = Heap.empty.new ca := ⟨_, rfl⟩
  have ho1 : HeapOk h1 := by rw [eh1]; exact HeapOk.empty.new _
  have a1' : h1.at_ Heap.empty.next 0 = some ca := by rw [eh1]; exact at_new _
  obtain ⟨h2, eh2⟩ : ∃ h2, h2 = h1.new cb := ⟨_, rfl⟩
  have a2' : h2.at_ Heap.empty.next 0 = some ca := by rw [eh2]; exact (le_new ho1 _).2 _ _ _ a1'
  have b2' : h2.at_ h1.next 0 = some cb := by rw [eh2]; exact at_new _
  have y1 : (AV.agg ca).row = some ca := rfl
  have y2 : ca.length = 6 := by rw [ea']; rfl
  have y3 : (AV.agg cb).row = some cb := rfl
  have y4 : cb.length = 6 := by rw [eb']; rfl
  rw [ea'] at a2'
  rw [eb'] at b2'
  have p0 := ld60 a2'
  have p1 := ld61 a2'
  have p2 := ld62 a2'
  have p3 := ld63 a2'
  have p4 := ld64 a2'
  have p5 := ld65 a2'
  have q0 := ld60 b2'
  have q1 := ld61 b2'
  have q2 := ld62 b2'
  have q3 := ld63 b2'
  have q4 := ld64 b2'
  have q5 := ld65 b2'
  have e : ordF (.mk 2 i s c nf ns af ar) (.mk 2 i' s' c' nf' ns' af' ar') = cmpS s s' := by simp [ordF]
  simp only [a53, a53_0, a53_1, a53_3, a53_4, a53_5, Slots.ofList, wpc_skip, wpc_ops, wpc_seq, wpc_cond, wpc_block, wpc_loop, wpc_exit, wpc_scope, wpc_ret, seqQ_norm, seqQ_ret, seqQ_exit, blockQ'_norm, blockQ'_ret, blockQ'_exit, roundQ_norm, roundQ_ret, roundQ_exit, condK_true, condK_false, wpo_nil', wpo_none, wpo_tt, wpo_ff, wpo_tf, wpo_ft, opsK_c, isC_none, isC_read, isC_write, wp1_call, callK_ret, wp1_mv', wp1_bin', wp1_un', wp1_eq', wp1_extract', wp1_pick', wp1_len', wp1_load', wp1_conv', wp1_store', wp1_idxAddr', wp1_append', wp1_mkIface', wp1_alloc', rd_t, rd_c, ok_t, ok_c, put_some, put_none, get_put, reduceIte, Nat.reduceEqDiff, AV.bool.injEq, Option.some.injEq, exists_eq_left', Option.map_some, Option.bind_some, opds_nil, opds_cons, opd_t, opd_c, aBin, aInt, decide_true, decide_false, negIf, wp1_nilCheck', wp1_fieldAddr', wp1_slice, op_slice, opdo_some, opdo_none, wp1_lit, op_lit, parts_nil, parts_cons, wp1_build, op_build, wp1_box, op_box, y1, y2, y3, y4, ← eh1, ← eh2, aFieldAddr, Nat.zero_add, Int.reduceBEq, Int.reduceBNe, p0, q0, a53_11, p2, q2, wc_eq (cmp90 _ _ _)]
  exact finI (by simp only [get_put, reduceIte, Nat.reduceEqDiff]; rw [e]) rfl
theorem ord_k3 (i : Int) (s : List UInt8) (c : Int) (nf : Option Bool) (ns : List Int) (af : Option Bool) (ar : List Tm) (i' : Int) (s' : List UInt8) (c' : Int) (nf' : Option Bool) (ns' : List Int) (af' : Option Bool) (ar' : List Tm) (hl : ns.length < 9223372036854775808) (hm : ns'.length < 9223372036854775808) (h : Heap) : WC env 53 [.agg (tc (.mk 3 i s c nf ns af ar)), .agg (tc (.mk 3 i' s' c' nf' ns' af' ar'))] h (fun o => o = .ret ⟨.int .i64 (ordF (.mk 3 i s c nf ns af ar) (.mk 3 i' s' c' nf' ns' af' ar')), h, .none⟩) := by
  refine call_pure rfl rfl rfl (by simp only [AV.noRefs, AV.noRef, noRef_tc, Bool.and_self]) ?_
  obtain ⟨ca, ea⟩ : ∃ ca, ca = tc (.mk 3 i s c nf ns af ar) := ⟨_, rfl⟩
  obtain ⟨cb, eb⟩ : ∃ cb, cb = tc (.mk 3 i' s' c' nf' ns' af' ar') := ⟨_, rfl⟩
  rw [← ea, ← eb]
  obtain ⟨nv, env'⟩ : ∃ nv, nv = slAV nf ns.length (u32s ns) := ⟨_, rfl⟩
  obtain ⟨av, eav⟩ : ∃ av, av = slAV af ar.length (tcs ar) := ⟨_, rfl⟩
  obtain ⟨nv2, env2⟩ : ∃ nv, nv = slAV nf' ns'.length (u32s ns') := ⟨_, rfl⟩
  obtain ⟨av2, eav2⟩ : ∃ av, av = slAV af' ar'.length (tcs ar') := ⟨_, rfl⟩
  have ea' : ca = [.int .i64 3, .int .i64 i, .str s, .int .u32 c, nv, av] := by rw [ea, env', eav]; rfl
  have eb' : cb = [.int .i64 3, .int .i64 i', .str s', .int .u32 c', nv2, av2] := by rw [eb, env2, eav2]; rfl
  obtain ⟨h1, eh1⟩ : ∃ h1, h1 = Heap.empty.new ca := ⟨_, rfl⟩
  have ho1 : HeapOk h1 := by rw [eh1]; exact HeapOk.empty.new _
  have a1' : h1.at_ Heap.empty.next 0 = some ca := by rw [eh1]; exact at_new _
  obtain ⟨h2, eh2⟩ : ∃ h2, h2 = h1.new cb := ⟨_, rfl⟩
  have a2' : h2.at_ Heap.empty.next 0 = some ca := by rw [eh2]; exact (le_new ho1 _).2 _ _ _ a1'
  have b2' : h2.at_ h1.next 0 = some cb := by rw [eh2]; exact at_new _
  have y1 : (AV.agg ca).row = some ca := rfl
  have y2 : ca.length = 6 := by rw [ea']; rfl
  have y3 : (AV.agg cb).row = some cb := rfl
  have y4 : cb.length = 6 := by rw [eb']; rfl
  rw [ea'] at a2'
  rw [eb'] at b2'
  have p0 := ld60 a2'
  have p1 := ld61 a2'
  have p2 := ld62 a2'
  have p3 := ld63 a2'
  have p4 := ld64 a2'
  have p5 := ld65 a2'
  have q0 := ld60 b2'
  have q1 := ld61 b2'
  have q2 := ld62 b2'
  have q3 := ld63 b2'
  have q4 := ld64 b2'
  have q5 := ld65 b2'
  have e : ordF (.mk 3 i s c nf ns af ar) (.mk 3 i' s' c' nf' ns' af' ar') = orI [cmpS s s', cmpI c c', cmpNs ns ns'] := by simp [ordF]
  have wn : ∀ h, WC env 93 [nv, nv2] h (fun o => o = .ret ⟨.int .i64 (cmpNs ns ns'), h, .none⟩) := fun h => by rw [env', env2]; exact nums_spec _ _ _ _ hl hm h
  simp only [a53, a53_0, a53_1, a53_3, a53_4, a53_5, a53_6, Slots.ofList, wpc_skip, wpc_ops, wpc_seq, wpc_cond, wpc_block, wpc_loop, wpc_exit, wpc_scope, wpc_ret, seqQ_norm, seqQ_ret, seqQ_exit, blockQ'_norm, blockQ'_ret, blockQ'_exit, roundQ_norm, roundQ_ret, roundQ_exit, condK_true, condK_false, wpo_nil', wpo_none, wpo_tt, wpo_ff, wpo_tf, wpo_ft, opsK_c, isC_none, isC_read, isC_write, wp1_call, callK_ret, wp1_mv', wp1_bin', wp1_un', wp1_eq', wp1_extract', wp1_pick', wp1_len', wp1_load', wp1_conv', wp1_store', wp1_idxAddr', wp1_append', wp1_mkIface', wp1_alloc', rd_t, rd_c, ok_t, ok_c, put_some, put_none, get_put, reduceIte, Nat.reduceEqDiff, AV.bool.injEq, Option.some.injEq, exists_eq_left', Option.map_some, Option.bind_some, opds_nil, opds_cons, opd_t, opd_c, aBin, aInt, decide_true, decide_false, negIf, wp1_nilCheck', wp1_fieldAddr', wp1_slice, op_slice, opdo_some, opdo_none, wp1_lit, op_lit, parts_nil, parts_cons, wp1_build, op_build, wp1_box, op_box, y1, y2, y3, y4, ← eh1, ← eh2, aFieldAddr, Nat.zero_add, Int.reduceBEq, Int.reduceBNe, p0, q0]
  refine wpc_draw_k ?_
  simp only [Slots.ofList, wpc_skip, wpc_ops, wpc_seq, wpc_cond, wpc_block, wpc_loop, wpc_exit, wpc_scope, wpc_ret, seqQ_norm, seqQ_ret, seqQ_exit, blockQ'_norm, blockQ'_ret, blockQ'_exit, roundQ_norm, roundQ_ret, roundQ_exit, condK_true, condK_false, wpo_nil', wpo_none, wpo_tt, wpo_ff, wpo_tf, wpo_ft, opsK_c, isC_none, isC_read, isC_write, wp1_call, callK_ret, wp1_mv', wp1_bin', wp1_un', wp1_eq', wp1_extract', wp1_pick', wp1_len', wp1_load', wp1_conv', wp1_store', wp1_idxAddr', wp1_append', wp1_mkIface', wp1_alloc', rd_t, rd_c, ok_t, ok_c, put_some, put_none, get_put, reduceIte, Nat.reduceEqDiff, AV.bool.injEq, Option.some.injEq, exists_eq_left', Option.map_some, Option.bind_some, opds_nil, opds_cons, opd_t, opd_c, aBin, aInt, decide_true, decide_false, negIf, wp1_nilCheck', wp1_fieldAddr', wp1_slice, op_slice, opdo_some, opdo_none, wp1_lit, op_lit, parts_nil, parts_cons, wp1_build, op_build, wp1_box, op_box, y1, y2, y3, y4, ← eh1, ← eh2, aFieldAddr, Nat.zero_add, Int.reduceBEq, Int.reduceBNe, wpk_nil, wpk_none, wpk_tt, wpk_ff, wpk_tf, wpk_ft, clsK_c, logC_apply, drawC_apply, a53_12, p2, p3, p4, q2, q3, q4, wc_eq (cmp90 _ _ _), wc_eq (cmp92 _ _ _), wc_eq (wn _), fill3, len3, Nat.reduceMul, wc_eq (or3 _ _ _ _)]
  refine ⟨rfl, ?_⟩
  exact finI (by simp only [get_put, reduceIte, Nat.reduceEqDiff]; rw [e]) rfl
theorem ord_k4 (i : Int) (s : List UInt8) (c : Int) (nf : Option Bool) (ns : List Int) (af : Option Bool) (ar : List Tm) (i' : Int) (s' : List UInt8) (c' : Int) (nf' : Option Bool) (ns' : List Int) (af' : Option Bool) (ar' : List Tm) (hl : ns.length < 9223372036854775808) (hm : ns'.length < 9223372036854775808) (h : Heap) : WC env 53 [.agg (tc (.mk 4 i s c nf ns af ar)), .agg (tc (.mk 4 i' s' c' nf' ns' af' ar'))] h (fun o => o = .ret ⟨.int .i64 (ordF (.mk 4 i s c nf ns af ar) (.mk 4 i' s' c' nf' ns' af' ar')), h, .none⟩) := by
  refine call_pure rfl rfl rfl (by simp only [AV.noRefs, AV.noRef, noRef_tc, Bool.and_self]) ?_
  obtain ⟨ca, ea⟩ : ∃ ca, ca = tc (.mk 4 i s c nf ns af ar) := ⟨_, rfl⟩
  obtain ⟨cb, eb⟩ : ∃ cb, cb = tc (.mk 4 i' s' c' nf' ns' af' ar') := ⟨_, rfl⟩
  rw [← ea, ← eb]
  obtain ⟨nv, env'⟩ : ∃ nv, nv = slAV nf ns.length (u32s ns) := ⟨_, rfl⟩
  obtain ⟨av, eav⟩ : ∃ av, av = slAV af ar.length (tcs ar) := ⟨_, rfl⟩
  obtain ⟨nv2, env2⟩ : ∃ nv, nv = slAV nf' ns'.length (u32s ns') := ⟨_, rfl⟩
  obtain ⟨av2, eav2⟩ : ∃ av, av = slAV af' ar'.length (tcs ar') := ⟨_, rfl⟩
  have ea' : ca = [.int .i64 4, .int .i64 i, .str s, .int .u32 c, nv, av] := by rw [ea, env', eav]; rfl
  have eb' : cb = [.int .i64 4, .int .i64 i', .str s', .int .u32 c', nv2, av2] := by rw [eb, env2, eav2]; rfl
  obtain ⟨h1, eh1⟩ : ∃ h1, h1 = Heap.empty.new ca := ⟨_, rfl⟩
  have ho1 : HeapOk h1 := by rw [eh1]; exact HeapOk.empty.new _
  have a1' : h1.at_ Heap.empty.next 0 = some ca := by rw [eh1]; exact at_new _
  obtain ⟨h2, eh2⟩ : ∃ h2, h2 = h1.new cb := ⟨_, rfl⟩
  have a2' : h2.at_ Heap.empty.next 0 = some ca := by rw [eh2]; exact (le_new ho1 _).2 _ _ _ a1'
  have b2' : h2.at_ h1.next 0 = some cb := by rw [eh2]; exact at_new _
  have y1 : (AV.agg ca).row = some ca := rfl
  have y2 : ca.length = 6 := by rw [ea']; rfl
  have y3 : (AV.agg cb).row = some cb := rfl
  have y4 : cb.length = 6 := by rw [eb']; rfl
  rw [ea'] at a2'
  rw [eb'] at b2'
  have p0 := ld60 a2'
  have p1 := ld61 a2'
  have p2 := ld62 a2'
  have p3 := ld63 a2'
  have p4 := ld64 a2'
  have p5 := ld65 a2'
  have q0 := ld60 b2'
  have q1 := ld61 b2'
  have q2 := ld62 b2'
  have q3 := ld63 b2'
  have q4 := ld64 b2'
  have q5 := ld65 b2'
  have e : ordF (.mk 4 i s c nf ns af ar) (.mk 4 i' s' c' nf' ns' af' ar') = orI [cmpS s s', cmpI c c', cmpNs ns ns'] := by simp [ordF]
  have wn : ∀ h, WC env 93 [nv, nv2] h (fun o => o = .ret ⟨.int .i64 (cmpNs ns ns'), h, .none⟩) := fun h => by rw [env', env2]; exact nums_spec _ _ _ _ hl hm h
  simp only [a53, a53_0, a53_1, a53_3, a53_4, a53_5, a53_6, a53_7, Slots.ofList, wpc_skip, wpc_ops, wpc_seq, wpc_cond, wpc_block, wpc_loop, wpc_exit, wpc_scope, wpc_ret, seqQ_norm, seqQ_ret, seqQ_exit, blockQ'_norm, blockQ'_ret, blockQ'_exit, roundQ_norm, roundQ_ret, roundQ_exit, condK_true, condK_false, wpo_nil', wpo_none, wpo_tt, wpo_ff, wpo_tf, wpo_ft, opsK_c, isC_none, isC_read, isC_write, wp1_call, callK_ret, wp1_mv', wp1_bin', wp1_un', wp1_eq', wp1_extract', wp1_pick', wp1_len', wp1_load', wp1_conv', wp1_store', wp1_idxAddr', wp1_append', wp1_mkIface', wp1_alloc', rd_t, rd_c, ok_t, ok_c, put_some, put_none, get_put, reduceIte, Nat.reduceEqDiff, AV.bool.injEq, Option.some.injEq, exists_eq_left', Option.map_some, Option.bind_some, opds_nil, opds_cons, opd_t, opd_c, aBin, aInt, decide_true, decide_false, negIf, wp1_nilCheck', wp1_fieldAddr', wp1_slice, op_slice, opdo_some, opdo_none, wp1_lit, op_lit, parts_nil, parts_cons, wp1_build, op_build, wp1_box, op_box, y1, y2, y3, y4, ← eh1, ← eh2, aFieldAddr, Nat.zero_add, Int.reduceBEq, Int.reduceBNe, p0, q0]
  refine wpc_draw_k ?_
  simp only [Slots.ofList, wpc_skip, wpc_ops, wpc_seq, wpc_cond, wpc_block, wpc_loop, wpc_exit, wpc_scope, wpc_ret, seqQ_norm, seqQ_ret, seqQ_exit, blockQ'_norm, blockQ'_ret, blockQ'_exit, roundQ_norm, roundQ_ret, roundQ_exit, condK_true, condK_false, wpo_nil', wpo_none, wpo_tt, wpo_ff, wpo_tf, wpo_ft, opsK_c, isC_none, isC_read, isC_write, wp1_call, callK_ret, wp1_mv', wp1_bin', wp1_un', wp1_eq', wp1_extract', wp1_pick', wp1_len', wp1_load', wp1_conv', wp1_store', wp1_idxAddr', wp1_append', wp1_mkIface', wp1_alloc', rd_t, rd_c, ok_t, ok_c, put_some, put_none, get_put, reduceIte, Nat.reduceEqDiff, AV.bool.injEq, Option.some.injEq, exists_eq_left', Option.map_some, Option.bind_some, opds_nil, opds_cons, opd_t, opd_c, aBin, aInt, decide_true, decide_false, negIf, wp1_nilCheck', wp1_fieldAddr', wp1_slice, op_slice, opdo_some, opdo_none, wp1_lit, op_lit, parts_nil, parts_cons, wp1_build, op_build, wp1_box, op_box, y1, y2, y3, y4, ← eh1, ← eh2, aFieldAddr, Nat.zero_add, Int.reduceBEq, Int.reduceBNe, wpk_nil, wpk_none, wpk_tt, wpk_ff, wpk_tf, wpk_ft, clsK_c, logC_apply, drawC_apply, a53_12, p2, p3, p4, q2, q3, q4, wc_eq (cmp90 _ _ _), wc_eq (cmp92 _ _ _), wc_eq (wn _), fill3, len3, Nat.reduceMul, wc_eq (or3 _ _ _ _)]
  refine ⟨rfl, ?_⟩
  exact finI (by simp only [get_put, reduceIte, Nat.reduceEqDiff]; rw [e]) rfl
theorem ord_k5 (i : Int) (s : List UInt8) (c : Int) (nf : Option Bool) (ns : List Int) (af : Option Bool) (ar : List Tm) (i' : Int) (s' : List UInt8) (c' : Int) (nf' : Option Bool) (ns' : List Int) (af' : Option Bool) (ar' : List Tm) (hP : ∀ t, t ∈ ar → OrdOk t) (okm : Oks ar') (wfm : Wfs ar') (hl : ar.length < 9223372036854775808) (hm : ar'.length < 9223372036854775808) (h : Heap) : WC env 53 [.agg (tc (.mk 5 i s c nf ns af ar)), .agg (tc (.mk 5 i' s' c' nf' ns' af' ar'))] h (fun o => o = .ret ⟨.int .i64 (ordF (.mk 5 i s c nf ns af ar) (.mk 5 i' s' c' nf' ns' af' ar')), h, .none⟩) := by
  refine call_pure rfl rfl rfl (by simp only [AV.noRefs, AV.noRef, noRef_tc, Bool.and_self]) ?_
  obtain ⟨ca, ea⟩ : ∃ ca, ca = tc (.mk 5 i s c nf ns af ar) := ⟨_, rfl⟩
  obtain ⟨cb, eb⟩ : ∃ cb, cb = tc (.mk 5 i' s' c' nf' ns' af' ar') := ⟨_, rfl⟩
  rw [← ea, ← eb]
  obtain ⟨nv, env'⟩ : ∃ nv, nv = slAV nf ns.length (u32s ns) := ⟨_, rfl⟩
  obtain ⟨av, eav⟩ : ∃ av, av = slAV af ar.length (tcs ar) := ⟨_, rfl⟩
  obtain ⟨nv2, env2⟩ : ∃ nv, nv = slAV nf' ns'.length (u32s ns') := ⟨_, rfl⟩
  obtain ⟨av2, eav2⟩ : ∃ av, av = slAV af' ar'.length (tcs ar') := ⟨_, rfl⟩
  have ea' : ca = [.int .i64 5, .int .i64 i, .str s, .int .u32 c, nv, av] := by rw [ea, env', eav]; rfl
  have eb' : cb = [.int .i64 5, .int .i64 i', .str s', .int .u32 c', nv2, av2] := by rw [eb, env2, eav2]; rfl
  obtain ⟨h1, eh1⟩ : ∃ h1, h1 = Heap.empty.new ca := ⟨_, rfl⟩
  have ho1 : HeapOk h1 := by rw [eh1]; exact HeapOk.empty.new _
  have a1' : h1.at_ Heap.empty.next 0 = some ca := by rw [eh1]; exact at_new _
  obtain ⟨h2, eh2⟩ : ∃ h2, h2 = h1.new cb := ⟨_, rfl⟩
  have a2' : h2.at_ Heap.empty.next 0 = some ca := by rw [eh2]; exact (le_new ho1 _).2 _ _ _ a1'
  have b2' : h2.at_ h1.next 0 = some cb := by rw [eh2]; exact at_new _
  have y1 : (AV.agg ca).row = some ca := rfl
  have y2 : ca.length = 6 := by rw [ea']; rfl
  have y3 : (AV.agg cb).row = some cb := rfl
  have y4 : cb.length = 6 := by rw [eb']; rfl
  rw [ea'] at a2'
  rw [eb'] at b2'
  have p0 := ld60 a2'
  have p1 := ld61 a2'
  have p2 := ld62 a2'
  have p3 := ld63 a2'
  have p4 := ld64 a2'
  have p5 := ld65 a2'
  have q0 := ld60 b2'
  have q1 := ld61 b2'
  have q2 := ld62 b2'
  have q3 := ld63 b2'
  have q4 := ld64 b2'
  have q5 := ld65 b2'
  have e : ordF (.mk 5 i s c nf ns af ar) (.mk 5 i' s' c' nf' ns' af' ar') = orI [cmpI ar.length ar'.length, ordFs ar ar'] := by simp [ordF]
  have wn : ∀ h, WC env 95 [av, av2, .fn (.func 53) [] []] h (fun o => o = .ret ⟨.int .i64 (ordFs ar ar'), h, .none⟩) := fun h => by rw [eav, eav2]; exact cmpf_spec _ _ _ _ hP okm wfm hl hm h
  have al : ∀ h, aLenOp false h av = some ⟨.int .i64 ar.length, h, .none⟩ := fun h => by rw [eav]; exact len_sl _ _ _ (fun _ => trivial) h
  have al2 : ∀ h, aLenOp false h av2 = some ⟨.int .i64 ar'.length, h, .none⟩ := fun h => by rw [eav2]; exact len_sl _ _ _ (fun _ => trivial) h
  simp only [a53, a53_0, a53_1, a53_3, a53_4, a53_5, a53_6, a53_7, a53_8, Slots.ofList, wpc_skip, wpc_ops, wpc_seq, wpc_cond, wpc_block, wpc_loop, wpc_exit, wpc_scope, wpc_ret, seqQ_norm, seqQ_ret, seqQ_exit, blockQ'_norm, blockQ'_ret, blockQ'_exit, roundQ_norm, roundQ_ret, roundQ_exit, condK_true, condK_false, wpo_nil', wpo_none, wpo_tt, wpo_ff, wpo_tf, wpo_ft, opsK_c, isC_none, isC_read, isC_write, wp1_call, callK_ret, wp1_mv', wp1_bin', wp1_un', wp1_eq', wp1_extract', wp1_pick', wp1_len', wp1_load', wp1_conv', wp1_store', wp1_idxAddr', wp1_append', wp1_mkIface', wp1_alloc', rd_t, rd_c, ok_t, ok_c, put_some, put_none, get_put, reduceIte, Nat.reduceEqDiff, AV.bool.injEq, Option.some.injEq, exists_eq_left', Option.map_some, Option.bind_some, opds_nil, opds_cons, opd_t, opd_c, aBin, aInt, decide_true, decide_false, negIf, wp1_nilCheck', wp1_fieldAddr', wp1_slice, op_slice, opdo_some, opdo_none, wp1_lit, op_lit, parts_nil, parts_cons, wp1_build, op_build, wp1_box, op_box, y1, y2, y3, y4, ← eh1, ← eh2, aFieldAddr, Nat.zero_add, Int.reduceBEq, Int.reduceBNe, p0, q0]
  refine wpc_draw_k ?_
  simp only [Slots.ofList, wpc_skip, wpc_ops, wpc_seq, wpc_cond, wpc_block, wpc_loop, wpc_exit, wpc_scope, wpc_ret, seqQ_norm, seqQ_ret, seqQ_exit, blockQ'_norm, blockQ'_ret, blockQ'_exit, roundQ_norm, roundQ_ret, roundQ_exit, condK_true, condK_false, wpo_nil', wpo_none, wpo_tt, wpo_ff, wpo_tf, wpo_ft, opsK_c, isC_none, isC_read, isC_write, wp1_call, callK_ret, wp1_mv', wp1_bin', wp1_un', wp1_eq', wp1_extract', wp1_pick', wp1_len', wp1_load', wp1_conv', wp1_store', wp1_idxAddr', wp1_append', wp1_mkIface', wp1_alloc', rd_t, rd_c, ok_t, ok_c, put_some, put_none, get_put, reduceIte, Nat.reduceEqDiff, AV.bool.injEq, Option.some.injEq, exists_eq_left', Option.map_some, Option.bind_some, opds_nil, opds_cons, opd_t, opd_c, aBin, aInt, decide_true, decide_false, negIf, wp1_nilCheck', wp1_fieldAddr', wp1_slice, op_slice, opdo_some, opdo_none, wp1_lit, op_lit, parts_nil, parts_cons, wp1_build, op_build, wp1_box, op_box, y1, y2, y3, y4, ← eh1, ← eh2, aFieldAddr, Nat.zero_add, Int.reduceBEq, Int.reduceBNe, wpk_nil, wpk_none, wpk_tt, wpk_ff, wpk_tf, wpk_ft, clsK_c, logC_apply, drawC_apply, a53_13, p5, q5, al, al2, wc_eq (cmp94 _ _ _), wc_eq (wn _), fill2, len2, Nat.reduceMul, wc_eq (or2 _ _ _)]
  refine ⟨rfl, ?_⟩
  exact finI (by simp only [get_put, reduceIte, Nat.reduceEqDiff]; rw [e]) rfl
theorem ord_k7 (i : Int) (s : List UInt8) (c : Int) (nf : Option Bool) (ns : List Int) (af : Option Bool) (ar : List Tm) (i' : Int) (s' : List UInt8) (c' : Int) (nf' : Option Bool) (ns' : List Int) (af' : Option Bool) (ar' : List Tm) (hP : ∀ t, t ∈ ar → OrdOk t) (okm : Oks ar') (wfm : Wfs ar') (hl : ar ≠ []) (hm : ar' ≠ []) (l7 : lastNot7 ar = true) (m7 : lastNot7 ar' = true) (h : Heap) : WC env 53 [.agg (tc (.mk 7 i s c nf ns af ar)), .agg (tc (.mk 7 i' s' c' nf' ns' af' ar'))] h (fun o => o = .ret ⟨.int .i64 (ordF (.mk 7 i s c nf ns af ar) (.mk 7 i' s' c' nf' ns' af' ar')), h, .none⟩) := by
  refine call_pure rfl rfl rfl (by simp only [AV.noRefs, AV.noRef, noRef_tc, Bool.and_self]) ?_
  obtain ⟨ca, ea⟩ : ∃ ca, ca = tc (.mk 7 i s c nf ns af ar) := ⟨_, rfl⟩
  obtain ⟨cb, eb⟩ : ∃ cb, cb = tc (.mk 7 i' s' c' nf' ns' af' ar') := ⟨_, rfl⟩
  rw [← ea, ← eb]
  obtain ⟨nv, env'⟩ : ∃ nv, nv = slAV nf ns.length (u32s ns) := ⟨_, rfl⟩
  obtain ⟨av, eav⟩ : ∃ av, av = slAV af ar.length (tcs ar) := ⟨_, rfl⟩
  obtain ⟨nv2, env2⟩ : ∃ nv, nv = slAV nf' ns'.length (u32s ns') := ⟨_, rfl⟩
  obtain ⟨av2, eav2⟩ : ∃ av, av = slAV af' ar'.length (tcs ar') := ⟨_, rfl⟩
  have ea' : ca = [.int .i64 7, .int .i64 i, .str s, .int .u32 c, nv, av] := by rw [ea, env', eav]; rfl
  have eb' : cb = [.int .i64 7, .int .i64 i', .str s', .int .u32 c', nv2, av2] := by rw [eb, env2, eav2]; rfl
  obtain ⟨h1, eh1⟩ : ∃ h1, h1 = Heap.empty.new ca := ⟨_, rfl⟩
  have ho1 : HeapOk h1 := by rw [eh1]; exact HeapOk.empty.new _
  have a1' : h1.at_ Heap.empty.next 0 = some ca := by rw [eh1]; exact at_new _
  obtain ⟨h2, eh2⟩ : ∃ h2, h2 = h1.new cb := ⟨_, rfl⟩
  have a2' : h2.at_ Heap.empty.next 0 = some ca := by rw [eh2]; exact (le_new ho1 _).2 _ _ _ a1'
  have b2' : h2.at_ h1.next 0 = some cb := by rw [eh2]; exact at_new _
  have y1 : (AV.agg ca).row = some ca := rfl
  have y2 : ca.length = 6 := by rw [ea']; rfl
  have y3 : (AV.agg cb).row = some cb := rfl
  have y4 : cb.length = 6 := by rw [eb']; rfl
  rw [ea'] at a2'
  rw [eb'] at b2'
  have p0 := ld60 a2'
  have p1 := ld61 a2'
  have p2 := ld62 a2'
  have p3 := ld63 a2'
  have p4 := ld64 a2'
  have p5 := ld65 a2'
  have q0 := ld60 b2'
  have q1 := ld61 b2'
  have q2 := ld62 b2'
  have q3 := ld63 b2'
  have q4 := ld64 b2'
  have q5 := ld65 b2'
  have e : ordF (.mk 7 i s c nf ns af ar) (.mk 7 i' s' c' nf' ns' af' ar') = ordL ar ar' := by simp [ordF]
  have wn : ∀ h, WC env 96 [av, av2] h (fun o => o = .ret ⟨.int .i64 (ordL ar ar'), h, .none⟩) := fun h => by rw [eav, eav2]; exact lists_spec ord_kinds _ _ _ _ hl hm l7 m7 hP okm wfm h
  simp only [a53, a53_0, a53_1, a53_3, a53_4, a53_5, a53_6, a53_7, a53_8, a53_9, Slots.ofList, wpc_skip, wpc_ops, wpc_seq, wpc_cond, wpc_block, wpc_loop, wpc_exit, wpc_scope, wpc_ret, seqQ_norm, seqQ_ret, seqQ_exit, blockQ'_norm, blockQ'_ret, blockQ'_exit, roundQ_norm, roundQ_ret, roundQ_exit, condK_true, condK_false, wpo_nil', wpo_none, wpo_tt, wpo_ff, wpo_tf, wpo_ft, opsK_c, isC_none, isC_read, isC_write, wp1_call, callK_ret, wp1_mv', wp1_bin', wp1_un', wp1_eq', wp1_extract', wp1_pick', wp1_len', wp1_load', wp1_conv', wp1_store', wp1_idxAddr', wp1_append', wp1_mkIface', wp1_alloc', rd_t, rd_c, ok_t, ok_c, put_some, put_none, get_put, reduceIte, Nat.reduceEqDiff, AV.bool.injEq, Option.some.injEq, exists_eq_left', Option.map_some, Option.bind_some, opds_nil, opds_cons, opd_t, opd_c, aBin, aInt, decide_true, decide_false, negIf, wp1_nilCheck', wp1_fieldAddr', wp1_slice, op_slice, opdo_some, opdo_none, wp1_lit, op_lit, parts_nil, parts_cons, wp1_build, op_build, wp1_box, op_box, y1, y2, y3, y4, ← eh1, ← eh2, aFieldAddr, Nat.zero_add, Int.reduceBEq, Int.reduceBNe, p0, q0, a53_14, p5, q5, wc_eq (wn _)]
  exact finI (by simp only [get_put, reduceIte, Nat.reduceEqDiff]; rw [e]) rfl
theorem ord_k0 (k : Int) (i : Int) (s : List UInt8) (c : Int) (nf : Option Bool) (ns : List Int) (af : Option Bool) (ar : List Tm) (i' : Int) (s' : List UInt8) (c' : Int) (nf' : Option Bool) (ns' : List Int) (af' : Option Bool) (ar' : List Tm) (hk : ∀ j : Int, 1 ≤ j → j ≤ 7 → j ≠ 6 → k ≠ j) (h : Heap) : WC env 53 [.agg (tc (.mk k i s c nf ns af ar)), .agg (tc (.mk k i' s' c' nf' ns' af' ar'))] h (fun o => o = .ret ⟨.int .i64 (ordF (.mk k i s c nf ns af ar) (.mk k i' s' c' nf' ns' af' ar')), h, .none⟩) := by
  refine call_pure rfl rfl rfl (by simp only [AV.noRefs, AV.noRef, noRef_tc, Bool.and_self]) ?_
  obtain ⟨ca, ea⟩ : ∃ ca, ca = tc (.mk k i s c nf ns af ar) := ⟨_, rfl⟩
  obtain ⟨cb, eb⟩ : ∃ cb, cb = tc (.mk k i' s' c' nf' ns' af' ar') := ⟨_, rfl⟩
  rw [← ea, ← eb]
  obtain ⟨nv, env'⟩ : ∃ nv, nv = slAV nf ns.length (u32s ns) := ⟨_, rfl⟩
  obtain ⟨av, eav⟩ : ∃ av, av = slAV af ar.length (tcs ar) := ⟨_, rfl⟩
  obtain ⟨nv2, env2⟩ : ∃ nv, nv = slAV nf' ns'.length (u32s ns') := ⟨_, rfl⟩
  obtain ⟨av2, eav2⟩ : ∃ av, av = slAV af' ar'.length (tcs ar') := ⟨_, rfl⟩
  have ea' : ca = [.int .i64 k, .int .i64 i, .str s, .int .u32 c, nv, av] := by rw [ea, env', eav]; rfl
  have eb' : cb = [.int .i64 k, .int .i64 i', .str s', .int .u32 c', nv2, av2] := by rw [eb, env2, eav2]; rfl
  obtain ⟨h1, eh1⟩ : ∃ h1, h1 = Heap.empty.new ca := ⟨_, rfl⟩
  have ho1 : HeapOk h1 := by rw [eh1]; exact HeapOk.empty.new _
  have a1' : h1.at_ Heap.empty.next 0 = some ca := by rw [eh1]; exact at_new _
  obtain ⟨h2, eh2⟩ : ∃ h2, h2 = h1.new cb := ⟨_, rfl⟩
  have a2' : h2.at_ Heap.empty.next 0 = some ca := by rw [eh2]; exact (le_new ho1 _).2 _ _ _ a1'
  have b2' : h2.at_ h1.next 0 = some cb := by rw [eh2]; exact at_new _
  have y1 : (AV.agg ca).row = some ca := rfl
  have y2 : ca.length = 6 := by rw [ea']; rfl
  have y3 : (AV.agg cb).row = some cb := rfl
  have y4 : cb.length = 6 := by rw [eb']; rfl
  rw [ea'] at a2'
  rw [eb'] at b2'
  have p0 := ld60 a2'
  have p1 := ld61 a2'
  have p2 := ld62 a2'
  have p3 := ld63 a2'
  have p4 := ld64 a2'
  have p5 := ld65 a2'
  have q0 := ld60 b2'
  have q1 := ld61 b2'
  have q2 := ld62 b2'
  have q3 := ld63 b2'
  have q4 := ld64 b2'
  have q5 := ld65 b2'
  have z : (k != k) = false := by simp
  have k1 : (k == 1) = false := by simpa using hk 1 (by omega) (by omega) (by omega)
  have k2 : (k == 2) = false := by simpa using hk 2 (by omega) (by omega) (by omega)
  have k3 : (k == 3) = false := by simpa using hk 3 (by omega) (by omega) (by omega)
  have k4 : (k == 4) = false := by simpa using hk 4 (by omega) (by omega) (by omega)
  have k5 : (k == 5) = false := by simpa using hk 5 (by omega) (by omega) (by omega)
  have k7 : (k == 7) = false := by simpa using hk 7 (by omega) (by omega) (by omega)
  have e : ordF (.mk k i s c nf ns af ar) (.mk k i' s' c' nf' ns' af' ar') = 0 := by
    simp only [ordF, ne_eq, not_true, if_false, hk 1 (by omega) (by omega) (by omega), hk 2 (by omega) (by omega) (by omega), hk 3 (by omega) (by omega) (by omega), hk 4 (by omega) (by omega) (by omega), hk 5 (by omega) (by omega) (by omega), hk 7 (by omega) (by omega) (by omega), or_self]
  simp only [a53, a53_0, a53_1, a53_3, a53_4, a53_5, a53_6, a53_7, a53_8, a53_9, Slots.ofList, wpc_skip, wpc_ops, wpc_seq, wpc_cond, wpc_block, wpc_loop, wpc_exit, wpc_scope, wpc_ret, seqQ_norm, seqQ_ret, seqQ_exit, blockQ'_norm, blockQ'_ret, blockQ'_exit, roundQ_norm, roundQ_ret, roundQ_exit, condK_true, condK_false, wpo_nil', wpo_none, wpo_tt, wpo_ff, wpo_tf, wpo_ft, opsK_c, isC_none, isC_read, isC_write, wp1_call, callK_ret, wp1_mv', wp1_bin', wp1_un', wp1_eq', wp1_extract', wp1_pick', wp1_len', wp1_load', wp1_conv', wp1_store', wp1_idxAddr', wp1_append', wp1_mkIface', wp1_alloc', rd_t, rd_c, ok_t, ok_c, put_some, put_none, get_put, reduceIte, Nat.reduceEqDiff, AV.bool.injEq, Option.some.injEq, exists_eq_left', Option.map_some, Option.bind_some, opds_nil, opds_cons, opd_t, opd_c, aBin, aInt, decide_true, decide_false, negIf, wp1_nilCheck', wp1_fieldAddr', wp1_slice, op_slice, opdo_some, opdo_none, wp1_lit, op_lit, parts_nil, parts_cons, wp1_build, op_build, wp1_box, op_box, y1, y2, y3, y4, ← eh1, ← eh2, aFieldAddr, Nat.zero_add, Int.reduceBEq, Int.reduceBNe, p0, q0, z, k1, k2, k3, k4, k5, k7, a53_15]
  exact finI (by simp only [get_put, reduceIte, Nat.reduceEqDiff]; rw [e]) rfl

theorem wf_list {i : Int} {s : List UInt8} {c : Int} {nf : Option Bool} {ns : List Int} {af : Option Bool} {ar : List Tm} (w : Wf (.mk 7 i s c nf ns af ar)) : ar ≠ [] ∧ lastNot7 ar = true := by
  have h := w.1
  rw [kindOk] at h
  simp at h
  exact ⟨fun e => by rw [e] at h; simp at h, h.2⟩
theorem ord_spec : ∀ a : Tm, a.Ok → Wf a → OrdOk a := by
  refine tm_ind fun k i s c nf ns af ar ih ok wf b okb wfb h => ?_
  rcases b with ⟨k', i', s', c', nf', ns', af', ar'⟩
  obtain ⟨_, sn, sa, sr⟩ := ok.lens
  obtain ⟨_, sn', sa', sr'⟩ := okb.lens
  have hP : ∀ t, t ∈ ar → OrdOk t := fun t m => ih t m (sr.get m) (wf.2.get m)
  by_cases hk : k = k'
  · subst hk
    by_cases e1 : k = 1
    · subst e1; exact ord_k1 i s c nf ns af ar i' s' c' nf' ns' af' ar' h
    by_cases e2 : k = 2
    · subst e2; exact ord_k2 i s c nf ns af ar i' s' c' nf' ns' af' ar' h
    by_cases e3 : k = 3
    · subst e3; exact ord_k3 i s c nf ns af ar i' s' c' nf' ns' af' ar' sn sn' h
    by_cases e4 : k = 4
    · subst e4; exact ord_k4 i s c nf ns af ar i' s' c' nf' ns' af' ar' sn sn' h
    by_cases e5 : k = 5
    · subst e5; exact ord_k5 i s c nf ns af ar i' s' c' nf' ns' af' ar' hP sr' wfb.2 sa sa' h
    by_cases e7 : k = 7
    · subst e7; exact ord_k7 i s c nf ns af ar i' s' c' nf' ns' af' ar' hP sr' wfb.2 (wf_list wf).1 (wf_list wfb).1 (wf_list wf).2 (wf_list wfb).2 h
    exact ord_k0 k i s c nf ns af ar i' s' c' nf' ns' af' ar' (fun j h1 h2 h3 => by omega) h
  · have := ord_kinds (.mk k i s c nf ns af ar) (.mk k' i' s' c' nf' ns' af' ar') hk h
    have e : ordF (.mk k i s c nf ns af ar) (.mk k' i' s' c' nf' ns' af' ar') = cmpI k k' := by rw [ordF, if_pos hk]
    rw [e]; exact this
end Go.Bf
