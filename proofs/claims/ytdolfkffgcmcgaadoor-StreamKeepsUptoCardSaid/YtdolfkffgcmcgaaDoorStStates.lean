/-
  The state of both ends of both streams: they answer alike.
-/
import Derived.Test.YtdolfkffgcmcgaaDoorStTwin
set_option linter.unusedVariables false
set_option linter.unusedSimpArgs false
set_option maxRecDepth 20000
namespace Go.St
open Go.AM

/-- both streams, between two calls -/
def Ty (K : Bool) (h : Heap) (id id2 m : Nat) : Prop := ∃ cl t o tu tc ou oc tu2 tc2 ou2 oc2, Tw h id id2 0 cl t o cl t o tu tc ou oc tu2 tc2 ou2 oc2 ∧ Bd K cl t o m
theorem Tx.ty {K : Bool} {h : Heap} {id id2 i7 m : Nat} {X : List AV} (k : Tx K h id id2 i7 0 m X) : Ty K h id id2 m := by
  obtain ⟨cl, t, o, tu, tc, ou, oc, tu2, tc2, ou2, oc2, k, b⟩ := k
  exact ⟨_, _, _, _, _, _, _, _, _, _, _, k.tw, b⟩
theorem Ty.ok {K : Bool} {h : Heap} {id id2 m : Nat} (k : Ty K h id id2 m) : HeapOk h := by
  obtain ⟨cl, t, o, tu, tc, ou, oc, tu2, tc2, ou2, oc2, k, b⟩ := k
  exact k.ok
theorem Ty.le {K : Bool} {h h' : Heap} {id id2 m : Nat} (k : Ty K h id id2 m) (ho : HeapOk h') (c : h.le h') : Ty K h' id id2 m := by
  obtain ⟨cl, t, o, tu, tc, ou, oc, tu2, tc2, ou2, oc2, k, b⟩ := k
  exact ⟨_, _, _, _, _, _, _, _, _, _, _, k.le ho c, b⟩
theorem Ty.less {K : Bool} {h : Heap} {id id2 m m' : Nat} (k : Ty K h id id2 m) (hm : m' ≤ m) : Ty K h id id2 m' := by
  obtain ⟨cl, t, o, tu, tc, ou, oc, tu2, tc2, ou2, oc2, k, b⟩ := k
  exact ⟨_, _, _, _, _, _, _, _, _, _, _, k, b.le hm⟩
theorem Ty.new {K : Bool} {h : Heap} {id id2 m : Nat} (k : Ty K h id id2 m) (X : List AV) : Tx K (h.new X) id id2 h.next 0 m X := by
  obtain ⟨cl, t, o, tu, tc, ou, oc, tu2, tc2, ou2, oc2, k, b⟩ := k
  have i1 := k.ok.lt k.sr.hat
  have i2 := k.ok.lt k.rq.hat
  exact ⟨_, _, _, _, _, _, _, _, _, _, _, ⟨k.le (k.ok.new X) (le_new k.ok X), at_new _, by omega, by omega, fun f => by have := k.sr.footLt k.ok f; omega, fun f => by have := k.rq.footLt k.ok f; omega⟩, b⟩

/-- the seven cells of a state -/
def Seven (p : List AV) : Prop := ∃ a0 a1 a2 a3 a4 b0 b1, p = [.int .i64 a0, .int .i64 a1, .int .i64 a2, .int .i64 a3, .int .i64 a4, .bool b0, .bool b1]
theorem ty_state {K : Bool} {h : Heap} {id id2 m : Nat} (k : Ty K h id id2 m) (e : Int) : ∃ x p h1, Seven p ∧ HeapOk h1 ∧ h.le h1 ∧ WC env 15 [.ptr id 0 0, .int .i64 e] h (fun y => y = .ret ⟨.tup [.agg p, errV x], h1, .write⟩) ∧
    ∀ h', HeapOk h' → h.le h' → ∃ h2, HeapOk h2 ∧ h'.le h2 ∧ WC env 38 [.ptr id2 0 0, .int .i64 e] h' (fun y => y = .ret ⟨.tup [.agg p, errL x], h2, .write⟩) := by
  obtain ⟨cl, t, o, tu, tc, ou, oc, tu2, tc2, ou2, oc2, k, bd⟩ := k
  have main : ∀ {e : Nat} {t o : Sd} {tu tc ou oc tu2 tc2 ou2 oc2 : AV}, (e = 0 ∨ e = 1) → Tw h id id2 e cl t o cl t o tu tc ou oc tu2 tc2 ou2 oc2 → ∃ x p h1, Seven p ∧ HeapOk h1 ∧ h.le h1 ∧ WC env 15 [.ptr id 0 0, .int .i64 (e : Int)] h (fun y => y = .ret ⟨.tup [.agg p, errV x], h1, .write⟩) ∧
      ∀ h', HeapOk h' → h.le h' → ∃ h2, HeapOk h2 ∧ h'.le h2 ∧ WC env 38 [.ptr id2 0 0, .int .i64 (e : Int)] h' (fun y => y = .ret ⟨.tup [.agg p, errL x], h2, .write⟩) := by
    intro e t o tu tc ou oc tu2 tc2 ou2 oc2 he k
    obtain ⟨x, ev, h1, ho1, hl1, rfl⟩ := state_spec k.ok k.sr he
    refine ⟨none, pipe cl t, h1, ⟨_, _, _, _, _, _, _, rfl⟩, ho1, hl1, ⟨_, ev, rfl⟩, fun h' ho' hl' => ?_⟩
    obtain ⟨y, ev2, h2, ho2, hl2, rfl⟩ := rstate_spec ho' (k.le ho' hl').rq he
    exact ⟨h2, ho2, hl2, _, ev2, rfl⟩
  by_cases c0 : e = 0
  · subst c0; exact main (e := 0) (.inl rfl) k
  by_cases c1 : e = 1
  · subst c1; exact main (e := 1) (.inr rfl) (k.flip (.inl rfl))
  obtain ⟨x, ev, h1, ho1, hl1, rfl⟩ := state_bad k.ok k.sr.hat c0 c1
  refine ⟨some 2, pipe0, h1, ⟨_, _, _, _, _, _, _, rfl⟩, ho1, hl1, ⟨_, ev, rfl⟩, fun h' ho' hl' => ?_⟩
  obtain ⟨y, ev2, h2, ho2, hl2, rfl⟩ := rstate_bad (v := .ptr id2 0 0) ho' c0 c1
  exact ⟨h2, ho2, hl2, _, ev2, rfl⟩

/-- an object of seven cells, made and filled -/
theorem box7 {h : Heap} (ho : HeapOk h) {p : List AV} (hp : Seven p) : ∃ h', aStore (h.new [.int .i64 0, .int .i64 0, .int .i64 0, .int .i64 0, .int .i64 0, .bool false, .bool false]) 7 (.ptr h.next 0 0) (.agg p) = some ⟨.undef, h', .write⟩ ∧ HeapOk h' ∧ h.le h' ∧ h'.at_ h.next 0 = some p := by
  obtain ⟨z, ez⟩ : ∃ z, z = [AV.int .i64 0, .int .i64 0, .int .i64 0, .int .i64 0, .int .i64 0, .bool false, .bool false] := ⟨_, rfl⟩
  rw [← ez]
  have hat : (h.new z).at_ h.next 0 = some z := at_new _
  refine ⟨(h.new z).upd h.next 0 p, ?_, (ho.new _).upd (at_look.1 hat) _ _, ?_, at_upd⟩
  · obtain ⟨a0, a1, a2, a3, a4, b0, b1, rfl⟩ := hp
    simp only [aStore, hat, Option.bind_some, row_agg]
    rw [ez]; rfl
  · have c : Chg (fun i => i = h.next) h ((h.new z).upd h.next 0 p) := (le_new ho z).chg.trans (upd_chg rfl)
    exact ⟨c.1, fun id gen cs e => c.2 _ _ _ (fun x => by have := ho.lt e; omega) e⟩
theorem ld7 {h : Heap} {id : Nat} {p : List AV} (hp : Seven p) (hat : h.at_ id 0 = some p) : aLoad h true 7 (.ptr id 0 0) = some ⟨.agg p, h, .read⟩ := by
  obtain ⟨a0, a1, a2, a3, a4, b0, b1, rfl⟩ := hp
  simp only [aLoad, hat, Option.bind_some]; rfl
theorem eq7 {p : List AV} (hp : Seven p) : aEq (.struct [(0, 1, false, .int), (1, 1, false, .int), (2, 1, false, .int), (3, 1, false, .int), (4, 1, false, .int), (5, 1, false, .bool), (6, 1, false, .bool)]) (.agg p) (.agg p) = some true := by
  obtain ⟨a0, a1, a2, a3, a4, b0, b1, rfl⟩ := hp
  simp [aEq, aEqs, aEqScalar]

theorem states_round {K : Bool} {h : Heap} {σ : Slots} {id id2 m : Nat} (k : Ty K h id id2 m) (e : Int) (he : -1 ≤ e ∧ e ≤ 2) (g0 : σ.get 0 = .ptr id 0 0) (g1 : σ.get 1 = .ptr id2 0 0) (g5 : σ.get 5 = .int .i64 e) {Q : AExit → St → Prop}
    (hQ : ∀ σ' h', Ty K h' id id2 m → σ'.get 0 = .ptr id 0 0 → σ'.get 1 = .ptr id2 0 0 → σ'.get 5 = .int .i64 (e + 1) → Q .norm ⟨σ', h'⟩) : wpc env a23_l8 ⟨σ, h⟩ Q := by
  obtain ⟨x, p, h1, hp, ho1, hl1, w1, hR⟩ := ty_state k e
  obtain ⟨h2, s2, ho2, hl2, at2⟩ := box7 ho1 hp
  obtain ⟨h3, ho3, hl3, w3⟩ := hR h2 ho2 (Heap.le_trans hl1 hl2)
  obtain ⟨h4, s4, ho4, hl4, at4⟩ := box7 ho3 hp
  have l4 := ld7 hp (hl4.2 _ _ _ (hl3.2 _ _ _ at2))
  have l4' := ld7 hp at4
  obtain ⟨_, ev, h5, ho5, hl5, rfl⟩ := refused_any x ho4
  have w5 : WC env 16 [errV x, errL x] h4 (fun o => o = .ret ⟨.bool true, h5, .write⟩) := ⟨_, ev, rfl⟩
  have z0 : (e ≤ 2) = True := eq_true he.2
  have z1 : IntKind.wrap .i64 (e + 1) = e + 1 := by
    obtain ⟨n, hn⟩ : ∃ n : Nat, e + 1 = (n : Int) := ⟨(e + 1).toNat, by omega⟩
    rw [hn]; exact wrap_small (by omega)
  have z2 := eq7 hp
  simp only [a23_l8, a23_2, a23_3, a23_4, a23_5, a23_7, wpc_skip, wpc_ops, wpc_draw, wpc_seq, wpc_cond, wpc_block, wpc_loop, wpc_exit, wpc_scope, wpc_ret, seqQ_norm, seqQ_ret, seqQ_exit, blockQ'_norm, blockQ'_ret, blockQ'_exit, roundQ_norm, roundQ_ret, roundQ_exit, condK_true, condK_false, wpo_nil', wpo_none, wpo_tt, wpo_ff, wpo_tf, wpo_ft, opsK_c, isC_none, isC_read, isC_write, wp1_call, callK_ret, wp1_mv', wp1_bin', wp1_un', wp1_eq', wp1_extract', wp1_pick', wp1_len', wp1_load', wp1_conv', wp1_store', wp1_idxAddr', wp1_append', wp1_mkIface', wp1_alloc', rd_t, rd_c, ok_t, ok_c, put_some, put_none, get_put, reduceIte, Nat.reduceEqDiff, AV.bool.injEq, Option.some.injEq, exists_eq_left', Option.map_some, Option.bind_some, opds_nil, opds_cons, opd_t, opd_c, aBin, aInt, decide_true, decide_false, negIf, wp1_nilCheck', wp1_fieldAddr', wp1_slice, op_slice, opdo_some, opdo_none, wp1_lit, op_lit, parts_nil, parts_cons, wp1_build, op_build, wp1_box, op_box, g0, g1, g5, z0, z1, wc_eq w1, aExtract, ex0, ex1, s2, wc_eq w3, s4, l4, l4', z2, Bool.not_true, wc_eq w5, aUn, aPick]
  refine hQ _ _ (k.le ho5 (Heap.le_trans (Heap.le_trans (Heap.le_trans (Heap.le_trans hl1 hl2) hl3) hl4) hl5)) ?_ ?_ ?_
  · simp only [get_put, reduceIte, Nat.reduceEqDiff, g0]
  · simp only [get_put, reduceIte, Nat.reduceEqDiff, g1]
  · simp only [get_put, reduceIte, Nat.reduceEqDiff]

theorem states_spec {K : Bool} {h : Heap} {id id2 m : Nat} (k : Ty K h id id2 m) : WC env 23 [.ptr id 0 0, .ptr id2 0 0] h (fun r => ∃ h', Ty K h' id id2 m ∧ r = .ret ⟨.bool true, h', .write⟩) := by
  refine call_body rfl rfl (.inl rfl) ?_
  simp only [a23, a23_0, a23_1, Slots.ofList, wpc_skip, wpc_ops, wpc_draw, wpc_seq, wpc_cond, wpc_block, wpc_loop, wpc_exit, wpc_scope, wpc_ret, seqQ_norm, seqQ_ret, seqQ_exit, blockQ'_norm, blockQ'_ret, blockQ'_exit, roundQ_norm, roundQ_ret, roundQ_exit, condK_true, condK_false, wpo_nil', wpo_none, wpo_tt, wpo_ff, wpo_tf, wpo_ft, opsK_c, isC_none, isC_read, isC_write, wp1_call, callK_ret, wp1_mv', wp1_bin', wp1_un', wp1_eq', wp1_extract', wp1_pick', wp1_len', wp1_load', wp1_conv', wp1_store', wp1_idxAddr', wp1_append', wp1_mkIface', wp1_alloc', rd_t, rd_c, ok_t, ok_c, put_some, put_none, get_put, reduceIte, Nat.reduceEqDiff, AV.bool.injEq, Option.some.injEq, exists_eq_left', Option.map_some, Option.bind_some, opds_nil, opds_cons, opd_t, opd_c, aBin, aInt, decide_true, decide_false, negIf, wp1_nilCheck', wp1_fieldAddr', wp1_slice, op_slice, opdo_some, opdo_none, wp1_lit, op_lit, parts_nil, parts_cons, wp1_build, op_build, wp1_box, op_box]
  refine wpr_round' fun b hb => states_round k (-1) (by omega) (by simp only [get_put, reduceIte, Nat.reduceEqDiff]) (by simp only [get_put, reduceIte, Nat.reduceEqDiff]) (by simp only [get_put, reduceIte, Nat.reduceEqDiff]) fun σ1 h1 k1 p1 q1 r1 => ?_
  subst hb
  show WPr env _ _ _
  refine wpr_round' fun b hb => states_round k1 _ (by omega) p1 q1 r1 fun σ2 h2 k2 p2 q2 r2 => ?_
  subst hb
  show WPr env _ _ _
  refine wpr_round' fun b hb => states_round k2 _ (by omega) p2 q2 r2 fun σ3 h3 k3 p3 q3 r3 => ?_
  subst hb
  show WPr env _ _ _
  refine wpr_round' fun b hb => states_round k3 _ (by omega) p3 q3 r3 fun σ4 h4 k4 p4 q4 r4 => ?_
  subst hb
  show WPr env _ _ _
  refine wpr_round' fun b hb => ?_
  have z0 : ((-1 + 1 + 1 + 1 + 1 : Int) ≤ 2) = False := eq_false (by omega)
  simp only [a23_l8, a23_2, a23_9, wpc_skip, wpc_ops, wpc_draw, wpc_seq, wpc_cond, wpc_block, wpc_loop, wpc_exit, wpc_scope, wpc_ret, seqQ_norm, seqQ_ret, seqQ_exit, blockQ'_norm, blockQ'_ret, blockQ'_exit, roundQ_norm, roundQ_ret, roundQ_exit, condK_true, condK_false, wpo_nil', wpo_none, wpo_tt, wpo_ff, wpo_tf, wpo_ft, opsK_c, isC_none, isC_read, isC_write, wp1_call, callK_ret, wp1_mv', wp1_bin', wp1_un', wp1_eq', wp1_extract', wp1_pick', wp1_len', wp1_load', wp1_conv', wp1_store', wp1_idxAddr', wp1_append', wp1_mkIface', wp1_alloc', rd_t, rd_c, ok_t, ok_c, put_some, put_none, get_put, reduceIte, Nat.reduceEqDiff, AV.bool.injEq, Option.some.injEq, exists_eq_left', Option.map_some, Option.bind_some, opds_nil, opds_cons, opd_t, opd_c, aBin, aInt, decide_true, decide_false, negIf, wp1_nilCheck', wp1_fieldAddr', wp1_slice, op_slice, opdo_some, opdo_none, wp1_lit, op_lit, parts_nil, parts_cons, wp1_build, op_build, wp1_box, op_box, r4, z0]
  exact ⟨[.bool true], by simp only [Env.results, Option.map_some, get_put, reduceIte, Nat.reduceEqDiff], _, k4, rfl⟩
end Go.St
/-
  A call of both streams: they answer alike.
-/
set_option linter.unusedVariables false
set_option linter.unusedSimpArgs false
set_option maxRecDepth 20000
namespace Go.St
open Go.AM

theorem same_int2 (k : IntKind) (x : Int) : (AV.int k x).same (.int k x) = true := by simp [AV.same]
theorem same_bool (b : Bool) : (AV.bool b).same (.bool b) = true := by simp [AV.same]
theorem sames_bytes2 : ∀ (b : List UInt8), AV.sames (b.map byteAV) (b.map byteAV) = true
  | [] => rfl
  | a :: b => by simp [AV.sames, byteAV, AV.same, sames_bytes2 b]
theorem same_bytes2 {h : Heap} {v : AV} {b : List UInt8} (k : Bytes h v b) : v.same v = true := by
  cases k with
  | nils => rfl
  | fs full => simp [AV.same, sames_bytes2 b]
  | sl => simp [AV.same]

theorem step1 {K : Bool} {h : Heap} {id id2 m : Nat} {o : Op5} (k : Ty K h id id2 (m + o.b.length)) (hb : ∀ h, Bytes h o.v o.b) (c1 : o.kind = 1) :
    WC env 22 [.ptr id 0 0, .ptr id2 0 0, .agg o.cells] h (fun r => ∃ h', Ty K h' id id2 m ∧ r = .ret ⟨.bool true, h', .write⟩) := by
  have kx := k.new o.cells
  have a7 := kx.a7
  obtain ⟨x, h1, h2, w1, x1, w2, kx2⟩ := tw_send (e := o.e) kx hb
  have x2 := kx2.a7
  obtain ⟨_, ev, h3, ho3, l3, rfl⟩ := refused_any x kx2.ok
  have w3 : WC env 16 [errV x, errL x] h2 (fun o => o = .ret ⟨.bool true, h3, .write⟩) := ⟨_, ev, rfl⟩
  have kx3 := kx2.le ho3 l3
  have x3 := kx3.a7
  have y1 : (AV.agg o.cells).row = some o.cells := rfl
  have y2 : o.cells.length = 5 := rfl
  have e0 := op5_k a7
  have e1 := op5_e a7
  have e2 := op5_v a7
  have f1 := op5_e x1
  have f2 := op5_v x1
  have g1 := op5_e x2
  have g2 := op5_v x2
  have j1 := op5_e x3
  have j2 := op5_v x3
  have z1 : (o.kind == 1) = true := by simp [c1]
  refine call_body rfl rfl (.inl rfl) ?_
  simp only [a22, a22_0, a22_1, a22_2, a22_3, Slots.ofList, wpc_skip, wpc_ops, wpc_draw, wpc_seq, wpc_cond, wpc_block, wpc_loop, wpc_exit, wpc_scope, wpc_ret, seqQ_norm, seqQ_ret, seqQ_exit, blockQ'_norm, blockQ'_ret, blockQ'_exit, roundQ_norm, roundQ_ret, roundQ_exit, condK_true, condK_false, wpo_nil', wpo_none, wpo_tt, wpo_ff, wpo_tf, wpo_ft, opsK_c, isC_none, isC_read, isC_write, wp1_call, callK_ret, wp1_mv', wp1_bin', wp1_un', wp1_eq', wp1_extract', wp1_pick', wp1_len', wp1_load', wp1_conv', wp1_store', wp1_idxAddr', wp1_append', wp1_mkIface', wp1_alloc', rd_t, rd_c, ok_t, ok_c, put_some, put_none, get_put, reduceIte, Nat.reduceEqDiff, AV.bool.injEq, Option.some.injEq, exists_eq_left', Option.map_some, Option.bind_some, opds_nil, opds_cons, opd_t, opd_c, aBin, aInt, decide_true, decide_false, negIf, wp1_nilCheck', wp1_fieldAddr', wp1_slice, op_slice, opdo_some, opdo_none, wp1_lit, op_lit, parts_nil, parts_cons, wp1_build, op_build, wp1_box, op_box, wpl_nil', wpl_none, wpl_some, logK_c, logQ_apply, guardL_tt, guardL_ff, guardL_tf, guardL_ft, drawQ_apply, y1, y2, aFieldAddr, Nat.zero_add, e0, e1, e2, z1, wc_eq w1, f1, f2, wc_eq w2, wc_eq w3]
  refine ⟨draw_of_cls3 [8, 10] rfl ⟨?_, ?_, trivial⟩, ?_⟩
  · show Env.steady _ _ _ _ = true
    simp only [Env.steady, List.map_cons, List.map_nil, op_loadT, opd_t, get_put, reduceIte, Nat.reduceEqDiff, Option.bind_some, e1, f1, g1, j1, same_int2, same_bool, same_bytes2 (hb h), Bool.and_self, Bool.true_and, Bool.and_true]
  · show Env.steady _ _ _ _ = true
    simp only [Env.steady, List.map_cons, List.map_nil, op_loadT, opd_t, get_put, reduceIte, Nat.reduceEqDiff, Option.bind_some, e2, f2, g2, j2, same_int2, same_bool, same_bytes2 (hb h), Bool.and_self, Bool.true_and, Bool.and_true]
  exact ⟨[.bool true], by simp only [Env.results, Option.map_some, get_put, reduceIte, Nat.reduceEqDiff], _, kx3.ty, rfl⟩

theorem step2 {K : Bool} {h : Heap} {id id2 m : Nat} {o : Op5} (k : Ty K h id id2 (m + o.b.length)) (hb : ∀ h, Bytes h o.v o.b) (c1 : o.kind = 2) :
    WC env 22 [.ptr id 0 0, .ptr id2 0 0, .agg o.cells] h (fun r => ∃ h', Ty K h' id id2 m ∧ r = .ret ⟨.bool true, h', .write⟩) := by
  have kx := k.new o.cells
  have a7 := kx.a7
  obtain ⟨x, h1, h2, w1, x1, w2, kx2⟩ := tw_move (e := o.e) (n := o.n) (kx.less (m' := m) (by omega))
  have x2 := kx2.a7
  obtain ⟨_, ev, h3, ho3, l3, rfl⟩ := refused_any x kx2.ok
  have w3 : WC env 16 [errV x, errL x] h2 (fun o => o = .ret ⟨.bool true, h3, .write⟩) := ⟨_, ev, rfl⟩
  have kx3 := kx2.le ho3 l3
  have x3 := kx3.a7
  have y1 : (AV.agg o.cells).row = some o.cells := rfl
  have y2 : o.cells.length = 5 := rfl
  have e0 := op5_k a7
  have e1 := op5_e a7
  have e2 := op5_n a7
  have f1 := op5_e x1
  have f2 := op5_n x1
  have g1 := op5_e x2
  have g2 := op5_n x2
  have j1 := op5_e x3
  have j2 := op5_n x3
  have z1 : (o.kind == 1) = false := by simp [c1]
  have z2 : (o.kind == 2) = true := by simp [c1]
  refine call_body rfl rfl (.inl rfl) ?_
  simp only [a22, a22_0, a22_1, a22_2, a22_4, a22_5, Slots.ofList, wpc_skip, wpc_ops, wpc_draw, wpc_seq, wpc_cond, wpc_block, wpc_loop, wpc_exit, wpc_scope, wpc_ret, seqQ_norm, seqQ_ret, seqQ_exit, blockQ'_norm, blockQ'_ret, blockQ'_exit, roundQ_norm, roundQ_ret, roundQ_exit, condK_true, condK_false, wpo_nil', wpo_none, wpo_tt, wpo_ff, wpo_tf, wpo_ft, opsK_c, isC_none, isC_read, isC_write, wp1_call, callK_ret, wp1_mv', wp1_bin', wp1_un', wp1_eq', wp1_extract', wp1_pick', wp1_len', wp1_load', wp1_conv', wp1_store', wp1_idxAddr', wp1_append', wp1_mkIface', wp1_alloc', rd_t, rd_c, ok_t, ok_c, put_some, put_none, get_put, reduceIte, Nat.reduceEqDiff, AV.bool.injEq, Option.some.injEq, exists_eq_left', Option.map_some, Option.bind_some, opds_nil, opds_cons, opd_t, opd_c, aBin, aInt, decide_true, decide_false, negIf, wp1_nilCheck', wp1_fieldAddr', wp1_slice, op_slice, opdo_some, opdo_none, wp1_lit, op_lit, parts_nil, parts_cons, wp1_build, op_build, wp1_box, op_box, wpl_nil', wpl_none, wpl_some, logK_c, logQ_apply, guardL_tt, guardL_ff, guardL_tf, guardL_ft, drawQ_apply, y1, y2, aFieldAddr, Nat.zero_add, e0, e1, e2, z1, z2, wc_eq w1, f1, f2, wc_eq w2, wc_eq w3]
  refine ⟨draw_of_cls3 [8, 10] rfl ⟨?_, ?_, trivial⟩, ?_⟩
  · show Env.steady _ _ _ _ = true
    simp only [Env.steady, List.map_cons, List.map_nil, op_loadT, opd_t, get_put, reduceIte, Nat.reduceEqDiff, Option.bind_some, e1, f1, g1, j1, same_int2, same_bool, same_bytes2 (hb h), Bool.and_self, Bool.true_and, Bool.and_true]
  · show Env.steady _ _ _ _ = true
    simp only [Env.steady, List.map_cons, List.map_nil, op_loadT, opd_t, get_put, reduceIte, Nat.reduceEqDiff, Option.bind_some, e2, f2, g2, j2, same_int2, same_bool, same_bytes2 (hb h), Bool.and_self, Bool.true_and, Bool.and_true]
  exact ⟨[.bool true], by simp only [Env.results, Option.map_some, get_put, reduceIte, Nat.reduceEqDiff], _, kx3.ty, rfl⟩

theorem step3 {K : Bool} {h : Heap} {id id2 m : Nat} {o : Op5} (k : Ty K h id id2 (m + o.b.length)) (hb : ∀ h, Bytes h o.v o.b) (c1 : o.kind = 3) :
    WC env 22 [.ptr id 0 0, .ptr id2 0 0, .agg o.cells] h (fun r => ∃ h', Ty K h' id id2 m ∧ r = .ret ⟨.bool true, h', .write⟩) := by
  have kx := k.new o.cells
  have a7 := kx.a7
  obtain ⟨x, h1, h2, w1, x1, w2, kx2⟩ := tw_stall (e := o.e) (y := o.yes) (kx.less (m' := m) (by omega))
  have x2 := kx2.a7
  obtain ⟨_, ev, h3, ho3, l3, rfl⟩ := refused_any x kx2.ok
  have w3 : WC env 16 [errV x, errL x] h2 (fun o => o = .ret ⟨.bool true, h3, .write⟩) := ⟨_, ev, rfl⟩
  have kx3 := kx2.le ho3 l3
  have x3 := kx3.a7
  have y1 : (AV.agg o.cells).row = some o.cells := rfl
  have y2 : o.cells.length = 5 := rfl
  have e0 := op5_k a7
  have e1 := op5_e a7
  have e2 := op5_y a7
  have f1 := op5_e x1
  have f2 := op5_y x1
  have g1 := op5_e x2
  have g2 := op5_y x2
  have j1 := op5_e x3
  have j2 := op5_y x3
  have z1 : (o.kind == 1) = false := by simp [c1]
  have z2 : (o.kind == 2) = false := by simp [c1]
  have z3 : (o.kind == 3) = true := by simp [c1]
  refine call_body rfl rfl (.inl rfl) ?_
  simp only [a22, a22_0, a22_1, a22_2, a22_4, a22_6, a22_7, Slots.ofList, wpc_skip, wpc_ops, wpc_draw, wpc_seq, wpc_cond, wpc_block, wpc_loop, wpc_exit, wpc_scope, wpc_ret, seqQ_norm, seqQ_ret, seqQ_exit, blockQ'_norm, blockQ'_ret, blockQ'_exit, roundQ_norm, roundQ_ret, roundQ_exit, condK_true, condK_false, wpo_nil', wpo_none, wpo_tt, wpo_ff, wpo_tf, wpo_ft, opsK_c, isC_none, isC_read, isC_write, wp1_call, callK_ret, wp1_mv', wp1_bin', wp1_un', wp1_eq', wp1_extract', wp1_pick', wp1_len', wp1_load', wp1_conv', wp1_store', wp1_idxAddr', wp1_append', wp1_mkIface', wp1_alloc', rd_t, rd_c, ok_t, ok_c, put_some, put_none, get_put, reduceIte, Nat.reduceEqDiff, AV.bool.injEq, Option.some.injEq, exists_eq_left', Option.map_some, Option.bind_some, opds_nil, opds_cons, opd_t, opd_c, aBin, aInt, decide_true, decide_false, negIf, wp1_nilCheck', wp1_fieldAddr', wp1_slice, op_slice, opdo_some, opdo_none, wp1_lit, op_lit, parts_nil, parts_cons, wp1_build, op_build, wp1_box, op_box, wpl_nil', wpl_none, wpl_some, logK_c, logQ_apply, guardL_tt, guardL_ff, guardL_tf, guardL_ft, drawQ_apply, y1, y2, aFieldAddr, Nat.zero_add, e0, e1, e2, z1, z2, z3, wc_eq w1, f1, f2, wc_eq w2, wc_eq w3]
  refine ⟨draw_of_cls3 [8, 10] rfl ⟨?_, ?_, trivial⟩, ?_⟩
  · show Env.steady _ _ _ _ = true
    simp only [Env.steady, List.map_cons, List.map_nil, op_loadT, opd_t, get_put, reduceIte, Nat.reduceEqDiff, Option.bind_some, e1, f1, g1, j1, same_int2, same_bool, same_bytes2 (hb h), Bool.and_self, Bool.true_and, Bool.and_true]
  · show Env.steady _ _ _ _ = true
    simp only [Env.steady, List.map_cons, List.map_nil, op_loadT, opd_t, get_put, reduceIte, Nat.reduceEqDiff, Option.bind_some, e2, f2, g2, j2, same_int2, same_bool, same_bytes2 (hb h), Bool.and_self, Bool.true_and, Bool.and_true]
  exact ⟨[.bool true], by simp only [Env.results, Option.map_some, get_put, reduceIte, Nat.reduceEqDiff], _, kx3.ty, rfl⟩

theorem step4 {K : Bool} {h : Heap} {id id2 m : Nat} {o : Op5} (k : Ty K h id id2 (m + o.b.length)) (c1 : o.kind = 4) :
    WC env 22 [.ptr id 0 0, .ptr id2 0 0, .agg o.cells] h (fun r => ∃ h', Ty K h' id id2 m ∧ r = .ret ⟨.bool true, h', .write⟩) := by
  have kx := k.new o.cells
  have a7 := kx.a7
  obtain ⟨x, a, b, bs, h1, h2, w1, x1, w2, ha, hb, kx2⟩ := tw_read (e := o.e) (n := o.n) (kx.less (m' := m) (by omega))
  have x2 := kx2.a7
  obtain ⟨_, ev, h3, ho3, l3, rfl⟩ := refused_any x kx2.ok
  have w3 : WC env 16 [errV x, errL x] h2 (fun o => o = .ret ⟨.bool true, h3, .write⟩) := ⟨_, ev, rfl⟩
  have kx3 := kx2.le ho3 l3
  have x3 := kx3.a7
  have y1 : (AV.agg o.cells).row = some o.cells := rfl
  have y2 : o.cells.length = 5 := rfl
  obtain ⟨k1, _, b1⟩ := ha.b2s
  obtain ⟨k2, _, b2⟩ := hb.b2s
  have q1 := Go.AM.eq_self bs
  have e0 := op5_k a7
  have e1 := op5_e a7
  have e2 := op5_n a7
  have f1 := op5_e x1
  have f2 := op5_n x1
  have z1 : (o.kind == 1) = false := by simp [c1]
  have z2 : (o.kind == 2) = false := by simp [c1]
  have z3 : (o.kind == 3) = false := by simp [c1]
  have z4 : (o.kind == 4) = true := by simp [c1]
  refine call_body rfl rfl (.inl rfl) ?_
  simp only [a22, a22_0, a22_1, a22_2, a22_4, a22_6, a22_8, a22_9, a22_10, a22_11, Slots.ofList, wpc_skip, wpc_ops, wpc_draw, wpc_seq, wpc_cond, wpc_block, wpc_loop, wpc_exit, wpc_scope, wpc_ret, seqQ_norm, seqQ_ret, seqQ_exit, blockQ'_norm, blockQ'_ret, blockQ'_exit, roundQ_norm, roundQ_ret, roundQ_exit, condK_true, condK_false, wpo_nil', wpo_none, wpo_tt, wpo_ff, wpo_tf, wpo_ft, opsK_c, isC_none, isC_read, isC_write, wp1_call, callK_ret, wp1_mv', wp1_bin', wp1_un', wp1_eq', wp1_extract', wp1_pick', wp1_len', wp1_load', wp1_conv', wp1_store', wp1_idxAddr', wp1_append', wp1_mkIface', wp1_alloc', rd_t, rd_c, ok_t, ok_c, put_some, put_none, get_put, reduceIte, Nat.reduceEqDiff, AV.bool.injEq, Option.some.injEq, exists_eq_left', Option.map_some, Option.bind_some, opds_nil, opds_cons, opd_t, opd_c, aBin, aInt, decide_true, decide_false, negIf, wp1_nilCheck', wp1_fieldAddr', wp1_slice, op_slice, opdo_some, opdo_none, wp1_lit, op_lit, parts_nil, parts_cons, wp1_build, op_build, wp1_box, op_box, isC k1, isC k2, y1, y2, aFieldAddr, Nat.zero_add, e0, e1, e2, z1, z2, z3, z4, wc_eq w1, f1, f2, wc_eq w2, aExtract, ex0, ex1, b1, b2, aStr, q1, wc_eq w3, aPick]
  exact ⟨[.bool true], by simp only [Env.results, Option.map_some, get_put, reduceIte, Nat.reduceEqDiff], _, kx3.ty, rfl⟩

theorem step5 {h : Heap} {id id2 m : Nat} {o : Op5} (k : Ty false h id id2 (m + o.b.length)) (c1 : o.kind = 5) :
    WC env 22 [.ptr id 0 0, .ptr id2 0 0, .agg o.cells] h (fun r => ∃ h', Ty false h' id id2 m ∧ r = .ret ⟨.bool true, h', .write⟩) := by
  have kx := k.new o.cells
  have a7 := kx.a7
  obtain ⟨x, h1, h2, w1, x1, w2, kx2⟩ := tw_break (kx.less (m' := m) (by omega))
  have x2 := kx2.a7
  obtain ⟨_, ev, h3, ho3, l3, rfl⟩ := refused_any x kx2.ok
  have w3 : WC env 16 [errV x, errL x] h2 (fun o => o = .ret ⟨.bool true, h3, .write⟩) := ⟨_, ev, rfl⟩
  have kx3 := kx2.le ho3 l3
  have x3 := kx3.a7
  have y1 : (AV.agg o.cells).row = some o.cells := rfl
  have y2 : o.cells.length = 5 := rfl
  have e0 := op5_k a7
  have z1 : (o.kind == 1) = false := by simp [c1]
  have z2 : (o.kind == 2) = false := by simp [c1]
  have z3 : (o.kind == 3) = false := by simp [c1]
  have z4 : (o.kind == 4) = false := by simp [c1]
  have z5 : (o.kind == 5) = true := by simp [c1]
  refine call_body rfl rfl (.inl rfl) ?_
  simp only [a22, a22_0, a22_1, a22_2, a22_4, a22_6, a22_8, a22_12, a22_13, Slots.ofList, wpc_skip, wpc_ops, wpc_draw, wpc_seq, wpc_cond, wpc_block, wpc_loop, wpc_exit, wpc_scope, wpc_ret, seqQ_norm, seqQ_ret, seqQ_exit, blockQ'_norm, blockQ'_ret, blockQ'_exit, roundQ_norm, roundQ_ret, roundQ_exit, condK_true, condK_false, wpo_nil', wpo_none, wpo_tt, wpo_ff, wpo_tf, wpo_ft, opsK_c, isC_none, isC_read, isC_write, wp1_call, callK_ret, wp1_mv', wp1_bin', wp1_un', wp1_eq', wp1_extract', wp1_pick', wp1_len', wp1_load', wp1_conv', wp1_store', wp1_idxAddr', wp1_append', wp1_mkIface', wp1_alloc', rd_t, rd_c, ok_t, ok_c, put_some, put_none, get_put, reduceIte, Nat.reduceEqDiff, AV.bool.injEq, Option.some.injEq, exists_eq_left', Option.map_some, Option.bind_some, opds_nil, opds_cons, opd_t, opd_c, aBin, aInt, decide_true, decide_false, negIf, wp1_nilCheck', wp1_fieldAddr', wp1_slice, op_slice, opdo_some, opdo_none, wp1_lit, op_lit, parts_nil, parts_cons, wp1_build, op_build, wp1_box, op_box, y1, y2, aFieldAddr, Nat.zero_add, e0, z1, z2, z3, z4, z5, wc_eq w1, wc_eq w2, wc_eq w3]
  exact ⟨[.bool true], by simp only [Env.results, Option.map_some, get_put, reduceIte, Nat.reduceEqDiff], _, kx3.ty, rfl⟩

theorem step6 {h : Heap} {id id2 m : Nat} {o : Op5} (k : Ty false h id id2 (m + o.b.length)) (c1 : o.kind = 6) :
    WC env 22 [.ptr id 0 0, .ptr id2 0 0, .agg o.cells] h (fun r => ∃ h', Ty false h' id id2 m ∧ r = .ret ⟨.bool true, h', .write⟩) := by
  have kx := k.new o.cells
  have a7 := kx.a7
  obtain ⟨x, h1, h2, w1, x1, w2, kx2⟩ := tw_close (e := o.e) (kx.less (m' := m) (by omega))
  have x2 := kx2.a7
  obtain ⟨_, ev, h3, ho3, l3, rfl⟩ := refused_any x kx2.ok
  have w3 : WC env 16 [errV x, errL x] h2 (fun o => o = .ret ⟨.bool true, h3, .write⟩) := ⟨_, ev, rfl⟩
  have kx3 := kx2.le ho3 l3
  have x3 := kx3.a7
  have y1 : (AV.agg o.cells).row = some o.cells := rfl
  have y2 : o.cells.length = 5 := rfl
  have e0 := op5_k a7
  have e1 := op5_e a7
  have f1 := op5_e x1
  have g1 := op5_e x2
  have j1 := op5_e x3
  have z1 : (o.kind == 1) = false := by simp [c1]
  have z2 : (o.kind == 2) = false := by simp [c1]
  have z3 : (o.kind == 3) = false := by simp [c1]
  have z4 : (o.kind == 4) = false := by simp [c1]
  have z5 : (o.kind == 5) = false := by simp [c1]
  have z6 : (o.kind == 6) = true := by simp [c1]
  refine call_body rfl rfl (.inl rfl) ?_
  simp only [a22, a22_0, a22_1, a22_2, a22_4, a22_6, a22_8, a22_12, a22_14, a22_15, Slots.ofList, wpc_skip, wpc_ops, wpc_draw, wpc_seq, wpc_cond, wpc_block, wpc_loop, wpc_exit, wpc_scope, wpc_ret, seqQ_norm, seqQ_ret, seqQ_exit, blockQ'_norm, blockQ'_ret, blockQ'_exit, roundQ_norm, roundQ_ret, roundQ_exit, condK_true, condK_false, wpo_nil', wpo_none, wpo_tt, wpo_ff, wpo_tf, wpo_ft, opsK_c, isC_none, isC_read, isC_write, wp1_call, callK_ret, wp1_mv', wp1_bin', wp1_un', wp1_eq', wp1_extract', wp1_pick', wp1_len', wp1_load', wp1_conv', wp1_store', wp1_idxAddr', wp1_append', wp1_mkIface', wp1_alloc', rd_t, rd_c, ok_t, ok_c, put_some, put_none, get_put, reduceIte, Nat.reduceEqDiff, AV.bool.injEq, Option.some.injEq, exists_eq_left', Option.map_some, Option.bind_some, opds_nil, opds_cons, opd_t, opd_c, aBin, aInt, decide_true, decide_false, negIf, wp1_nilCheck', wp1_fieldAddr', wp1_slice, op_slice, opdo_some, opdo_none, wp1_lit, op_lit, parts_nil, parts_cons, wp1_build, op_build, wp1_box, op_box, wpl_nil', wpl_none, wpl_some, logK_c, logQ_apply, guardL_tt, guardL_ff, guardL_tf, guardL_ft, drawQ_apply, y1, y2, aFieldAddr, Nat.zero_add, e0, e1, z1, z2, z3, z4, z5, z6, wc_eq w1, f1, wc_eq w2, wc_eq w3]
  refine ⟨draw_of_cls3 [6] rfl ⟨?_, trivial⟩, ?_⟩
  · show Env.steady _ _ _ _ = true
    simp only [Env.steady, List.map_cons, List.map_nil, op_loadT, opd_t, get_put, reduceIte, Nat.reduceEqDiff, Option.bind_some, e1, f1, g1, j1, same_int2, same_bool, Bool.and_self, Bool.true_and, Bool.and_true]
  exact ⟨[.bool true], by simp only [Env.results, Option.map_some, get_put, reduceIte, Nat.reduceEqDiff], _, kx3.ty, rfl⟩

theorem step7 {K : Bool} {h : Heap} {id id2 m : Nat} {o : Op5} (k : Ty K h id id2 (m + o.b.length)) (c1 : o.kind ≠ 1) (c2 : o.kind ≠ 2) (c3 : o.kind ≠ 3) (c4 : o.kind ≠ 4) (c5 : o.kind ≠ 5) (c6 : o.kind ≠ 6) :
    WC env 22 [.ptr id 0 0, .ptr id2 0 0, .agg o.cells] h (fun r => ∃ h', Ty K h' id id2 m ∧ r = .ret ⟨.bool true, h', .write⟩) := by
  have kx := k.new o.cells
  have a7 := kx.a7
  obtain ⟨_, ev, h1, k1, rfl⟩ := states_spec kx.ty
  have w1 : WC env 23 [.ptr id 0 0, .ptr id2 0 0] (h.new o.cells) (fun o => o = .ret ⟨.bool true, h1, .write⟩) := ⟨_, ev, rfl⟩
  have y1 : (AV.agg o.cells).row = some o.cells := rfl
  have y2 : o.cells.length = 5 := rfl
  have e0 := op5_k a7
  have z1 : (o.kind == 1) = false := by simpa using c1
  have z2 : (o.kind == 2) = false := by simpa using c2
  have z3 : (o.kind == 3) = false := by simpa using c3
  have z4 : (o.kind == 4) = false := by simpa using c4
  have z5 : (o.kind == 5) = false := by simpa using c5
  have z6 : (o.kind == 6) = false := by simpa using c6
  refine call_body rfl rfl (.inl rfl) ?_
  simp only [a22, a22_0, a22_1, a22_2, a22_4, a22_6, a22_8, a22_12, a22_14, a22_16, Slots.ofList, wpc_skip, wpc_ops, wpc_draw, wpc_seq, wpc_cond, wpc_block, wpc_loop, wpc_exit, wpc_scope, wpc_ret, seqQ_norm, seqQ_ret, seqQ_exit, blockQ'_norm, blockQ'_ret, blockQ'_exit, roundQ_norm, roundQ_ret, roundQ_exit, condK_true, condK_false, wpo_nil', wpo_none, wpo_tt, wpo_ff, wpo_tf, wpo_ft, opsK_c, isC_none, isC_read, isC_write, wp1_call, callK_ret, wp1_mv', wp1_bin', wp1_un', wp1_eq', wp1_extract', wp1_pick', wp1_len', wp1_load', wp1_conv', wp1_store', wp1_idxAddr', wp1_append', wp1_mkIface', wp1_alloc', rd_t, rd_c, ok_t, ok_c, put_some, put_none, get_put, reduceIte, Nat.reduceEqDiff, AV.bool.injEq, Option.some.injEq, exists_eq_left', Option.map_some, Option.bind_some, opds_nil, opds_cons, opd_t, opd_c, aBin, aInt, decide_true, decide_false, negIf, wp1_nilCheck', wp1_fieldAddr', wp1_slice, op_slice, opdo_some, opdo_none, wp1_lit, op_lit, parts_nil, parts_cons, wp1_build, op_build, wp1_box, op_box, y1, y2, aFieldAddr, Nat.zero_add, e0, z1, z2, z3, z4, z5, z6, wc_eq w1]
  exact ⟨[.bool true], by simp only [Env.results, Option.map_some, get_put, reduceIte, Nat.reduceEqDiff], _, k1.less (by omega), rfl⟩

theorem step_spec {K : Bool} {h : Heap} {id id2 m : Nat} {o : Op5} (k : Ty K h id id2 (m + o.b.length)) (hb : ∀ h, Bytes h o.v o.b) (hK : K = true → o.kind < 5) :
    WC env 22 [.ptr id 0 0, .ptr id2 0 0, .agg o.cells] h (fun r => ∃ h', Ty K h' id id2 m ∧ r = .ret ⟨.bool true, h', .write⟩) := by
  by_cases c1 : o.kind = 1
  · exact step1 k hb c1
  by_cases c2 : o.kind = 2
  · exact step2 k hb c2
  by_cases c3 : o.kind = 3
  · exact step3 k hb c3
  by_cases c4 : o.kind = 4
  · exact step4 k c4
  by_cases c5 : o.kind = 5
  · cases K with
    | true => have := hK rfl; omega
    | false => exact step5 k c5
  by_cases c6 : o.kind = 6
  · cases K with
    | true => have := hK rfl; omega
    | false => exact step6 k c6
  exact step7 k c1 c2 c3 c4 c5 c6
end Go.St
/-
  StreamRuns answers true.
-/
set_option linter.unusedVariables false
set_option linter.unusedSimpArgs false
set_option maxRecDepth 20000
namespace Go.St
open Go.AM

theorem ty_start (K : Bool) : ∃ h1 h2 id id2, WC env 10 [] .empty (fun o => o = .ret ⟨.ptr id 0 0, h1, .write⟩) ∧ WC env 21 [] h1 (fun o => o = .ret ⟨.ptr id2 0 0, h2, .write⟩) ∧ Ty K h2 id id2 1048576 := by
  have w1 := new_spec .empty
  obtain ⟨h1, eh1⟩ : ∃ h, h = Heap.empty.new (SE 0 false .zero .zero .nils .nils .nils .nils) := ⟨_, rfl⟩
  rw [← eh1] at w1
  have ho1 : HeapOk h1 := by rw [eh1]; exact HeapOk.empty.new _
  have a1 : h1.at_ Heap.empty.next 0 = some (SE 0 false .zero .zero .nils .nils .nils .nils) := by rw [eh1]; exact at_new _
  have i1 : Heap.empty.next < h1.next := ho1.lt a1
  have w2 := rnew_spec h1
  obtain ⟨h2, eh2⟩ : ∃ h, h = h1.new (RE 0 false .zero .zero .nils .nils .nils .nils) := ⟨_, rfl⟩
  rw [← eh2] at w2
  have ho2 : HeapOk h2 := by rw [eh2]; exact ho1.new _
  have a2 : h2.at_ h1.next 0 = some (RE 0 false .zero .zero .nils .nils .nils .nils) := by rw [eh2]; exact at_new _
  have l2 := le_new ho1 (RE 0 false .zero .zero .nils .nils .nils .nils)
  rw [← eh2] at l2
  have nf : ∀ i, ¬ Foot .nils .nils .nils .nils i := fun i f => by rcases f with f | f | f | f <;> cases f
  exact ⟨h1, h2, _, _, w1, w2, _, _, _, _, _, _, _, _, _, _, _,
    ⟨ho2, ⟨l2.2 _ _ _ a1, .nils, .nils, .nils, .nils, by simp [AV.own], fun i => by simp [AV.own]⟩, ⟨a2, .nils, .nils, .nils, .nils, by simp [AV.own]⟩, by omega, nf _, nf _, fun i _ => nf i⟩,
    ⟨⟨rfl, rfl⟩, ⟨Nat.le_refl _, Nat.le_refl _⟩, fun _ => ⟨rfl, rfl⟩, ⟨Nat.le_refl _, Nat.le_refl _⟩, fun _ => rfl⟩⟩

theorem runs_loop {id id2 : Nat} {v : AV} {l : List Op5} (hv : OpsV v l) (hb : ∀ o ∈ l, ∀ h, Bytes h o.v o.b) (hsm : l.length < 1000000000000) {Q : AExit → St → Prop} :
    ∀ (f i : Nat) (h : Heap) (σ : Slots), l.length - i < f → i ≤ l.length → Ty false h id id2 (room (l.drop i)) → σ.get 0 = v → σ.get 3 = .ptr id 0 0 → σ.get 4 = .ptr id2 0 0 → σ.get 5 = .int .i64 i →
      (∀ σ' h', Ty false h' id id2 0 → σ'.get 3 = .ptr id 0 0 → σ'.get 4 = .ptr id2 0 0 → Q (.exit 0) ⟨σ', h'⟩) → WPr env a7_l9 ⟨σ, h⟩ Q := by
  intro f
  induction f with
  | zero => intro i h σ h1; omega
  | succ f ih =>
    intro i h σ hf hi k g0 g3 g4 g5 hQ
    refine wpr_round' fun b hb' => ?_
    have e0 := hv.len h
    by_cases c1 : i < l.length
    · have z0 : ((i : Int) < (l.length : Int)) = True := eq_true (by omega)
      have z1 : IntKind.wrap .i64 ((i : Int) + 1) = ((i + 1 : Nat) : Int) := wrap_nat (by omega) (by omega)
      obtain ⟨rest, e1⟩ := hv.elem c1
      have e2 := op5_load l[i] rest (h := h)
      rw [room_drop c1] at k
      have b1 := hb _ (List.getElem_mem c1)
      obtain ⟨_, ev, h1, k1, rfl⟩ := step_spec k b1 (fun h => by cases h)
      have w1 : WC env 22 [.ptr id 0 0, .ptr id2 0 0, .agg l[i].cells] h (fun o => o = .ret ⟨.bool true, h1, .write⟩) := ⟨_, ev, rfl⟩
      simp only [a7_l9, a7_5, a7_6, a7_8, wpc_skip, wpc_ops, wpc_draw, wpc_seq, wpc_cond, wpc_block, wpc_loop, wpc_exit, wpc_scope, wpc_ret, seqQ_norm, seqQ_ret, seqQ_exit, blockQ'_norm, blockQ'_ret, blockQ'_exit, roundQ_norm, roundQ_ret, roundQ_exit, condK_true, condK_false, wpo_nil', wpo_none, wpo_tt, wpo_ff, wpo_tf, wpo_ft, opsK_c, isC_none, isC_read, isC_write, wp1_call, callK_ret, wp1_mv', wp1_bin', wp1_un', wp1_eq', wp1_extract', wp1_pick', wp1_len', wp1_load', wp1_conv', wp1_store', wp1_idxAddr', wp1_append', wp1_mkIface', wp1_alloc', rd_t, rd_c, ok_t, ok_c, put_some, put_none, get_put, reduceIte, Nat.reduceEqDiff, AV.bool.injEq, Option.some.injEq, exists_eq_left', Option.map_some, Option.bind_some, opds_nil, opds_cons, opd_t, opd_c, aBin, aInt, decide_true, decide_false, negIf, wp1_nilCheck', wp1_fieldAddr', wp1_slice, op_slice, opdo_some, opdo_none, wp1_lit, op_lit, parts_nil, parts_cons, wp1_build, op_build, wp1_box, op_box, g0, g3, g4, g5, e0, z0, z1, e1, e2, wc_eq w1, aUn, Bool.not_true]
      subst hb'
      refine ih (i + 1) h1 _ (by omega) (by omega) k1 ?_ ?_ ?_ ?_ hQ
      · simp only [get_put, reduceIte, Nat.reduceEqDiff, g0]
      · simp only [get_put, reduceIte, Nat.reduceEqDiff, g3]
      · simp only [get_put, reduceIte, Nat.reduceEqDiff, g4]
      · simp only [get_put, reduceIte, Nat.reduceEqDiff]
    · have z0 : ((i : Int) < (l.length : Int)) = False := eq_false (by omega)
      simp only [a7_l9, a7_5, wpc_skip, wpc_ops, wpc_draw, wpc_seq, wpc_cond, wpc_block, wpc_loop, wpc_exit, wpc_scope, wpc_ret, seqQ_norm, seqQ_ret, seqQ_exit, blockQ'_norm, blockQ'_ret, blockQ'_exit, roundQ_norm, roundQ_ret, roundQ_exit, condK_true, condK_false, wpo_nil', wpo_none, wpo_tt, wpo_ff, wpo_tf, wpo_ft, opsK_c, isC_none, isC_read, isC_write, wp1_call, callK_ret, wp1_mv', wp1_bin', wp1_un', wp1_eq', wp1_extract', wp1_pick', wp1_len', wp1_load', wp1_conv', wp1_store', wp1_idxAddr', wp1_append', wp1_mkIface', wp1_alloc', rd_t, rd_c, ok_t, ok_c, put_some, put_none, get_put, reduceIte, Nat.reduceEqDiff, AV.bool.injEq, Option.some.injEq, exists_eq_left', Option.map_some, Option.bind_some, opds_nil, opds_cons, opd_t, opd_c, aBin, aInt, decide_true, decide_false, negIf, wp1_nilCheck', wp1_fieldAddr', wp1_slice, op_slice, opdo_some, opdo_none, wp1_lit, op_lit, parts_nil, parts_cons, wp1_build, op_build, wp1_box, op_box, g0, g5, e0, z0]
      refine hQ _ h (k.less (by omega)) ?_ ?_
      · simp only [get_put, reduceIte, Nat.reduceEqDiff, g3]
      · simp only [get_put, reduceIte, Nat.reduceEqDiff, g4]

theorem runs_spec {v : AV} {l : List Op5} (hv : OpsV v l) (hb : ∀ o ∈ l, ∀ h, Bytes h o.v o.b) (hroom : room l ≤ 1048576) (hlen : l.length ≤ 1048576) : WC env 7 [v] .empty (fun o => ∃ h', o = .ret ⟨.bool true, h', .write⟩) := by
  obtain ⟨h1, h2, id, id2, w1, w2, k⟩ := ty_start false
  refine call_body rfl rfl (.inl rfl) ?_
  simp only [a7, a7_0, a7_1, a7_2, a7_4, Slots.ofList, wpc_skip, wpc_ops, wpc_draw, wpc_seq, wpc_cond, wpc_block, wpc_loop, wpc_exit, wpc_scope, wpc_ret, seqQ_norm, seqQ_ret, seqQ_exit, blockQ'_norm, blockQ'_ret, blockQ'_exit, roundQ_norm, roundQ_ret, roundQ_exit, condK_true, condK_false, wpo_nil', wpo_none, wpo_tt, wpo_ff, wpo_tf, wpo_ft, opsK_c, isC_none, isC_read, isC_write, wp1_call, callK_ret, wp1_mv', wp1_bin', wp1_un', wp1_eq', wp1_extract', wp1_pick', wp1_len', wp1_load', wp1_conv', wp1_store', wp1_idxAddr', wp1_append', wp1_mkIface', wp1_alloc', rd_t, rd_c, ok_t, ok_c, put_some, put_none, get_put, reduceIte, Nat.reduceEqDiff, AV.bool.injEq, Option.some.injEq, exists_eq_left', Option.map_some, Option.bind_some, opds_nil, opds_cons, opd_t, opd_c, aBin, aInt, decide_true, decide_false, negIf, wp1_nilCheck', wp1_fieldAddr', wp1_slice, op_slice, opdo_some, opdo_none, wp1_lit, op_lit, parts_nil, parts_cons, wp1_build, op_build, wp1_box, op_box, wc_eq w1, wc_eq w2, aEq_ptr, aNil_ptr, wc_eq (alive_spec _), aUn, Bool.not_true, aPick]
  refine runs_loop (id := id) (id2 := id2) hv hb (by omega) (l.length + 1) 0 h2 _ (by omega) (by omega) (by simpa using k.less hroom) ?_ ?_ ?_ ?_ fun σ' h' k' p3 p4 => ?_
  · simp only [get_put, reduceIte, Nat.reduceEqDiff]
  · simp only [get_put, reduceIte, Nat.reduceEqDiff]
  · simp only [get_put, reduceIte, Nat.reduceEqDiff]
  · simp only [get_put, reduceIte, Nat.reduceEqDiff]; rfl
  · obtain ⟨_, ev, h3, k3, rfl⟩ := states_spec k'
    have w3 : WC env 23 [.ptr id 0 0, .ptr id2 0 0] h' (fun o => o = .ret ⟨.bool true, h3, .write⟩) := ⟨_, ev, rfl⟩
    simp only [a7_10, wpc_skip, wpc_ops, wpc_draw, wpc_seq, wpc_cond, wpc_block, wpc_loop, wpc_exit, wpc_scope, wpc_ret, seqQ_norm, seqQ_ret, seqQ_exit, blockQ'_norm, blockQ'_ret, blockQ'_exit, roundQ_norm, roundQ_ret, roundQ_exit, condK_true, condK_false, wpo_nil', wpo_none, wpo_tt, wpo_ff, wpo_tf, wpo_ft, opsK_c, isC_none, isC_read, isC_write, wp1_call, callK_ret, wp1_mv', wp1_bin', wp1_un', wp1_eq', wp1_extract', wp1_pick', wp1_len', wp1_load', wp1_conv', wp1_store', wp1_idxAddr', wp1_append', wp1_mkIface', wp1_alloc', rd_t, rd_c, ok_t, ok_c, put_some, put_none, get_put, reduceIte, Nat.reduceEqDiff, AV.bool.injEq, Option.some.injEq, exists_eq_left', Option.map_some, Option.bind_some, opds_nil, opds_cons, opd_t, opd_c, aBin, aInt, decide_true, decide_false, negIf, wp1_nilCheck', wp1_fieldAddr', wp1_slice, op_slice, opdo_some, opdo_none, wp1_lit, op_lit, parts_nil, parts_cons, wp1_build, op_build, wp1_box, op_box, p3, p4, wc_eq w3]
    exact ⟨[.bool true], by simp only [Env.results, Option.map_some, get_put, reduceIte, Nat.reduceEqDiff], _, rfl⟩
end Go.St
