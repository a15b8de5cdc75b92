/-
  FramePlays answers true.
-/
import Derived.Test.YtlggjdneolgkoaaDoorFdPlays
set_option linter.unusedVariables false
set_option linter.unusedSimpArgs false
set_option maxRecDepth 20000
namespace Go.Fd
open Go.AM

/-- a call as it was handed in: its kind, its bytes -/
structure Op1 where
  kind : Int
  v : AV
  b : List UInt8
def Op1.cells (o : Op1) : List AV := [.int .i64 o.kind, o.v]
def cellsOf (l : List Op1) : List AV := (l.map Op1.cells).flatten
def OpsV (v : AV) (l : List Op1) : Prop := (v = .nils ∧ l = []) ∨ ∃ full, v = .fs full l.length (cellsOf l)

theorem OpsV.len {v : AV} {l : List Op1} (k : OpsV v l) (h : Heap) : aLenOp false h v = some ⟨.int .i64 l.length, h, .none⟩ := by
  rcases k with ⟨rfl, rfl⟩ | ⟨full, rfl⟩ <;> rfl

theorem cells_drop : ∀ (l : List Op1) (i : Nat), (hi : i < l.length) → (cellsOf l).drop (i * 2) = .int .i64 l[i].kind :: l[i].v :: cellsOf (l.drop (i + 1))
  | [], i, hi => by simp at hi
  | o :: l, 0, hi => rfl
  | o :: l, i + 1, hi => by
    have := cells_drop l i (by simpa using hi)
    have e : (i + 1) * 2 = i * 2 + 1 + 1 := by omega
    rw [e]
    simpa [cellsOf, Op1.cells] using this

theorem OpsV.elem {v : AV} {l : List Op1} (k : OpsV v l) {i : Nat} (hi : i < l.length) : ∃ rest, aIdxAddr 2 v (.int .i64 i) = some (.fp (.int .i64 l[i].kind :: l[i].v :: rest)) := by
  rcases k with ⟨rfl, rfl⟩ | ⟨full, rfl⟩
  · simp at hi
  have hidx : aIndex l.length (.int .i64 i) = some i := by
    have h0 : (0 : Int) ≤ i := Int.natCast_nonneg i
    have h2 : (i : Int) < l.length := by exact_mod_cast hi
    simp [aIndex, h0, h2]
  have hd := cells_drop l i hi
  refine ⟨cellsOf (l.drop (i + 1)), ?_⟩
  rw [← hd]
  cases hc : cellsOf l with
  | nil => rw [hc] at hd; simp at hd
  | cons a t => simp only [aIdxAddr, hidx, Option.map_some]

def room (l : List Op1) : Nat := (l.map fun o => o.b.length).sum

theorem eqs_head (s : Rs) : aEq (.struct [(0, 1, false, .int), (1, 1, false, .int), (2, 1, false, .int), (3, 1, false, .int), (4, 1, false, .int), (5, 1, false, .bool)]) (.agg s.head) (.agg s.head) = some true := by
  simp [aEq, aEqs, aEqScalar, Rs.head]
theorem head_same (s : Rs) : (AV.agg s.head).same (.agg s.head) = true := by
  simp [AV.same, AV.sames, Rs.head]
theorem op_loadT {E : Env} {σ : Slots} {h : Heap} {ag : Bool} {sz : Nat} {x : Opd} : E.op σ h (.load ag sz x) = (E.opd σ x).bind (aLoad h ag sz) := rfl

/-- one call of both -/
theorem plays_op {id id2 : Nat} {s : Rs} {bs : List UInt8} {h : Heap} {σ : Slots} {v : AV} {l : List Op1} {i r : Nat} (hv : OpsV v l) (hi : i < l.length) (hb : ∀ h, Bytes h l[i].v l[i].b) (k : Both id id2 h s bs (r + l[i].b.length))
    (g1 : σ.get 1 = v) (g5 : σ.get 5 = .ptr id 0 0) (g7 : σ.get 7 = .ptr id2 0 0) (g9 : σ.get 9 = .int .i64 i) (g10 : σ.get 10 = .bool true) (g51 : σ.get 51 = .int .i64 l[i].kind) {Q : AExit → St → Prop}
    (hQ : ∀ σ' h' s' bs', Both id id2 h' s' bs' r → σ'.get 10 = .bool true → (∀ n, n < 10 → σ'.get n = σ.get n) → Q .norm ⟨σ', h'⟩) :
    wpc env (.seq (.ops a4_13) (.cond (.t 52) (.draw a4_14 a4_14b) (.seq (.ops a4_15) (.cond (.t 69) (.seq (.ops a4_16) (.seq (.ops a4_17) (.ops a4_18))) (.seq (.ops a4_19) (.cond (.t 98) (.ops a4_20) .skip)))))) ⟨σ, h⟩ Q := by
  obtain ⟨rest, e1⟩ := hv.elem hi
  have f1 : aFieldAddr 1 (.fp (.int .i64 l[i].kind :: l[i].v :: rest)) = some (.fp (l[i].v :: rest)) := rfl
  have l1 : ∀ h, aLoad h false 1 (.fp (l[i].v :: rest)) = some ⟨l[i].v, h, .none⟩ := fun h => rfl
  generalize l[i].kind = kd at *
  generalize l[i].v = bv at *
  generalize l[i].b = b at *
  have kle : ∀ {s' : Rs} {bs' : List UInt8} {h' : Heap}, Both id id2 h' s' bs' (r + b.length) → Both id id2 h' s' bs' r := fun k => ⟨k.ok, k.ne, k.pair, k.wid, k.small.1, k.small.2.1, by have := k.small.2.2; omega⟩
  by_cases c0 : kd = 0
  · subst c0
    obtain ⟨e1', e2', h1, h2, h3, s', bs', w1, w2, w3, k'⟩ := play_feed k hb
    have z0 : ((0 : Int) == 0) = true := rfl
    simp only [a4_13, a4_14, wpc_skip, wpc_ops, wpc_draw, wpc_seq, wpc_cond, wpc_block, wpc_loop, wpc_exit, wpc_scope, wpc_ret, seqQ_norm, seqQ_ret, seqQ_exit, blockQ'_norm, blockQ'_ret, blockQ'_exit, roundQ_norm, roundQ_ret, roundQ_exit, condK_true, condK_false, wpo_nil', wpo_none, wpo_some, opsK_apply, guardK_tt, guardK_ff, guardK_tf, guardK_ft, wp1_call, callK_ret, wp1_mv', wp1_bin', wp1_un', wp1_eq', wp1_extract', wp1_pick', wp1_len', wp1_load', wp1_conv', wp1_store', wp1_idxAddr', wp1_append', wp1_mkIface', wp1_alloc', rd_t, rd_c, ok_t, ok_c, put_some, put_none, get_put, reduceIte, Nat.reduceEqDiff, AV.bool.injEq, Option.some.injEq, exists_eq_left', Option.map_some, Option.bind_some, opds_nil, opds_cons, opd_t, opd_c, aBin, aInt, decide_true, decide_false, negIf, wp1_nilCheck', wp1_fieldAddr', wp1_slice, op_slice, opdo_some, opdo_none, wp1_lit, op_lit, parts_nil, parts_cons, wp1_build, op_build, wp1_box, op_box, wpl_nil', wpl_none, wpl_some, logK_apply, logQ_apply, guardL_tt, guardL_ff, guardL_tf, guardL_ft, drawQ_apply, g1, g5, g7, g9, g51, z0, e1, f1, l1, wc_eq w1, wc_eq w2, wc_eq w3]
    refine ⟨draw_of_cls rfl, hQ _ _ _ _ k' (by simp only [get_put, reduceIte]) fun n hn => ?_⟩
    simp only [get_put]
    repeat rw [if_neg (by omega)]
  have z0 : (kd == 0) = false := by simpa using c0
  by_cases c1 : kd = 1
  · subst c1
    obtain ⟨x, y, bb, f1', f2', h1, h2, h3, s', bs', xs, w1, w2, hx, hy, w3, k'⟩ := play_next k
    obtain ⟨cx, _, bx⟩ := hx.b2s
    obtain ⟨cy, _, by_⟩ := hy.b2s
    have z1 : ((1 : Int) == 1) = true := rfl
    have z2 : (xs == xs) = true := by simp
    have z3 : aEq .bool (.bool bb) (.bool bb) = some true := by simp [aEq, aEqScalar]
    simp only [a4_13, a4_15, a4_16, a4_17, a4_18, wpc_skip, wpc_ops, wpc_draw, wpc_seq, wpc_cond, wpc_block, wpc_loop, wpc_exit, wpc_scope, wpc_ret, seqQ_norm, seqQ_ret, seqQ_exit, blockQ'_norm, blockQ'_ret, blockQ'_exit, roundQ_norm, roundQ_ret, roundQ_exit, condK_true, condK_false, wpo_nil', wpo_none, wpo_some, opsK_apply, guardK_tt, guardK_ff, guardK_tf, guardK_ft, wp1_call, callK_ret, wp1_mv', wp1_bin', wp1_un', wp1_eq', wp1_extract', wp1_pick', wp1_len', wp1_load', wp1_conv', wp1_store', wp1_idxAddr', wp1_append', wp1_mkIface', wp1_alloc', rd_t, rd_c, ok_t, ok_c, put_some, put_none, get_put, reduceIte, Nat.reduceEqDiff, AV.bool.injEq, Option.some.injEq, exists_eq_left', Option.map_some, Option.bind_some, opds_nil, opds_cons, opd_t, opd_c, aBin, aInt, decide_true, decide_false, negIf, wp1_nilCheck', wp1_fieldAddr', wp1_slice, op_slice, opdo_some, opdo_none, wp1_lit, op_lit, parts_nil, parts_cons, wp1_build, op_build, wp1_box, op_box, g1, g5, g7, g9, g51, z0, z1, wc_eq w1, wc_eq w2, wc_eq w3, aExtract, ex20, ex21, ex22, bx, by_, aStr, z2, z3, aPick]
    refine hQ _ _ _ _ (kle k') (by simp only [get_put, reduceIte]) fun n hn => ?_
    simp only [get_put]
    repeat rw [if_neg (by omega)]
  have z1 : (kd == 1) = false := by simpa using c1
  by_cases c2 : kd = 2
  · subst c2
    obtain ⟨e1', e2', h1, h2, h3, s', bs', w1, w2, w3, k'⟩ := play_widen k
    have z2 : ((2 : Int) == 2) = true := rfl
    simp only [a4_13, a4_15, a4_19, a4_20, wpc_skip, wpc_ops, wpc_draw, wpc_seq, wpc_cond, wpc_block, wpc_loop, wpc_exit, wpc_scope, wpc_ret, seqQ_norm, seqQ_ret, seqQ_exit, blockQ'_norm, blockQ'_ret, blockQ'_exit, roundQ_norm, roundQ_ret, roundQ_exit, condK_true, condK_false, wpo_nil', wpo_none, wpo_some, opsK_apply, guardK_tt, guardK_ff, guardK_tf, guardK_ft, wp1_call, callK_ret, wp1_mv', wp1_bin', wp1_un', wp1_eq', wp1_extract', wp1_pick', wp1_len', wp1_load', wp1_conv', wp1_store', wp1_idxAddr', wp1_append', wp1_mkIface', wp1_alloc', rd_t, rd_c, ok_t, ok_c, put_some, put_none, get_put, reduceIte, Nat.reduceEqDiff, AV.bool.injEq, Option.some.injEq, exists_eq_left', Option.map_some, Option.bind_some, opds_nil, opds_cons, opd_t, opd_c, aBin, aInt, decide_true, decide_false, negIf, wp1_nilCheck', wp1_fieldAddr', wp1_slice, op_slice, opdo_some, opdo_none, wp1_lit, op_lit, parts_nil, parts_cons, wp1_build, op_build, wp1_box, op_box, g1, g5, g7, g9, g51, z0, z1, z2, wc_eq w1, wc_eq w2, wc_eq w3]
    refine hQ _ _ _ _ (kle k') (by simp only [get_put, reduceIte]) fun n hn => ?_
    simp only [get_put]
    repeat rw [if_neg (by omega)]
  have z2 : (kd == 2) = false := by simpa using c2
  simp only [a4_13, a4_15, a4_19, wpc_skip, wpc_ops, wpc_draw, wpc_seq, wpc_cond, wpc_block, wpc_loop, wpc_exit, wpc_scope, wpc_ret, seqQ_norm, seqQ_ret, seqQ_exit, blockQ'_norm, blockQ'_ret, blockQ'_exit, roundQ_norm, roundQ_ret, roundQ_exit, condK_true, condK_false, wpo_nil', wpo_none, wpo_some, opsK_apply, guardK_tt, guardK_ff, guardK_tf, guardK_ft, wp1_call, callK_ret, wp1_mv', wp1_bin', wp1_un', wp1_eq', wp1_extract', wp1_pick', wp1_len', wp1_load', wp1_conv', wp1_store', wp1_idxAddr', wp1_append', wp1_mkIface', wp1_alloc', rd_t, rd_c, ok_t, ok_c, put_some, put_none, get_put, reduceIte, Nat.reduceEqDiff, AV.bool.injEq, Option.some.injEq, exists_eq_left', Option.map_some, Option.bind_some, opds_nil, opds_cons, opd_t, opd_c, aBin, aInt, decide_true, decide_false, negIf, wp1_nilCheck', wp1_fieldAddr', wp1_slice, op_slice, opdo_some, opdo_none, wp1_lit, op_lit, parts_nil, parts_cons, wp1_build, op_build, wp1_box, op_box, g51, z0, z1, z2]
  refine hQ _ _ _ _ (kle k) (by simp only [get_put, reduceIte, Nat.reduceEqDiff, g10]) fun n hn => ?_
  simp only [get_put]
  repeat rw [if_neg (by omega)]

/-- the states are one -/
theorem plays_state {id id2 : Nat} {s : Rs} {bs : List UInt8} {h : Heap} {σ : Slots} {r : Nat} (k : Both id id2 h s bs r) (g5 : σ.get 5 = .ptr id 0 0) (g7 : σ.get 7 = .ptr id2 0 0) (g10 : σ.get 10 = .bool true) {Q : AExit → St → Prop}
    (hQ : ∀ σ' h', Both id id2 h' s bs r → (∀ n, n < 10 → σ'.get n = σ.get n) → Q .norm ⟨σ', h'⟩) : wpc env (.seq (.draw a4_21 a4_21b) (.cond (.t 115) (.seq (.ops a4_22) .ret) .skip)) ⟨σ, h⟩ Q := by
  have k0 := k
  obtain ⟨ho, hne, ⟨hv, hv2, kr, k2, n1, n2, dis⟩, hw, s1, s2, s3⟩ := k
  obtain ⟨o, ev, h2, ho2, hl2, rfl⟩ := state_spec ho kr.hat
  have w1 : WC env 18 [.ptr id 0 0] h (fun o => o = _) := ⟨_, ev, rfl⟩
  have ld : ∀ {h : Heap}, h.at_ id2 0 = some (s.cells hv2) → aLoad h true 6 (.ptr id2 0 0) = some ⟨.agg s.head, h, .read⟩ := by
    intro h e
    simp only [aLoad, e, Option.bind_some]; rfl
  have l1 := ld k2.hat
  have l2 := ld (hl2.2 _ _ _ k2.hat)
  simp only [a4_21, wpc_skip, wpc_ops, wpc_draw, wpc_seq, wpc_cond, wpc_block, wpc_loop, wpc_exit, wpc_scope, wpc_ret, seqQ_norm, seqQ_ret, seqQ_exit, blockQ'_norm, blockQ'_ret, blockQ'_exit, roundQ_norm, roundQ_ret, roundQ_exit, condK_true, condK_false, wpo_nil', wpo_none, wpo_some, opsK_apply, guardK_tt, guardK_ff, guardK_tf, guardK_ft, wp1_call, callK_ret, wp1_mv', wp1_bin', wp1_un', wp1_eq', wp1_extract', wp1_pick', wp1_len', wp1_load', wp1_conv', wp1_store', wp1_idxAddr', wp1_append', wp1_mkIface', wp1_alloc', rd_t, rd_c, ok_t, ok_c, put_some, put_none, get_put, reduceIte, Nat.reduceEqDiff, AV.bool.injEq, Option.some.injEq, exists_eq_left', Option.map_some, Option.bind_some, opds_nil, opds_cons, opd_t, opd_c, aBin, aInt, decide_true, decide_false, negIf, wp1_nilCheck', wp1_fieldAddr', wp1_slice, op_slice, opdo_some, opdo_none, wp1_lit, op_lit, parts_nil, parts_cons, wp1_build, op_build, wp1_box, op_box, wpl_nil', wpl_none, wpl_some, logK_apply, logQ_apply, guardL_tt, guardL_ff, guardL_tf, guardL_ft, drawQ_apply, g5, g7, g10, aUn, Bool.not_true, wc_eq w1, aNil_ptr, aFieldAddr, Nat.add_zero, l2, eqs_head, aPick]
  refine ⟨draw_of_cls2 rfl ⟨trivial, trivial, trivial, trivial, trivial, trivial, trivial, trivial, ?_, trivial, trivial, trivial⟩, hQ _ _ (k0.le hl2 ho2) fun n hn => ?_⟩
  · simp only [readOk, Env.steady, List.map_cons, List.map_nil, op_loadT, opd_t, get_put, reduceIte, Nat.reduceEqDiff, Option.bind_some, l1, l2, head_same, Bool.and_self, Bool.true_and, Bool.and_true]
  · simp only [get_put]
    repeat rw [if_neg (by omega)]

theorem plays_loop {id id2 : Nat} {v : AV} {l : List Op1} (hv : OpsV v l) (hb : ∀ o ∈ l, ∀ h, Bytes h o.v o.b) (hsm : l.length < 1000000000000) {Q : AExit → St → Prop} :
    ∀ (f i : Nat) (s : Rs) (bs : List UInt8) (h : Heap) (σ : Slots), l.length - i < f → i ≤ l.length → Both id id2 h s bs (room (l.drop i)) → σ.get 1 = v → σ.get 5 = .ptr id 0 0 → σ.get 7 = .ptr id2 0 0 → σ.get 9 = .int .i64 i →
      (∀ σ' h', Q (.exit 0) ⟨σ', h'⟩) → WPr env a4_l24 ⟨σ, h⟩ Q := by
  intro f
  induction f with
  | zero => intro i s bs h σ h1; omega
  | succ f ih =>
    intro i s bs h σ hf hi k g1 g5 g7 g9 hQ
    refine wpr_round' fun b hb' => ?_
    have e0 := hv.len h
    by_cases c1 : i < l.length
    · have z0 : ((i : Int) < (l.length : Int)) = True := eq_true (by omega)
      have z1 : IntKind.wrap .i64 ((i : Int) + 1) = ((i + 1 : Nat) : Int) := wrap_nat (by omega) (by omega)
      obtain ⟨rest, e1⟩ := hv.elem c1
      have f0 : aFieldAddr 0 (.fp (.int .i64 l[i].kind :: l[i].v :: rest)) = some (.fp (.int .i64 l[i].kind :: l[i].v :: rest)) := rfl
      have l0 : aLoad h false 1 (.fp (.int .i64 l[i].kind :: l[i].v :: rest)) = some ⟨.int .i64 l[i].kind, h, .none⟩ := rfl
      have hroom : room (l.drop i) = room (l.drop (i + 1)) + l[i].b.length := by
        rw [List.drop_eq_getElem_cons c1]
        simp only [room, List.map_cons, List.sum_cons]
        omega
      rw [hroom] at k
      rw [a4_l24]
      simp only [a4_10, a4_11, a4_12, wpc_skip, wpc_ops, wpc_draw, wpc_seq, wpc_cond, wpc_block, wpc_loop, wpc_exit, wpc_scope, wpc_ret, seqQ_norm, seqQ_ret, seqQ_exit, blockQ'_norm, blockQ'_ret, blockQ'_exit, roundQ_norm, roundQ_ret, roundQ_exit, condK_true, condK_false, wpo_nil', wpo_none, wpo_some, opsK_apply, guardK_tt, guardK_ff, guardK_tf, guardK_ft, wp1_call, callK_ret, wp1_mv', wp1_bin', wp1_un', wp1_eq', wp1_extract', wp1_pick', wp1_len', wp1_load', wp1_conv', wp1_store', wp1_idxAddr', wp1_append', wp1_mkIface', wp1_alloc', rd_t, rd_c, ok_t, ok_c, put_some, put_none, get_put, reduceIte, Nat.reduceEqDiff, AV.bool.injEq, Option.some.injEq, exists_eq_left', Option.map_some, Option.bind_some, opds_nil, opds_cons, opd_t, opd_c, aBin, aInt, decide_true, decide_false, negIf, wp1_nilCheck', wp1_fieldAddr', wp1_slice, op_slice, opdo_some, opdo_none, wp1_lit, op_lit, parts_nil, parts_cons, wp1_build, op_build, wp1_box, op_box, g1, g5, g7, g9, e0, z0, e1, f0, l0]
      refine plays_op (σ := _) hv c1 (hb _ (List.getElem_mem c1)) k ?_ ?_ ?_ ?_ ?_ ?_ fun σ1 h1 s1 bs1 k1 q10 q => ?_
      · simp only [get_put, reduceIte, Nat.reduceEqDiff, g1]
      · simp only [get_put, reduceIte, Nat.reduceEqDiff, g5]
      · simp only [get_put, reduceIte, Nat.reduceEqDiff, g7]
      · simp only [get_put, reduceIte, Nat.reduceEqDiff, g9]
      · simp only [get_put, reduceIte, Nat.reduceEqDiff]
      · simp only [get_put, reduceIte, Nat.reduceEqDiff]
      have q' : ∀ n, n < 10 → σ1.get n = σ.get n := by
        intro n hn
        rw [q n hn]
        simp only [get_put]
        repeat rw [if_neg (by omega)]
      simp only [blockQ'_norm, seqQ_norm]
      refine plays_state k1 (by rw [q' 5 (by omega), g5]) (by rw [q' 7 (by omega), g7]) q10 fun σ2 h2 k2 p => ?_
      have p' : ∀ n, n < 10 → σ2.get n = σ.get n := fun n hn => by rw [p n hn, q' n hn]
      have p9 : σ2.get 9 = .int .i64 i := by rw [p' 9 (by omega), g9]
      simp only [a4_23, wpc_skip, wpc_ops, wpc_draw, wpc_seq, wpc_cond, wpc_block, wpc_loop, wpc_exit, wpc_scope, wpc_ret, seqQ_norm, seqQ_ret, seqQ_exit, blockQ'_norm, blockQ'_ret, blockQ'_exit, roundQ_norm, roundQ_ret, roundQ_exit, condK_true, condK_false, wpo_nil', wpo_none, wpo_some, opsK_apply, guardK_tt, guardK_ff, guardK_tf, guardK_ft, wp1_call, callK_ret, wp1_mv', wp1_bin', wp1_un', wp1_eq', wp1_extract', wp1_pick', wp1_len', wp1_load', wp1_conv', wp1_store', wp1_idxAddr', wp1_append', wp1_mkIface', wp1_alloc', rd_t, rd_c, ok_t, ok_c, put_some, put_none, get_put, reduceIte, Nat.reduceEqDiff, AV.bool.injEq, Option.some.injEq, exists_eq_left', Option.map_some, Option.bind_some, opds_nil, opds_cons, opd_t, opd_c, aBin, aInt, decide_true, decide_false, negIf, wp1_nilCheck', wp1_fieldAddr', wp1_slice, op_slice, opdo_some, opdo_none, wp1_lit, op_lit, parts_nil, parts_cons, wp1_build, op_build, wp1_box, op_box, p9, z1]
      subst hb'
      refine ih (i + 1) s1 bs1 h2 _ (by omega) (by omega) k2 ?_ ?_ ?_ ?_ hQ
      · simp only [get_put, reduceIte, Nat.reduceEqDiff]; rw [p' 1 (by omega), g1]
      · simp only [get_put, reduceIte, Nat.reduceEqDiff]; rw [p' 5 (by omega), g5]
      · simp only [get_put, reduceIte, Nat.reduceEqDiff]; rw [p' 7 (by omega), g7]
      · simp only [get_put, reduceIte, Nat.reduceEqDiff]
    · have z0 : ((i : Int) < (l.length : Int)) = False := eq_false (by omega)
      simp only [a4_l24, a4_10, wpc_skip, wpc_ops, wpc_draw, wpc_seq, wpc_cond, wpc_block, wpc_loop, wpc_exit, wpc_scope, wpc_ret, seqQ_norm, seqQ_ret, seqQ_exit, blockQ'_norm, blockQ'_ret, blockQ'_exit, roundQ_norm, roundQ_ret, roundQ_exit, condK_true, condK_false, wpo_nil', wpo_none, wpo_some, opsK_apply, guardK_tt, guardK_ff, guardK_tf, guardK_ft, wp1_call, callK_ret, wp1_mv', wp1_bin', wp1_un', wp1_eq', wp1_extract', wp1_pick', wp1_len', wp1_load', wp1_conv', wp1_store', wp1_idxAddr', wp1_append', wp1_mkIface', wp1_alloc', rd_t, rd_c, ok_t, ok_c, put_some, put_none, get_put, reduceIte, Nat.reduceEqDiff, AV.bool.injEq, Option.some.injEq, exists_eq_left', Option.map_some, Option.bind_some, opds_nil, opds_cons, opd_t, opd_c, aBin, aInt, decide_true, decide_false, negIf, wp1_nilCheck', wp1_fieldAddr', wp1_slice, op_slice, opdo_some, opdo_none, wp1_lit, op_lit, parts_nil, parts_cons, wp1_build, op_build, wp1_box, op_box, g1, g9, e0, z0]
      exact hQ _ h

theorem plays_spec {w : Int} {v : AV} {l : List Op1} (hv : OpsV v l) (hb : ∀ o ∈ l, ∀ h, Bytes h o.v o.b) (hroom : room l ≤ 1048576) (hlen : l.length ≤ 1048576) : WC env 4 [.int .i64 w, v] .empty (fun o => ∃ h', o = .ret ⟨.bool true, h', .write⟩) := by
  by_cases hw : w = 2 ∨ w = 4
  · obtain ⟨n, hn, rfl⟩ : ∃ n : Nat, (n = 2 ∨ n = 4) ∧ w = n := by
      rcases hw with rfl | rfl
      · exact ⟨2, .inl rfl, rfl⟩
      · exact ⟨4, .inr rfl, rfl⟩
    obtain ⟨h1, eh1⟩ : ∃ h, h = Heap.empty.new ((Rs.mk n 0 0 0 0 false).cells .nils) := ⟨_, rfl⟩
    have w1 := new_spec hn .empty
    rw [← eh1] at w1
    have ho1 : HeapOk h1 := by rw [eh1]; exact HeapOk.empty.new _
    have w2 := rnew_spec hn h1
    obtain ⟨h2, eh2⟩ : ∃ h, h = h1.new ((Rs.mk n 0 0 0 0 false).cells .nils) := ⟨_, rfl⟩
    rw [← eh2] at w2
    have ho2 : HeapOk h2 := by rw [eh2]; exact ho1.new _
    have a1 : h1.at_ Heap.empty.next 0 = some ((Rs.mk n 0 0 0 0 false).cells .nils) := by rw [eh1]; exact at_new _
    have a2 : h2.at_ h1.next 0 = some ((Rs.mk n 0 0 0 0 false).cells .nils) := by rw [eh2]; exact at_new _
    have a3' : h2.at_ Heap.empty.next 0 = some ((Rs.mk n 0 0 0 0 false).cells .nils) := by rw [eh2]; exact (le_new ho1 _).2 _ _ _ a1
    have hlt : Heap.empty.next < h1.next := ho1.lt a1
    have k : Both Heap.empty.next h1.next h2 ⟨n, 0, 0, 0, 0, false⟩ [] (room (l.drop 0)) :=
      ⟨ho2, by omega, ⟨.nils, .nils, ⟨a3', .nils, by simp [AV.own], rfl⟩, ⟨a2, .nils, by simp [AV.own], rfl⟩, by simp [AV.own], by simp [AV.own], fun i e => by cases e⟩, hn, Nat.le_refl _, Nat.le_refl _, by simpa using hroom⟩
    have y1 : aEq .slice .nils .nils = some true := rfl
    have y2 : aEq .ptr (.ptr Heap.empty.next 0 0) .nilp = some false := rfl
    refine call_body rfl rfl (.inl rfl) ?_
    simp only [a4, a4_0, a4_1, a4_2, a4_3, a4_5, a4_7, a4_9, Slots.ofList, wpc_skip, wpc_ops, wpc_draw, wpc_seq, wpc_cond, wpc_block, wpc_loop, wpc_exit, wpc_scope, wpc_ret, seqQ_norm, seqQ_ret, seqQ_exit, blockQ'_norm, blockQ'_ret, blockQ'_exit, roundQ_norm, roundQ_ret, roundQ_exit, condK_true, condK_false, wpo_nil', wpo_none, wpo_some, opsK_apply, guardK_tt, guardK_ff, guardK_tf, guardK_ft, wp1_call, callK_ret, wp1_mv', wp1_bin', wp1_un', wp1_eq', wp1_extract', wp1_pick', wp1_len', wp1_load', wp1_conv', wp1_store', wp1_idxAddr', wp1_append', wp1_mkIface', wp1_alloc', rd_t, rd_c, ok_t, ok_c, put_some, put_none, get_put, reduceIte, Nat.reduceEqDiff, AV.bool.injEq, Option.some.injEq, exists_eq_left', Option.map_some, Option.bind_some, opds_nil, opds_cons, opd_t, opd_c, aBin, aInt, decide_true, decide_false, negIf, wp1_nilCheck', wp1_fieldAddr', wp1_slice, op_slice, opdo_some, opdo_none, wp1_lit, op_lit, parts_nil, parts_cons, wp1_build, op_build, wp1_box, op_box, wc_eq w1, wc_eq w2, aExtract, ex0, ex1, wc_eq (refused_ok _), wc_eq (awake_spec _), aUn, Bool.not_true, aPick, y1, y2]
    refine plays_loop hv hb (by omega) (l.length + 1) 0 _ _ h2 _ (by omega) (by omega) k ?_ ?_ ?_ ?_ fun σ' h' => ?_
    · simp only [get_put, reduceIte, Nat.reduceEqDiff]
    · simp only [get_put, reduceIte, Nat.reduceEqDiff]
    · simp only [get_put, reduceIte, Nat.reduceEqDiff]
    · simp only [get_put, reduceIte, Nat.reduceEqDiff]; rfl
    · simp only [a4_25, wpc_skip, wpc_ops, wpc_draw, wpc_seq, wpc_cond, wpc_block, wpc_loop, wpc_exit, wpc_scope, wpc_ret, seqQ_norm, seqQ_ret, seqQ_exit, blockQ'_norm, blockQ'_ret, blockQ'_exit, roundQ_norm, roundQ_ret, roundQ_exit, condK_true, condK_false, wpo_nil', wpo_none, wpo_some, opsK_apply, guardK_tt, guardK_ff, guardK_tf, guardK_ft, wp1_call, callK_ret, wp1_mv', wp1_bin', wp1_un', wp1_eq', wp1_extract', wp1_pick', wp1_len', wp1_load', wp1_conv', wp1_store', wp1_idxAddr', wp1_append', wp1_mkIface', wp1_alloc', rd_t, rd_c, ok_t, ok_c, put_some, put_none, get_put, reduceIte, Nat.reduceEqDiff, AV.bool.injEq, Option.some.injEq, exists_eq_left', Option.map_some, Option.bind_some, opds_nil, opds_cons, opd_t, opd_c, aBin, aInt, decide_true, decide_false, negIf, wp1_nilCheck', wp1_fieldAddr', wp1_slice, op_slice, opdo_some, opdo_none, wp1_lit, op_lit, parts_nil, parts_cons, wp1_build, op_build, wp1_box, op_box]
      exact ⟨[.bool true], by simp only [Env.results, Option.map_some, get_put, reduceIte, Nat.reduceEqDiff], _, rfl⟩
  · have h2 : w ≠ 2 := fun e => hw (.inl e)
    have h4 : w ≠ 4 := fun e => hw (.inr e)
    have w1 := new_bad h2 h4 .empty
    have w2 := rnew_bad h2 h4 .empty
    obtain ⟨o, ev, h3, ho3, hl3, rfl⟩ := refused_hit (l := [102, 114, 97, 109, 101]) (a := 0) (c := 1) HeapOk.empty
    have w3 : WC env 8 [faultV 0 1, linkV [102, 114, 97, 109, 101] 0 1] .empty (fun o => o = _) := ⟨_, ev, rfl⟩
    have y1 : aEq .slice (linkV [102, 114, 97, 109, 101] 0 1) .nils = some false := rfl
    have y2 : aEq .ptr .nilp .nilp = some true := rfl
    refine call_body rfl rfl (.inl rfl) ?_
    simp only [a4, a4_0, a4_1, a4_2, a4_3, a4_5, a4_6, Slots.ofList, wpc_skip, wpc_ops, wpc_draw, wpc_seq, wpc_cond, wpc_block, wpc_loop, wpc_exit, wpc_scope, wpc_ret, seqQ_norm, seqQ_ret, seqQ_exit, blockQ'_norm, blockQ'_ret, blockQ'_exit, roundQ_norm, roundQ_ret, roundQ_exit, condK_true, condK_false, wpo_nil', wpo_none, wpo_some, opsK_apply, guardK_tt, guardK_ff, guardK_tf, guardK_ft, wp1_call, callK_ret, wp1_mv', wp1_bin', wp1_un', wp1_eq', wp1_extract', wp1_pick', wp1_len', wp1_load', wp1_conv', wp1_store', wp1_idxAddr', wp1_append', wp1_mkIface', wp1_alloc', rd_t, rd_c, ok_t, ok_c, put_some, put_none, get_put, reduceIte, Nat.reduceEqDiff, AV.bool.injEq, Option.some.injEq, exists_eq_left', Option.map_some, Option.bind_some, opds_nil, opds_cons, opd_t, opd_c, aBin, aInt, decide_true, decide_false, negIf, wp1_nilCheck', wp1_fieldAddr', wp1_slice, op_slice, opdo_some, opdo_none, wp1_lit, op_lit, parts_nil, parts_cons, wp1_build, op_build, wp1_box, op_box, wc_eq w1, wc_eq w2, wc_eq w3, aExtract, ex0, ex1, wc_eq (awake_spec _), aUn, Bool.not_true, Bool.not_false, aPick, y1, y2]
    exact ⟨[.bool true], by simp only [Env.results, Option.map_some, get_put, reduceIte, Nat.reduceEqDiff], _, rfl⟩
end Go.Fd
