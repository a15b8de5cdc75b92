/-
  StreamOrders answers true: the loop.
-/
import Derived.Test.YtdolfkffgcmcgaaDoorStOrders
import Derived.Test.YtdolfkffgcmcgaaDoorStOrdChk
set_option linter.unusedVariables false
set_option linter.unusedSimpArgs false
set_option maxRecDepth 20000
namespace Go.St
open Go.AM

theorem check_end {h : Heap} {σ : Slots} {Q : AExit → St → Prop} (g10 : σ.get 10 = .int .i64 ((2 : Nat) : Int)) (hQ : ∀ σ', (∀ n, n < 10 → σ'.get n = σ.get n) → Q (.exit 3) ⟨σ', h⟩) : wpc env a6_l29 ⟨σ, h⟩ Q := by
  have z0 : (((2 : Nat) : Int) < 2) = False := eq_false (by omega)
  simp only [a6_l29, a6_25, wpc_skip, wpc_ops, wpc_draw, wpc_seq, wpc_cond, wpc_block, wpc_loop, wpc_exit, wpc_scope, wpc_ret, seqQ_norm, seqQ_ret, seqQ_exit, blockQ'_norm, blockQ'_ret, blockQ'_exit, roundQ_norm, roundQ_ret, roundQ_exit, condK_true, condK_false, wpo_nil', wpo_none, wpo_tt, wpo_ff, wpo_tf, wpo_ft, opsK_c, isC_none, isC_read, isC_write, wp1_call, callK_ret, wp1_mv', wp1_bin', wp1_un', wp1_eq', wp1_extract', wp1_pick', wp1_len', wp1_load', wp1_conv', wp1_store', wp1_idxAddr', wp1_append', wp1_mkIface', wp1_alloc', rd_t, rd_c, ok_t, ok_c, put_some, put_none, get_put, reduceIte, Nat.reduceEqDiff, AV.bool.injEq, Option.some.injEq, exists_eq_left', Option.map_some, Option.bind_some, opds_nil, opds_cons, opd_t, opd_c, aBin, aInt, decide_true, decide_false, negIf, wp1_nilCheck', wp1_fieldAddr', wp1_slice, op_slice, opdo_some, opdo_none, wp1_lit, op_lit, parts_nil, parts_cons, wp1_build, op_build, wp1_box, op_box, g10, z0]
  refine hQ _ fun n hn => ?_
  simp only [get_put]
  repeat rw [if_neg (by omega)]

theorem ord_check {h : Heap} {σ : Slots} {id i4 i5 i7 m : Nat} {X : List AV} (k : Ore h id i4 i5 i7 0 m X) (g4 : σ.get 4 = .ptr i4 0 0) (g5 : σ.get 5 = .ptr i5 0 0) (g10 : σ.get 10 = .int .i64 0) {Q : AExit → St → Prop}
    (hQ : ∀ σ', (∀ n, n < 10 → σ'.get n = σ.get n) → Q (.exit 3) ⟨σ', h⟩) : WPr env a6_l29 ⟨σ, h⟩ Q := by
  obtain ⟨cl, t, o, tu, tc, ou, oc, s, s', r, r', S, S', R, R', k, l⟩ := k
  obtain ⟨x, y, x1, x2, _⟩ := l.x
  have kf := k.flip (.inl rfl)
  refine wpr_round' fun b hb => check_round (e := 0) (.inl rfl) k.a4 k.a5 k.hs'.toBytes k.hr.toBytes x2 g4 g5 g10 fun σ1 w1 s1 => ?_
  subst hb
  show WPr env _ _ _
  refine wpr_round' fun b hb => check_round (e := 1) (.inr rfl) kf.a4 kf.a5 k.hs.toBytes k.hr'.toBytes x1 (by rw [s1 4 (by omega), g4]) (by rw [s1 5 (by omega), g5]) w1 fun σ2 w2 s2 => ?_
  subst hb
  show WPr env _ _ _
  refine wpr_round' fun b hb => check_end w2 fun σ3 s3 => hQ _ fun n hn => by rw [s3 n hn, s2 n hn, s1 n hn]

/-- a call is read -/
theorem Ore.call {h : Heap} {id i4 i5 i7 m : Nat} {X : List AV} (k : Ore h id i4 i5 i7 0 m X) (o : Op5) (z : List AV) (hz : z.length = 5) :
    ∃ h', aStore (h.new z) 5 (.ptr h.next 0 0) (.agg o.cells) = some ⟨.undef, h', .write⟩ ∧ Ore h' id i4 i5 h.next 0 m o.cells := by
  obtain ⟨cl, t, oo, tu, tc, ou, oc, s, s', r, r', S, S', R, R', k, l⟩ := k
  have hat : (h.new z).at_ h.next 0 = some z := at_new _
  refine ⟨_, op5_store hz hat o, cl, t, oo, tu, tc, ou, oc, s, s', r, r', S, S', R, R', ?_, l⟩
  obtain ⟨h2, eh2⟩ : ∃ h2, h2 = (h.new z).upd h.next 0 o.cells := ⟨_, rfl⟩
  rw [← eh2]
  have c : Chg (fun i => i = h.next) h h2 := by
    rw [eh2]
    exact (le_new k.ok z).chg.trans (upd_chg rfl)
  have ho2 : HeapOk h2 := by rw [eh2]; exact (k.ok.new _).upd (at_look.1 hat) _ _
  have lid := k.ok.lt k.sr.hat
  have l4 := k.ok.lt k.a4
  have l5 := k.ok.lt k.a5
  have fl : ∀ {i}, Foot tu tc ou oc i → i < h.next := fun f => k.sr.footLt k.ok f
  have ap : ∀ {a b c d : AV} {B : List UInt8}, Acc h 1 a (B.map byteAV) → Ap i4 i5 id i7 tu tc ou oc a b c d → Ap i4 i5 id h.next tu tc ou oc a b c d := fun ha hp i e => by
    obtain ⟨q1, q2, q3, q4, q5⟩ := hp i e
    have := ha.ownLt k.ok e
    exact ⟨q1, q2, q3, by omega, q5⟩
  have ac : ∀ {a : AV} {B : List UInt8}, Acc h 1 a (B.map byteAV) → Acc h2 1 a (B.map byteAV) := fun ha => ha.chg c fun i e x => by have := ha.ownLt k.ok e; omega
  obtain ⟨n1, n2, n3, n4, n5, n6⟩ := k.ne
  exact ⟨ho2, k.sr.chg c (by omega) fun i f x => by have := fl f; omega, c.2 _ _ _ (by omega) k.a4, c.2 _ _ _ (by omega) k.a5, by rw [eh2]; exact at_upd, ac k.hs, ac k.hs', ac k.hr, ac k.hr', ⟨n1, n2, n3, by omega, by omega, by omega⟩,
    ⟨k.nf.1, k.nf.2.1, fun f => by have := fl f; omega⟩, ap k.hs k.os, ap k.hs' k.os', ap k.hr k.or_, ap k.hr' k.or'⟩

/-- ready for a call -/
def Rdy (h : Heap) (id i4 i5 m : Nat) : Prop := ∀ (o : Op5) (z : List AV), z.length = 5 → ∃ h', aStore (h.new z) 5 (.ptr h.next 0 0) (.agg o.cells) = some ⟨.undef, h', .write⟩ ∧ Ore h' id i4 i5 h.next 0 m o.cells
theorem Ore.le {h : Heap} {id i4 i5 i7 e m m' : Nat} {X : List AV} (k : Ore h id i4 i5 i7 e m X) (hm : m' ≤ m) : Ore h id i4 i5 i7 e m' X := by
  obtain ⟨cl, t, oo, tu, tc, ou, oc, s, s', r, r', S, S', R, R', k, l⟩ := k
  exact ⟨_, _, _, _, _, _, _, _, _, _, _, _, _, _, _, k, l.le hm⟩
theorem Ore.a7 {h : Heap} {id i4 i5 i7 e m : Nat} {X : List AV} (k : Ore h id i4 i5 i7 e m X) : h.at_ i7 0 = some X := by
  obtain ⟨cl, t, oo, tu, tc, ou, oc, s, s', r, r', S, S', R, R', k, l⟩ := k
  exact k.a7

theorem swi_eq : a6_l31 = (.seq (.seq (.ops a6_6) (.cond (.t 17) .skip (.exit 0))) (.seq (.block 1 (.seq (.ops a6_7) (.seq (.seq (.ops a6_8) (.cond (.t 31) (.exit 1) .skip)) (.seq (.seq (.ops a6_9) (.block 2 swi)) (.seq (.ops a6_24) (.block 3 (.loop a6_l29))))))) (.ops a6_30))) := rfl

theorem orders_loop {id i4 i5 : Nat} {v : AV} {l : List Op5} (hv : OpsV v l) (hb : ∀ o ∈ l, ∀ h, Bytes h o.v o.b) (hsm : l.length < 1000000000000) {Q : AExit → St → Prop} :
    ∀ (f i : Nat) (h : Heap) (σ : Slots), l.length - i < f → i ≤ l.length → Rdy h id i4 i5 (room (l.drop i)) → σ.get 0 = v → σ.get 3 = .ptr id 0 0 → σ.get 4 = .ptr i4 0 0 → σ.get 5 = .ptr i5 0 0 → σ.get 6 = .int .i64 i →
      (∀ σ' h', Q (.exit 0) ⟨σ', h'⟩) → WPr env a6_l31 ⟨σ, h⟩ Q := by
  intro f
  induction f with
  | zero => intro i h σ h1; omega
  | succ f ih =>
    intro i h σ hf hi k g0 g3 g4 g5 g6 hQ
    refine wpr_round' fun b hb' => ?_
    have e0 := hv.len h
    by_cases c1 : i < l.length
    · have z0 : ((i : Int) < (l.length : Int)) = True := eq_true (by omega)
      have z1 : IntKind.wrap .i64 ((i : Int) + 1) = ((i + 1 : Nat) : Int) := wrap_nat (by omega) (by omega)
      obtain ⟨rest, e1⟩ := hv.elem c1
      have e2 := op5_load l[i] rest (h := h)
      rw [room_drop c1] at k
      obtain ⟨h1, w1, k1⟩ := k l[i] [.int .i64 0, .int .i64 0, .int .i64 0, .bool false, .nils] rfl
      have b1 := hb _ (List.getElem_mem c1)
      have q1 := op5_e k1.a7
      have q2 := op5_k k1.a7
      rw [swi_eq]
      by_cases c2 : l[i].e = 0 ∨ l[i].e = 1
      · obtain ⟨e, he, hoe⟩ : ∃ e : Nat, (e = 0 ∨ e = 1) ∧ l[i].e = (e : Int) := by
          rcases c2 with c2 | c2
          · exact ⟨0, .inl rfl, c2⟩
          · exact ⟨1, .inr rfl, c2⟩
        have step : ∀ {σ2 : Slots} {Q2 : AExit → St → Prop}, (∀ n, n < 7 → σ2.get n = σ.get n) → σ2.get 7 = .ptr h.next 0 0 → (∀ σ' h', Ore h' id i4 i5 h.next 0 (room (l.drop (i + 1))) l[i].cells → (∀ n, n < 7 → σ'.get n = σ.get n) → Q2 .norm ⟨σ', h'⟩) →
            wpc env (.seq (.seq (.ops a6_9) (.block 2 swi)) (.seq (.ops a6_24) (.block 3 (.loop a6_l29)))) ⟨σ2, h1⟩ Q2 := by
          intro σ2 Q2 s2 g7 hq
          simp only [a6_9, wpc_skip, wpc_ops, wpc_draw, wpc_seq, wpc_cond, wpc_block, wpc_loop, wpc_exit, wpc_scope, wpc_ret, seqQ_norm, seqQ_ret, seqQ_exit, blockQ'_norm, blockQ'_ret, blockQ'_exit, roundQ_norm, roundQ_ret, roundQ_exit, condK_true, condK_false, wpo_nil', wpo_none, wpo_tt, wpo_ff, wpo_tf, wpo_ft, opsK_c, isC_none, isC_read, isC_write, wp1_call, callK_ret, wp1_mv', wp1_bin', wp1_un', wp1_eq', wp1_extract', wp1_pick', wp1_len', wp1_load', wp1_conv', wp1_store', wp1_idxAddr', wp1_append', wp1_mkIface', wp1_alloc', rd_t, rd_c, ok_t, ok_c, put_some, put_none, get_put, reduceIte, Nat.reduceEqDiff, AV.bool.injEq, Option.some.injEq, exists_eq_left', Option.map_some, Option.bind_some, opds_nil, opds_cons, opd_t, opd_c, aBin, aInt, decide_true, decide_false, negIf, wp1_nilCheck', wp1_fieldAddr', wp1_slice, op_slice, opdo_some, opdo_none, wp1_lit, op_lit, parts_nil, parts_cons, wp1_build, op_build, wp1_box, op_box, g7, aFieldAddr, Nat.zero_add, q2]
          refine orders_op k1 hoe he b1 ?_ ?_ ?_ ?_ ?_ fun σ3 h3 k3 s3 => ?_
          · simp only [get_put, reduceIte, Nat.reduceEqDiff]; rw [s2 3 (by omega), g3]
          · simp only [get_put, reduceIte, Nat.reduceEqDiff]; rw [s2 4 (by omega), g4]
          · simp only [get_put, reduceIte, Nat.reduceEqDiff]; rw [s2 5 (by omega), g5]
          · simp only [get_put, reduceIte, Nat.reduceEqDiff]; rw [g7]
          · simp only [get_put, reduceIte, Nat.reduceEqDiff]
          have t3 : ∀ n, n < 7 → σ3.get n = σ.get n := by
            intro n hn
            rw [s3 n (by omega)]
            simp only [get_put]
            repeat rw [if_neg (by omega)]
            exact s2 n hn
          simp only [a6_24, wpc_skip, wpc_ops, wpc_draw, wpc_seq, wpc_cond, wpc_block, wpc_loop, wpc_exit, wpc_scope, wpc_ret, seqQ_norm, seqQ_ret, seqQ_exit, blockQ'_norm, blockQ'_ret, blockQ'_exit, roundQ_norm, roundQ_ret, roundQ_exit, condK_true, condK_false, wpo_nil', wpo_none, wpo_tt, wpo_ff, wpo_tf, wpo_ft, opsK_c, isC_none, isC_read, isC_write, wp1_call, callK_ret, wp1_mv', wp1_bin', wp1_un', wp1_eq', wp1_extract', wp1_pick', wp1_len', wp1_load', wp1_conv', wp1_store', wp1_idxAddr', wp1_append', wp1_mkIface', wp1_alloc', rd_t, rd_c, ok_t, ok_c, put_some, put_none, get_put, reduceIte, Nat.reduceEqDiff, AV.bool.injEq, Option.some.injEq, exists_eq_left', Option.map_some, Option.bind_some, opds_nil, opds_cons, opd_t, opd_c, aBin, aInt, decide_true, decide_false, negIf, wp1_nilCheck', wp1_fieldAddr', wp1_slice, op_slice, opdo_some, opdo_none, wp1_lit, op_lit, parts_nil, parts_cons, wp1_build, op_build, wp1_box, op_box]
          refine ord_check k3 ?_ ?_ ?_ fun σ4 s4 => ?_
          · simp only [get_put, reduceIte, Nat.reduceEqDiff]; rw [t3 4 (by omega), g4]
          · simp only [get_put, reduceIte, Nat.reduceEqDiff]; rw [t3 5 (by omega), g5]
          · simp only [get_put, reduceIte, Nat.reduceEqDiff]
          simp only [blockQ'_exit, reduceIte]
          refine hq _ _ k3 fun n hn => ?_
          rw [s4 n (by omega)]
          simp only [get_put]
          repeat rw [if_neg (by omega)]
          exact t3 n hn
        have last : ∀ {σ2 : Slots} {h2 : Heap}, Ore h2 id i4 i5 h.next 0 (room (l.drop (i + 1))) l[i].cells → (∀ n, n < 7 → σ2.get n = σ.get n) → wpc env (.ops a6_30) ⟨σ2, h2⟩ (roundQ env b Q) := by
          intro σ2 h2 k2 s2
          have p6 : σ2.get 6 = .int .i64 i := by rw [s2 6 (by omega), g6]
          simp only [a6_30, wpc_skip, wpc_ops, wpc_draw, wpc_seq, wpc_cond, wpc_block, wpc_loop, wpc_exit, wpc_scope, wpc_ret, seqQ_norm, seqQ_ret, seqQ_exit, blockQ'_norm, blockQ'_ret, blockQ'_exit, roundQ_norm, roundQ_ret, roundQ_exit, condK_true, condK_false, wpo_nil', wpo_none, wpo_tt, wpo_ff, wpo_tf, wpo_ft, opsK_c, isC_none, isC_read, isC_write, wp1_call, callK_ret, wp1_mv', wp1_bin', wp1_un', wp1_eq', wp1_extract', wp1_pick', wp1_len', wp1_load', wp1_conv', wp1_store', wp1_idxAddr', wp1_append', wp1_mkIface', wp1_alloc', rd_t, rd_c, ok_t, ok_c, put_some, put_none, get_put, reduceIte, Nat.reduceEqDiff, AV.bool.injEq, Option.some.injEq, exists_eq_left', Option.map_some, Option.bind_some, opds_nil, opds_cons, opd_t, opd_c, aBin, aInt, decide_true, decide_false, negIf, wp1_nilCheck', wp1_fieldAddr', wp1_slice, op_slice, opdo_some, opdo_none, wp1_lit, op_lit, parts_nil, parts_cons, wp1_build, op_build, wp1_box, op_box, p6, z1]
          subst hb'
          refine ih (i + 1) h2 _ (by omega) (by omega) k2.call ?_ ?_ ?_ ?_ ?_ hQ
          · simp only [get_put, reduceIte, Nat.reduceEqDiff]; rw [s2 0 (by omega), g0]
          · simp only [get_put, reduceIte, Nat.reduceEqDiff]; rw [s2 3 (by omega), g3]
          · simp only [get_put, reduceIte, Nat.reduceEqDiff]; rw [s2 4 (by omega), g4]
          · simp only [get_put, reduceIte, Nat.reduceEqDiff]; rw [s2 5 (by omega), g5]
          · simp only [get_put, reduceIte, Nat.reduceEqDiff]
        have fin : ∀ {σ2 : Slots}, (∀ n, n < 7 → σ2.get n = σ.get n) → σ2.get 7 = .ptr h.next 0 0 → wpc env (.seq (.seq (.ops a6_9) (.block 2 swi)) (.seq (.ops a6_24) (.block 3 (.loop a6_l29)))) ⟨σ2, h1⟩ (blockQ' 1 (seqQ env (.ops a6_30) (roundQ env b Q))) :=
          fun s2 g7 => step s2 g7 fun σ' h' k' s' => last k' s'
        rcases c2 with c2 | c2
        · have q3 : aLoad h1 false 1 (.ptr h.next 0 1) = some ⟨.int .i64 0, h1, .read⟩ := by rw [← c2]; exact q1
          have z2 : ((0 : Int) != 0) = false := rfl
          rw [wpc_seq, wpc_seq, wpc_ops]
          simp only [a6_6, a6_7, a6_8, wpc_skip, wpc_ops, wpc_draw, wpc_seq, wpc_cond, wpc_block, wpc_loop, wpc_exit, wpc_scope, wpc_ret, seqQ_norm, seqQ_ret, seqQ_exit, blockQ'_norm, blockQ'_ret, blockQ'_exit, roundQ_norm, roundQ_ret, roundQ_exit, condK_true, condK_false, wpo_nil', wpo_none, wpo_tt, wpo_ff, wpo_tf, wpo_ft, opsK_c, isC_none, isC_read, isC_write, wp1_call, callK_ret, wp1_mv', wp1_bin', wp1_un', wp1_eq', wp1_extract', wp1_pick', wp1_len', wp1_load', wp1_conv', wp1_store', wp1_idxAddr', wp1_append', wp1_mkIface', wp1_alloc', rd_t, rd_c, ok_t, ok_c, put_some, put_none, get_put, reduceIte, Nat.reduceEqDiff, AV.bool.injEq, Option.some.injEq, exists_eq_left', Option.map_some, Option.bind_some, opds_nil, opds_cons, opd_t, opd_c, aBin, aInt, decide_true, decide_false, negIf, wp1_nilCheck', wp1_fieldAddr', wp1_slice, op_slice, opdo_some, opdo_none, wp1_lit, op_lit, parts_nil, parts_cons, wp1_build, op_build, wp1_box, op_box, g0, g6, e0, z0, e1, e2, w1, aFieldAddr, Nat.zero_add, q3, z2, aPick]
          refine fin (fun n hn => ?_) (by simp only [get_put, reduceIte, Nat.reduceEqDiff])
          simp only [get_put]
          repeat rw [if_neg (by omega)]
        · have q3 : aLoad h1 false 1 (.ptr h.next 0 1) = some ⟨.int .i64 1, h1, .read⟩ := by rw [← c2]; exact q1
          have z2 : ((1 : Int) != 0) = true := rfl
          have z3 : ((1 : Int) != 1) = false := rfl
          rw [wpc_seq, wpc_seq, wpc_ops]
          simp only [a6_6, a6_7, a6_8, wpc_skip, wpc_ops, wpc_draw, wpc_seq, wpc_cond, wpc_block, wpc_loop, wpc_exit, wpc_scope, wpc_ret, seqQ_norm, seqQ_ret, seqQ_exit, blockQ'_norm, blockQ'_ret, blockQ'_exit, roundQ_norm, roundQ_ret, roundQ_exit, condK_true, condK_false, wpo_nil', wpo_none, wpo_tt, wpo_ff, wpo_tf, wpo_ft, opsK_c, isC_none, isC_read, isC_write, wp1_call, callK_ret, wp1_mv', wp1_bin', wp1_un', wp1_eq', wp1_extract', wp1_pick', wp1_len', wp1_load', wp1_conv', wp1_store', wp1_idxAddr', wp1_append', wp1_mkIface', wp1_alloc', rd_t, rd_c, ok_t, ok_c, put_some, put_none, get_put, reduceIte, Nat.reduceEqDiff, AV.bool.injEq, Option.some.injEq, exists_eq_left', Option.map_some, Option.bind_some, opds_nil, opds_cons, opd_t, opd_c, aBin, aInt, decide_true, decide_false, negIf, wp1_nilCheck', wp1_fieldAddr', wp1_slice, op_slice, opdo_some, opdo_none, wp1_lit, op_lit, parts_nil, parts_cons, wp1_build, op_build, wp1_box, op_box, g0, g6, e0, z0, e1, e2, w1, aFieldAddr, Nat.zero_add, q3, z2, z3, aPick]
          refine fin (fun n hn => ?_) (by simp only [get_put, reduceIte, Nat.reduceEqDiff])
          simp only [get_put]
          repeat rw [if_neg (by omega)]
      · have z2 : (l[i].e != 0) = true := by simp only [bne_iff_ne]; exact fun x => c2 (.inl x)
        have z3 : (l[i].e != 1) = true := by simp only [bne_iff_ne]; exact fun x => c2 (.inr x)
        rw [wpc_seq, wpc_seq, wpc_ops]
        simp only [a6_6, a6_7, a6_8, a6_30, wpc_skip, wpc_ops, wpc_draw, wpc_seq, wpc_cond, wpc_block, wpc_loop, wpc_exit, wpc_scope, wpc_ret, seqQ_norm, seqQ_ret, seqQ_exit, blockQ'_norm, blockQ'_ret, blockQ'_exit, roundQ_norm, roundQ_ret, roundQ_exit, condK_true, condK_false, wpo_nil', wpo_none, wpo_tt, wpo_ff, wpo_tf, wpo_ft, opsK_c, isC_none, isC_read, isC_write, wp1_call, callK_ret, wp1_mv', wp1_bin', wp1_un', wp1_eq', wp1_extract', wp1_pick', wp1_len', wp1_load', wp1_conv', wp1_store', wp1_idxAddr', wp1_append', wp1_mkIface', wp1_alloc', rd_t, rd_c, ok_t, ok_c, put_some, put_none, get_put, reduceIte, Nat.reduceEqDiff, AV.bool.injEq, Option.some.injEq, exists_eq_left', Option.map_some, Option.bind_some, opds_nil, opds_cons, opd_t, opd_c, aBin, aInt, decide_true, decide_false, negIf, wp1_nilCheck', wp1_fieldAddr', wp1_slice, op_slice, opdo_some, opdo_none, wp1_lit, op_lit, parts_nil, parts_cons, wp1_build, op_build, wp1_box, op_box, g0, g6, e0, z0, z1, e1, e2, w1, aFieldAddr, Nat.zero_add, q1, z2, z3, aPick]
        subst hb'
        refine ih (i + 1) h1 _ (by omega) (by omega) (k1.le (by omega)).call ?_ ?_ ?_ ?_ ?_ hQ
        · simp only [get_put, reduceIte, Nat.reduceEqDiff, g0]
        · simp only [get_put, reduceIte, Nat.reduceEqDiff, g3]
        · simp only [get_put, reduceIte, Nat.reduceEqDiff, g4]
        · simp only [get_put, reduceIte, Nat.reduceEqDiff, g5]
        · simp only [get_put, reduceIte, Nat.reduceEqDiff]
    · have z0 : ((i : Int) < (l.length : Int)) = False := eq_false (by omega)
      simp only [a6_l31, a6_6, wpc_skip, wpc_ops, wpc_draw, wpc_seq, wpc_cond, wpc_block, wpc_loop, wpc_exit, wpc_scope, wpc_ret, seqQ_norm, seqQ_ret, seqQ_exit, blockQ'_norm, blockQ'_ret, blockQ'_exit, roundQ_norm, roundQ_ret, roundQ_exit, condK_true, condK_false, wpo_nil', wpo_none, wpo_tt, wpo_ff, wpo_tf, wpo_ft, opsK_c, isC_none, isC_read, isC_write, wp1_call, callK_ret, wp1_mv', wp1_bin', wp1_un', wp1_eq', wp1_extract', wp1_pick', wp1_len', wp1_load', wp1_conv', wp1_store', wp1_idxAddr', wp1_append', wp1_mkIface', wp1_alloc', rd_t, rd_c, ok_t, ok_c, put_some, put_none, get_put, reduceIte, Nat.reduceEqDiff, AV.bool.injEq, Option.some.injEq, exists_eq_left', Option.map_some, Option.bind_some, opds_nil, opds_cons, opd_t, opd_c, aBin, aInt, decide_true, decide_false, negIf, wp1_nilCheck', wp1_fieldAddr', wp1_slice, op_slice, opdo_some, opdo_none, wp1_lit, op_lit, parts_nil, parts_cons, wp1_build, op_build, wp1_box, op_box, g0, g6, e0, z0]
      exact hQ _ h

theorem orders_spec {v : AV} {l : List Op5} (hv : OpsV v l) (hb : ∀ o ∈ l, ∀ h, Bytes h o.v o.b) (hroom : room l ≤ 1048576) (hlen : l.length ≤ 1048576) : WC env 6 [v] .empty (fun o => ∃ h', o = .ret ⟨.bool true, h', .write⟩) := by
  have w1 := new_spec .empty
  obtain ⟨h1, eh1⟩ : ∃ h, h = Heap.empty.new (SE 0 false .zero .zero .nils .nils .nils .nils) := ⟨_, rfl⟩
  rw [← eh1] at w1
  have ho1 : HeapOk h1 := by rw [eh1]; exact HeapOk.empty.new _
  have a1 : h1.at_ Heap.empty.next 0 = some (SE 0 false .zero .zero .nils .nils .nils .nils) := by rw [eh1]; exact at_new _
  have i1 : Heap.empty.next < h1.next := ho1.lt a1
  obtain ⟨id, hid⟩ : ∃ id, id = Heap.empty.next := ⟨_, rfl⟩
  rw [← hid] at w1 a1 i1
  obtain ⟨h2, eh2⟩ : ∃ h, h = h1.new [.nils, .nils] := ⟨_, rfl⟩
  have ho2 : HeapOk h2 := by rw [eh2]; exact ho1.new _
  have a2 : h2.at_ h1.next 0 = some [.nils, .nils] := by rw [eh2]; exact at_new _
  have l2 := le_new ho1 [.nils, .nils]
  rw [← eh2] at l2
  obtain ⟨h3, eh3⟩ : ∃ h, h = h2.new [.nils, .nils] := ⟨_, rfl⟩
  have ho3 : HeapOk h3 := by rw [eh3]; exact ho2.new _
  have a3 : h3.at_ h2.next 0 = some [.nils, .nils] := by rw [eh3]; exact at_new _
  have l3 := le_new ho2 [.nils, .nils]
  rw [← eh3] at l3
  have i2 : h1.next < h2.next := ho2.lt a2
  have i3 : h2.next < h3.next := ho3.lt a3
  have b1 : h3.at_ id 0 = some (SE 0 false .zero .zero .nils .nils .nils .nils) := l3.2 _ _ _ (l2.2 _ _ _ a1)
  have b2 : h3.at_ h1.next 0 = some [.nils, .nils] := l3.2 _ _ _ a2
  have rdy : Rdy h3 id h1.next h2.next (room l) := by
    intro o z hz
    have hat : (h3.new z).at_ h3.next 0 = some z := at_new _
    refine ⟨_, op5_store hz hat o, false, .zero, .zero, .nils, .nils, .nils, .nils, .nils, .nils, .nils, .nils, [], [], [], [], ?_, ⟨⟨[], [], rfl, rfl, fun _ => ⟨rfl, rfl⟩⟩, ⟨Nat.le_refl _, Nat.le_refl _⟩, ⟨Nat.le_refl _, Nat.le_refl _⟩, ⟨Nat.le_refl _, Nat.le_refl _⟩, ⟨Nat.le_refl _, Nat.le_refl _⟩, by simp; omega⟩⟩
    obtain ⟨h5, eh5⟩ : ∃ h5, h5 = (h3.new z).upd h3.next 0 o.cells := ⟨_, rfl⟩
    rw [← eh5]
    have c : Chg (fun i => i = h3.next) h3 h5 := by
      rw [eh5]
      exact (le_new ho3 z).chg.trans (upd_chg rfl)
    have ho5 : HeapOk h5 := by rw [eh5]; exact (ho3.new _).upd (at_look.1 hat) _ _
    have nf : ∀ i, ¬ Foot .nils .nils .nils .nils i := fun i f => by rcases f with f | f | f | f <;> cases f
    have ap : Ap h1.next h2.next id h3.next .nils .nils .nils .nils .nils .nils .nils .nils := fun i e => by cases e
    exact ⟨ho5, ⟨c.2 _ _ _ (by omega) b1, .nils, .nils, .nils, .nils, by simp [AV.own], fun i => by simp [AV.own]⟩, c.2 _ _ _ (by omega) b2, c.2 _ _ _ (by omega) a3, by rw [eh5]; exact at_upd, .nils, .nils, .nils, .nils,
      ⟨by omega, by omega, by omega, by omega, by omega, by omega⟩, ⟨nf _, nf _, nf _⟩, ap, ap, ap, ap⟩
  refine call_body rfl rfl (.inl rfl) ?_
  simp only [a6, a6_0, a6_1, a6_2, a6_4, a6_5, Slots.ofList, wpc_skip, wpc_ops, wpc_draw, wpc_seq, wpc_cond, wpc_block, wpc_loop, wpc_exit, wpc_scope, wpc_ret, seqQ_norm, seqQ_ret, seqQ_exit, blockQ'_norm, blockQ'_ret, blockQ'_exit, roundQ_norm, roundQ_ret, roundQ_exit, condK_true, condK_false, wpo_nil', wpo_none, wpo_tt, wpo_ff, wpo_tf, wpo_ft, opsK_c, isC_none, isC_read, isC_write, wp1_call, callK_ret, wp1_mv', wp1_bin', wp1_un', wp1_eq', wp1_extract', wp1_pick', wp1_len', wp1_load', wp1_conv', wp1_store', wp1_idxAddr', wp1_append', wp1_mkIface', wp1_alloc', rd_t, rd_c, ok_t, ok_c, put_some, put_none, get_put, reduceIte, Nat.reduceEqDiff, AV.bool.injEq, Option.some.injEq, exists_eq_left', Option.map_some, Option.bind_some, opds_nil, opds_cons, opd_t, opd_c, aBin, aInt, decide_true, decide_false, negIf, wp1_nilCheck', wp1_fieldAddr', wp1_slice, op_slice, opdo_some, opdo_none, wp1_lit, op_lit, parts_nil, parts_cons, wp1_build, op_build, wp1_box, op_box, wc_eq w1, aEq_ptr, ← eh2, ← eh3]
  refine orders_loop (id := id) (i4 := h1.next) (i5 := h2.next) hv hb (by omega) (l.length + 1) 0 h3 _ (by omega) (by omega) (by simpa using rdy) ?_ ?_ ?_ ?_ ?_ fun σ' h' => ?_
  · simp only [get_put, reduceIte, Nat.reduceEqDiff]
  · simp only [get_put, reduceIte, Nat.reduceEqDiff]
  · simp only [get_put, reduceIte, Nat.reduceEqDiff]
  · simp only [get_put, reduceIte, Nat.reduceEqDiff]
  · simp only [get_put, reduceIte, Nat.reduceEqDiff]; rfl
  · simp only [a6_32, wpc_skip, wpc_ops, wpc_draw, wpc_seq, wpc_cond, wpc_block, wpc_loop, wpc_exit, wpc_scope, wpc_ret, seqQ_norm, seqQ_ret, seqQ_exit, blockQ'_norm, blockQ'_ret, blockQ'_exit, roundQ_norm, roundQ_ret, roundQ_exit, condK_true, condK_false, wpo_nil', wpo_none, wpo_tt, wpo_ff, wpo_tf, wpo_ft, opsK_c, isC_none, isC_read, isC_write, wp1_call, callK_ret, wp1_mv', wp1_bin', wp1_un', wp1_eq', wp1_extract', wp1_pick', wp1_len', wp1_load', wp1_conv', wp1_store', wp1_idxAddr', wp1_append', wp1_mkIface', wp1_alloc', rd_t, rd_c, ok_t, ok_c, put_some, put_none, get_put, reduceIte, Nat.reduceEqDiff, AV.bool.injEq, Option.some.injEq, exists_eq_left', Option.map_some, Option.bind_some, opds_nil, opds_cons, opd_t, opd_c, aBin, aInt, decide_true, decide_false, negIf, wp1_nilCheck', wp1_fieldAddr', wp1_slice, op_slice, opdo_some, opdo_none, wp1_lit, op_lit, parts_nil, parts_cons, wp1_build, op_build, wp1_box, op_box, wc_eq (alive_spec _)]
    exact ⟨[.bool true], by simp only [Env.results, Option.map_some, get_put, reduceIte, Nat.reduceEqDiff], _, rfl⟩
end Go.St
