/-
  Package heddleref05: what is moved.
-/
import Derived.Test.YtdolfkffgcmcgaaDoorStRef
import Derived.Test.YtdolfkffgcmcgaaDoorAmWpk
set_option linter.unusedVariables false
set_option linter.unusedSimpArgs false
set_option maxRecDepth 20000
namespace Go.St
open Go.AM

theorem sames_bytes : ∀ bs : List UInt8, AV.sames (bs.map byteAV) (bs.map byteAV) = true
  | [] => by simp [AV.sames]
  | b :: bs => by simp [AV.sames, AV.same, byteAV, sames_bytes bs]
theorem same_of_bytes {h : Heap} {v : AV} {bs : List UInt8} (k : Bytes h v bs) : v.same v = true := by
  cases k with
  | nils => simp [AV.same]
  | fs full => simp [AV.same, sames_bytes]
  | sl id gen off cap cs _ hat hle hc hcap => simp [AV.same]

theorem rmv0 {h : Heap} {id e n : Nat} {cl : Bool} {t o : Sd} {tu tc ou oc : AV} {σ : Slots} (ho : HeapOk h) (k : Rq h id e cl t o tu tc ou oc) (he : e = 0 ∨ e = 1) (hn : n ≤ t.u.length) (hu : t.u.length + o.c.length < 1000000000000)
    (g0 : σ.get 0 = .ptr id 0 0) (g1 : σ.get 1 = .int .i64 e) (g2 : σ.get 2 = .int .i64 n) {Q : AExit → St → Prop}
    (hQ : ∀ σ' h' oc', HeapOk h' → Rq h' id e cl t { o with c := o.c ++ t.u.take n } tu tc ou oc' → Chg (fun i => i = id) h h' → (∀ i, Foot tu tc ou oc' i → Foot tu tc ou oc i ∨ h.next ≤ i) → (∀ n, n < 3 → σ'.get n = σ.get n) → Q .norm ⟨σ', h'⟩) :
    wpc env (.draw a44_0 a44_0b) ⟨σ, h⟩ Q := by
  have hid := ho.lt k.hat
  have l0 := re_oc he k.hat
  obtain ⟨x, h1, c1, ha1, hacc1, hlen1, hle1, ho1, hown1, hne1⟩ := append_own ho k.boc (by omega)
  have hat1 := hle1.2 _ _ _ k.hat
  have l1 := re_u he hat1
  have c01 : Chg (fun i => i = id) h h1 := hle1.chg
  obtain ⟨v1, sl1, b1⟩ := (k.btu.chg c01 fun i e e2 => k.nid.1 (by rw [e, e2])).to (kd := .i64) hn
  obtain ⟨cc, hcn, hc⟩ := b1.cells
  obtain ⟨y, h2, c2, ha2, hacc2, hle2, ho2, hown2, hlen2⟩ := hacc1.append ho1 (bt := 1) (by omega) hlen1 b1.len hc (by simp) (by simp; omega) (by simp; omega)
  rw [← List.map_append] at hacc2
  have xid : x.own ≠ some id := fun e => by have := hown1 _ e; omega
  have hat2 : h2.at_ id 0 = some (RE e cl t o tu tc ou oc) := hle2.2 _ _ _ xid hat1
  have yown : ∀ i, y.own = some i → h.next ≤ i := fun i e => by
    rcases hown2 i e with e | e
    · exact (hown1 i e).1
    · have := hle1.1; omega
  have t0 := rs_oc he hat2 hacc2.row
  obtain ⟨h3, eh3⟩ : ∃ h3, h3 = h2.upd id 0 (RE e cl t o tu tc ou y) := ⟨_, rfl⟩
  rw [← eh3] at t0
  have ho3 : HeapOk h3 := by rw [eh3]; exact ho2.upd (at_look.1 hat2) _ _
  have hat3 : h3.at_ id 0 = some (RE e cl t o tu tc ou y) := by rw [eh3]; exact at_upd
  have c12 : Chg (fun i => i = id) h h2 := ⟨Nat.le_trans hle1.1 hle2.1, fun i g cs hne e => hle2.2 i g cs (fun e2 => by have := hown1 _ e2; have := ho.lt e; omega) (hle1.2 _ _ _ e)⟩
  have c23 : Chg (fun i => i = id) h2 h3 := by rw [eh3]; exact upd_chg rfl
  have c03 := c12.trans c23
  have yid : y.own ≠ some id := fun e => by have := yown _ e; omega
  obtain ⟨k3, f3⟩ := k.put ho c03 (cl' := cl) (t' := t) (o' := { o with c := o.c ++ t.u.take n }) (tu' := tu) (tc' := tc) (ou' := ou) (oc' := y) hat3 (.inl ⟨rfl, rfl⟩) (.inl ⟨rfl, rfl⟩) (.inl ⟨rfl, rfl⟩) (.inr ⟨hacc2.toBytes.chg c23 fun i e e2 => yid (by rw [e, e2]), yown⟩)
  have m0 := re_u he k.hat
  have m2 := re_u he hat2
  have m3 := re_u he hat3
  have sm := same_of_bytes k.btu
  rw [Nat.zero_add] at l1 m0 m2 m3
  simp only [a44_0, wpc_skip, wpc_ops, wpc_draw, wpc_seq, wpc_cond, wpc_block, wpc_loop, wpc_exit, wpc_scope, wpc_ret, seqQ_norm, seqQ_ret, seqQ_exit, blockQ'_norm, blockQ'_ret, blockQ'_exit, roundQ_norm, roundQ_ret, roundQ_exit, condK_true, condK_false, wpo_nil', wpo_none, wpo_tt, wpo_ff, wpo_tf, wpo_ft, opsK_c, isC_none, isC_read, isC_write, wp1_call, callK_ret, wp1_mv', wp1_bin', wp1_un', wp1_eq', wp1_extract', wp1_pick', wp1_len', wp1_load', wp1_conv', wp1_store', wp1_idxAddr', wp1_append', wp1_mkIface', wp1_alloc', rd_t, rd_c, ok_t, ok_c, put_some, put_none, get_put, reduceIte, Nat.reduceEqDiff, AV.bool.injEq, Option.some.injEq, exists_eq_left', Option.map_some, Option.bind_some, opds_nil, opds_cons, opd_t, opd_c, aBin, aInt, decide_true, decide_false, negIf, wp1_nilCheck', wp1_fieldAddr', wp1_slice, op_slice, opdo_some, opdo_none, wp1_lit, op_lit, parts_nil, parts_cons, wp1_build, op_build, wp1_box, op_box, wpl_nil', wpl_none, wpl_some, logK_c, logQ_apply, guardL_tt, guardL_ff, guardL_tf, guardL_ft, drawQ_apply, isC c1, isC c2, wp1_idxAddrArr, op_idxAddrArr, aNil_ptr, aFieldAddr, Nat.zero_add, g0, g1, g2, ri_this he, ri_other he, sub_end he, aFill, List.length_nil, Nat.mul_one, l0, ha1, l1, sl1, ha2, t0]
  refine ⟨draw_of_cls3 [17] (by cases c1 <;> cases c2 <;> rfl) ⟨?_, trivial⟩, hQ _ _ _ ho3 k3 c03 f3 fun n hn => ?_⟩
  · show Env.steady _ _ _ _ = true
    simp only [Env.steady, List.map_cons, List.map_nil, op_loadT, opd_t, get_put, reduceIte, Nat.reduceEqDiff, Option.bind_some, l1, m0, m2, m3, sm, Bool.and_self, Bool.true_and, Bool.and_true]
  · simp only [get_put]
    repeat rw [if_neg (by omega)]
theorem rmv1 {h : Heap} {id e n : Nat} {cl : Bool} {t o : Sd} {tu tc ou oc : AV} {σ : Slots} (ho : HeapOk h) (k : Rq h id e cl t o tu tc ou oc) (he : e = 0 ∨ e = 1) (hn : n ≤ t.u.length) (hu : t.u.length < 1000000000000)
    (g0 : σ.get 0 = .ptr id 0 0) (g1 : σ.get 1 = .int .i64 e) (g2 : σ.get 2 = .int .i64 n) {Q : AExit → St → Prop}
    (hQ : ∀ σ' h' tu', HeapOk h' → Rq h' id e cl { t with u := t.u.drop n } o tu' tc ou oc → Chg (fun i => i = id) h h' → (∀ i, Foot tu' tc ou oc i → Foot tu tc ou oc i ∨ h.next ≤ i) → (∀ n, n < 3 → σ'.get n = σ.get n) → Q .norm ⟨σ', h'⟩) :
    wpc env (.draw a44_1 a44_1b) ⟨σ, h⟩ Q := by
  have hid := ho.lt k.hat
  have l0 := re_u he k.hat
  rw [Nat.zero_add] at l0
  obtain ⟨v1, sl1, b1⟩ := k.btu.from (kd := .i64) hn
  obtain ⟨x, h1, c1, ha1, hacc1, hlen1, hle1, ho1, hown1, hne1⟩ := append_own ho b1 (by simp; omega)
  have hat1 := hle1.2 _ _ _ k.hat
  have xid : x.own ≠ some id := fun e => by have := hown1 _ e; omega
  have t0 := rs_u he hat1 hacc1.row
  rw [Nat.zero_add] at t0
  obtain ⟨h3, eh3⟩ : ∃ h3, h3 = h1.upd id 0 (RE e cl t o x tc ou oc) := ⟨_, rfl⟩
  rw [← eh3] at t0
  have ho3 : HeapOk h3 := by rw [eh3]; exact ho1.upd (at_look.1 hat1) _ _
  have c01 : Chg (fun i => i = id) h h1 := hle1.chg
  have c13 : Chg (fun i => i = id) h1 h3 := by rw [eh3]; exact upd_chg rfl
  have c03 := c01.trans c13
  obtain ⟨k3, f3⟩ := k.put ho c03 (cl' := cl) (t' := { t with u := t.u.drop n }) (o' := o) (tu' := x) (tc' := tc) (ou' := ou) (oc' := oc) (by rw [eh3]; exact at_upd) (.inr ⟨hacc1.toBytes.chg c13 fun i e e2 => xid (by rw [e, e2]), fun i e => (hown1 i e).1⟩) (.inl ⟨rfl, rfl⟩) (.inl ⟨rfl, rfl⟩) (.inl ⟨rfl, rfl⟩)
  simp only [a44_1, wpc_skip, wpc_ops, wpc_draw, wpc_seq, wpc_cond, wpc_block, wpc_loop, wpc_exit, wpc_scope, wpc_ret, seqQ_norm, seqQ_ret, seqQ_exit, blockQ'_norm, blockQ'_ret, blockQ'_exit, roundQ_norm, roundQ_ret, roundQ_exit, condK_true, condK_false, wpo_nil', wpo_none, wpo_tt, wpo_ff, wpo_tf, wpo_ft, opsK_c, isC_none, isC_read, isC_write, wp1_call, callK_ret, wp1_mv', wp1_bin', wp1_un', wp1_eq', wp1_extract', wp1_pick', wp1_len', wp1_load', wp1_conv', wp1_store', wp1_idxAddr', wp1_append', wp1_mkIface', wp1_alloc', rd_t, rd_c, ok_t, ok_c, put_some, put_none, get_put, reduceIte, Nat.reduceEqDiff, AV.bool.injEq, Option.some.injEq, exists_eq_left', Option.map_some, Option.bind_some, opds_nil, opds_cons, opd_t, opd_c, aBin, aInt, decide_true, decide_false, negIf, wp1_nilCheck', wp1_fieldAddr', wp1_slice, op_slice, opdo_some, opdo_none, wp1_lit, op_lit, parts_nil, parts_cons, wp1_build, op_build, wp1_box, op_box, wpl_nil', wpl_none, wpl_some, logK_c, logQ_apply, guardL_tt, guardL_ff, guardL_tf, guardL_ft, drawQ_apply, isC c1, wp1_idxAddrArr, op_idxAddrArr, aNil_ptr, aFieldAddr, Nat.zero_add, g0, g1, g2, ri_this he, aFill, List.length_nil, Nat.mul_one, l0, sl1, ha1, t0]
  refine ⟨draw_of_cls (by cases c1 <;> rfl), hQ _ _ _ ho3 k3 c03 f3 fun n hn => ?_⟩
  simp only [get_put]
  repeat rw [if_neg (by omega)]

theorem rmv2 {h : Heap} {id e n : Nat} {cl : Bool} {t o : Sd} {tu tc ou oc : AV} {σ : Slots} (ho : HeapOk h) (k : Rq h id e cl t o tu tc ou oc) (he : e = 0 ∨ e = 1) (hs : o.moved + n < 1000000000000)
    (g0 : σ.get 0 = .ptr id 0 0) (g1 : σ.get 1 = .int .i64 e) (g2 : σ.get 2 = .int .i64 n) {Q : AExit → St → Prop}
    (hQ : ∀ σ' h', HeapOk h' → Rq h' id e cl t { o with moved := o.moved + n } tu tc ou oc → Chg (fun i => i = id) h h' → Q .norm ⟨σ', h'⟩) :
    wpc env (.draw a44_2 a44_2b) ⟨σ, h⟩ Q := by
  have l0 := re_omoved he k.hat
  have t0 := rs_omoved he k.hat (o.moved + n)
  have z : IntKind.wrap .i64 ((o.moved : Int) + (n : Int)) = ((o.moved + n : Nat) : Int) := wrap_nat (by omega) (by omega)
  obtain ⟨h3, eh3⟩ : ∃ h3, h3 = h.upd id 0 (RE e cl t { o with moved := o.moved + n } tu tc ou oc) := ⟨_, rfl⟩
  rw [← eh3] at t0
  have ho3 : HeapOk h3 := by rw [eh3]; exact ho.upd (at_look.1 k.hat) _ _
  have c03 : Chg (fun i => i = id) h h3 := by rw [eh3]; exact upd_chg rfl
  obtain ⟨k3, f3⟩ := k.put ho c03 (cl' := cl) (t' := t) (o' := { o with moved := o.moved + n }) (tu' := tu) (tc' := tc) (ou' := ou) (oc' := oc) (by rw [eh3]; exact at_upd) (.inl ⟨rfl, rfl⟩) (.inl ⟨rfl, rfl⟩) (.inl ⟨rfl, rfl⟩) (.inl ⟨rfl, rfl⟩)
  simp only [a44_2, wpc_skip, wpc_ops, wpc_draw, wpc_seq, wpc_cond, wpc_block, wpc_loop, wpc_exit, wpc_scope, wpc_ret, seqQ_norm, seqQ_ret, seqQ_exit, blockQ'_norm, blockQ'_ret, blockQ'_exit, roundQ_norm, roundQ_ret, roundQ_exit, condK_true, condK_false, wpo_nil', wpo_none, wpo_tt, wpo_ff, wpo_tf, wpo_ft, opsK_c, isC_none, isC_read, isC_write, wp1_call, callK_ret, wp1_mv', wp1_bin', wp1_un', wp1_eq', wp1_extract', wp1_pick', wp1_len', wp1_load', wp1_conv', wp1_store', wp1_idxAddr', wp1_append', wp1_mkIface', wp1_alloc', rd_t, rd_c, ok_t, ok_c, put_some, put_none, get_put, reduceIte, Nat.reduceEqDiff, AV.bool.injEq, Option.some.injEq, exists_eq_left', Option.map_some, Option.bind_some, opds_nil, opds_cons, opd_t, opd_c, aBin, aInt, decide_true, decide_false, negIf, wp1_nilCheck', wp1_fieldAddr', wp1_slice, op_slice, opdo_some, opdo_none, wp1_lit, op_lit, parts_nil, parts_cons, wp1_build, op_build, wp1_box, op_box, wpl_nil', wpl_none, wpl_some, logK_c, logQ_apply, guardL_tt, guardL_ff, guardL_tf, guardL_ft, drawQ_apply, wp1_idxAddrArr, op_idxAddrArr, aNil_ptr, aFieldAddr, Nat.zero_add, g0, g1, g2, ri_this he, ri_other he, sub_end he, l0, z, t0]
  exact ⟨draw_of_cls rfl, hQ _ _ ho3 k3 c03⟩

theorem rmove_spec {h : Heap} {id e n : Nat} {cl : Bool} {t o : Sd} {tu tc ou oc : AV} (ho : HeapOk h) (k : Rq h id e cl t o tu tc ou oc) (he : e = 0 ∨ e = 1) (hn : n ≤ t.u.length) (hu : t.u.length + o.c.length < 1000000000000) (hs : o.moved + n < 1000000000000) :
    WC env 44 [.ptr id 0 0, .int .i64 e, .int .i64 n] h (fun x => ∃ h' tu' oc', HeapOk h' ∧ Rq h' id e cl { t with u := t.u.drop n } { o with c := o.c ++ t.u.take n, moved := o.moved + n } tu' tc ou oc' ∧ Chg (fun i => i = id) h h' ∧ (∀ i, Foot tu' tc ou oc' i → Foot tu tc ou oc i ∨ h.next ≤ i) ∧ x = .ret ⟨.tup [], h', .write⟩) := by
  refine call_body rfl rfl (.inl rfl) ?_
  simp only [a44, Slots.ofList, wpc_seq]
  refine rmv0 ho k he hn hu (by simp only [get_put, reduceIte, Nat.reduceEqDiff]) (by simp only [get_put, reduceIte, Nat.reduceEqDiff]) (by simp only [get_put, reduceIte, Nat.reduceEqDiff]) fun σ1 h1 oc1 ho1 k1 c1 f1 s1 => ?_
  simp only [seqQ_norm, wpc_seq]
  have p0 : σ1.get 0 = .ptr id 0 0 := by rw [s1 0 (by omega)]; simp only [get_put, reduceIte, Nat.reduceEqDiff]
  have p1 : σ1.get 1 = .int .i64 e := by rw [s1 1 (by omega)]; simp only [get_put, reduceIte, Nat.reduceEqDiff]
  have p2 : σ1.get 2 = .int .i64 n := by rw [s1 2 (by omega)]; simp only [get_put, reduceIte, Nat.reduceEqDiff]
  refine rmv1 ho1 k1 he hn (by omega) p0 p1 p2 fun σ2 h2 tu2 ho2 k2 c2 f2 s2 => ?_
  simp only [seqQ_norm]
  refine rmv2 ho2 k2 he hs (by rw [s2 0 (by omega), p0]) (by rw [s2 1 (by omega), p1]) (by rw [s2 2 (by omega), p2]) fun σ3 h3 ho3 k3 c3 => ?_
  refine ⟨[], rfl, h3, tu2, oc1, ho3, k3, (c1.trans c2).trans c3, fun i f => ?_, rfl⟩
  have := c1.1
  rcases f2 i f with f | f
  · exact f1 i f
  · exact .inr (by omega)
end Go.St
/-
  Package heddleref05: Move, Stall.
-/
set_option linter.unusedVariables false
set_option linter.unusedSimpArgs false
set_option maxRecDepth 20000
namespace Go.St
open Go.AM

theorem rmovec_spec {h : Heap} {id e : Nat} {n : Int} {cl : Bool} {t o : Sd} {tu tc ou oc : AV} (ho : HeapOk h) (k : Rq h id e cl t o tu tc ou oc) (he : e = 0 ∨ e = 1) (hu : t.u.length ≤ 4194304) (hoc : o.c.length ≤ 4194304) (hs : o.moved < 100000000000) :
    WC env 33 [.ptr id 0 0, .int .i64 e, .int .i64 n] h (fun x =>
      (moveE cl t o n ≠ none ∧ x = .ret ⟨errL (moveE cl t o n), h, .write⟩) ∨ (moveE cl t o n = none ∧ ∃ h' tu' oc', HeapOk h' ∧ Rq h' id e cl { t with u := t.u.drop n.toNat } { o with c := o.c ++ t.u.take n.toNat, moved := o.moved + n.toNat } tu' tc ou oc' ∧ Chg (fun i => i = id) h h' ∧
      (∀ i, Foot tu' tc ou oc' i → Foot tu tc ou oc i ∨ h.next ≤ i) ∧ x = .ret ⟨.nils, h', .write⟩)) := by
  have l5 := re_cl k.hat
  have ls := re_st he k.hat
  have lu := re_u he k.hat
  rw [Nat.zero_add] at lu
  have lc := re_oc he k.hat
  have n1 := k.btu.lenOp
  have n2 := k.boc.lenOp
  refine call_body rfl rfl (.inl rfl) ?_
  cases cl with
  | true =>
    simp only [a33, a33_0, a33_1, a33_2, a33_3, a33_4, Slots.ofList, wpc_skip, wpc_ops, wpc_draw, wpc_seq, wpc_cond, wpc_block, wpc_loop, wpc_exit, wpc_scope, wpc_ret, seqQ_norm, seqQ_ret, seqQ_exit, blockQ'_norm, blockQ'_ret, blockQ'_exit, roundQ_norm, roundQ_ret, roundQ_exit, condK_true, condK_false, wpo_nil', wpo_none, wpo_tt, wpo_ff, wpo_tf, wpo_ft, opsK_c, isC_none, isC_read, isC_write, wp1_call, callK_ret, wp1_mv', wp1_bin', wp1_un', wp1_eq', wp1_extract', wp1_pick', wp1_len', wp1_load', wp1_conv', wp1_store', wp1_idxAddr', wp1_append', wp1_mkIface', wp1_alloc', rd_t, rd_c, ok_t, ok_c, put_some, put_none, get_put, reduceIte, Nat.reduceEqDiff, AV.bool.injEq, Option.some.injEq, exists_eq_left', Option.map_some, Option.bind_some, opds_nil, opds_cons, opd_t, opd_c, aBin, aInt, decide_true, decide_false, negIf, wp1_nilCheck', wp1_fieldAddr', wp1_slice, op_slice, opdo_some, opdo_none, wp1_lit, op_lit, parts_nil, parts_cons, wp1_build, op_build, wp1_box, op_box, wc_eq (rend_ok he _), aUn, Bool.not_true, aNil_ptr, aFieldAddr, Nat.zero_add, l5, wc_eq (no_spec _ _)]
    exact ⟨[lnk 100], by simp only [Env.results, Option.map_some, get_put, reduceIte, Nat.reduceEqDiff], .inl ⟨by simp [moveE], by simp [moveE, errL, oneOrTup]⟩⟩
  | false =>
  by_cases c1 : n < 0
  · have z1 : (n < 0) = True := eq_true c1
    have hE : moveE false t o n = some 1 := by simp only [moveE]; rw [if_neg (by simp), if_pos c1]
    rw [hE]
    simp only [a33, a33_0, a33_1, a33_2, a33_3, a33_5, a33_6, Slots.ofList, wpc_skip, wpc_ops, wpc_draw, wpc_seq, wpc_cond, wpc_block, wpc_loop, wpc_exit, wpc_scope, wpc_ret, seqQ_norm, seqQ_ret, seqQ_exit, blockQ'_norm, blockQ'_ret, blockQ'_exit, roundQ_norm, roundQ_ret, roundQ_exit, condK_true, condK_false, wpo_nil', wpo_none, wpo_tt, wpo_ff, wpo_tf, wpo_ft, opsK_c, isC_none, isC_read, isC_write, wp1_call, callK_ret, wp1_mv', wp1_bin', wp1_un', wp1_eq', wp1_extract', wp1_pick', wp1_len', wp1_load', wp1_conv', wp1_store', wp1_idxAddr', wp1_append', wp1_mkIface', wp1_alloc', rd_t, rd_c, ok_t, ok_c, put_some, put_none, get_put, reduceIte, Nat.reduceEqDiff, AV.bool.injEq, Option.some.injEq, exists_eq_left', Option.map_some, Option.bind_some, opds_nil, opds_cons, opd_t, opd_c, aBin, aInt, decide_true, decide_false, negIf, wp1_nilCheck', wp1_fieldAddr', wp1_slice, op_slice, opdo_some, opdo_none, wp1_lit, op_lit, parts_nil, parts_cons, wp1_build, op_build, wp1_box, op_box, wc_eq (rend_ok he _), aUn, Bool.not_true, aNil_ptr, aFieldAddr, Nat.zero_add, l5, wc_eq (no_spec _ _), z1]
    exact ⟨[lnk 1], by simp only [Env.results, Option.map_some, get_put, reduceIte, Nat.reduceEqDiff], .inl ⟨by simp, rfl⟩⟩
  have z1 : (n < 0) = False := eq_false c1
  obtain ⟨N, rfl⟩ : ∃ N : Nat, n = N := ⟨n.toNat, by omega⟩
  by_cases hst : t.st = true
  · have hE : moveE false t o N = some 101 := by simp only [moveE]; rw [if_neg (by simp), if_neg c1, if_pos hst]
    rw [hE]
    rw [hst] at ls
    simp only [a33, a33_0, a33_1, a33_3, a33_5, a33_7, a33_8, Slots.ofList, wpc_skip, wpc_ops, wpc_draw, wpc_seq, wpc_cond, wpc_block, wpc_loop, wpc_exit, wpc_scope, wpc_ret, seqQ_norm, seqQ_ret, seqQ_exit, blockQ'_norm, blockQ'_ret, blockQ'_exit, roundQ_norm, roundQ_ret, roundQ_exit, condK_true, condK_false, wpo_nil', wpo_none, wpo_tt, wpo_ff, wpo_tf, wpo_ft, opsK_c, isC_none, isC_read, isC_write, wp1_call, callK_ret, wp1_mv', wp1_bin', wp1_un', wp1_eq', wp1_extract', wp1_pick', wp1_len', wp1_load', wp1_conv', wp1_store', wp1_idxAddr', wp1_append', wp1_mkIface', wp1_alloc', rd_t, rd_c, ok_t, ok_c, put_some, put_none, get_put, reduceIte, Nat.reduceEqDiff, AV.bool.injEq, Option.some.injEq, exists_eq_left', Option.map_some, Option.bind_some, opds_nil, opds_cons, opd_t, opd_c, aBin, aInt, decide_true, decide_false, negIf, wp1_nilCheck', wp1_fieldAddr', wp1_slice, op_slice, opdo_some, opdo_none, wp1_lit, op_lit, parts_nil, parts_cons, wp1_build, op_build, wp1_box, op_box, wp1_idxAddrArr, op_idxAddrArr, wc_eq (rend_ok he _), aUn, Bool.not_true, aNil_ptr, aFieldAddr, Nat.zero_add, ri_this he, l5, ls, wc_eq (no_spec _ _), z1]
    exact ⟨[lnk 101], by simp only [Env.results, Option.map_some, get_put, reduceIte, Nat.reduceEqDiff], .inl ⟨by simp, rfl⟩⟩
  have hst : t.st = false := by simpa using hst
  rw [hst] at ls
  by_cases c2 : t.u.length < N
  · have z2 : ((N : Int) > (t.u.length : Int)) = True := eq_true (by omega)
    have hE : moveE false t o N = some 102 := by simp only [moveE]; rw [if_neg (by simp), if_neg c1, if_neg (by simp [hst]), if_pos (by omega)]
    rw [hE]
    simp only [a33, a33_0, a33_1, a33_3, a33_5, a33_7, a33_9, a33_10, Slots.ofList, wpc_skip, wpc_ops, wpc_draw, wpc_seq, wpc_cond, wpc_block, wpc_loop, wpc_exit, wpc_scope, wpc_ret, seqQ_norm, seqQ_ret, seqQ_exit, blockQ'_norm, blockQ'_ret, blockQ'_exit, roundQ_norm, roundQ_ret, roundQ_exit, condK_true, condK_false, wpo_nil', wpo_none, wpo_tt, wpo_ff, wpo_tf, wpo_ft, opsK_c, isC_none, isC_read, isC_write, wp1_call, callK_ret, wp1_mv', wp1_bin', wp1_un', wp1_eq', wp1_extract', wp1_pick', wp1_len', wp1_load', wp1_conv', wp1_store', wp1_idxAddr', wp1_append', wp1_mkIface', wp1_alloc', rd_t, rd_c, ok_t, ok_c, put_some, put_none, get_put, reduceIte, Nat.reduceEqDiff, AV.bool.injEq, Option.some.injEq, exists_eq_left', Option.map_some, Option.bind_some, opds_nil, opds_cons, opd_t, opd_c, aBin, aInt, decide_true, decide_false, negIf, wp1_nilCheck', wp1_fieldAddr', wp1_slice, op_slice, opdo_some, opdo_none, wp1_lit, op_lit, parts_nil, parts_cons, wp1_build, op_build, wp1_box, op_box, wp1_idxAddrArr, op_idxAddrArr, wc_eq (rend_ok he _), aUn, Bool.not_true, aNil_ptr, aFieldAddr, Nat.zero_add, ri_this he, l5, ls, lu, n1, wc_eq (no_spec _ _), z1, z2]
    exact ⟨[lnk 102], by simp only [Env.results, Option.map_some, get_put, reduceIte, Nat.reduceEqDiff], .inl ⟨by simp, rfl⟩⟩
  have z2 : ((N : Int) > (t.u.length : Int)) = False := eq_false (by omega)
  obtain ⟨M, hM⟩ : ∃ M, M = o.c.length + N := ⟨_, rfl⟩
  have e1 : IntKind.wrap .i64 ((o.c.length : Int) + (N : Int)) = (M : Int) := wrap_nat (by omega) (by omega)
  by_cases c3 : 4194304 < M
  · have z3 : ((M : Int) > 4194304) = True := eq_true (by omega)
    have hE : moveE false t o N = some 5 := by simp only [moveE]; rw [if_neg (by simp), if_neg c1, if_neg (by simp [hst]), if_neg (by omega), if_pos (by omega)]
    rw [hE]
    simp only [a33, a33_0, a33_1, a33_3, a33_5, a33_7, a33_9, a33_11, a33_12, Slots.ofList, wpc_skip, wpc_ops, wpc_draw, wpc_seq, wpc_cond, wpc_block, wpc_loop, wpc_exit, wpc_scope, wpc_ret, seqQ_norm, seqQ_ret, seqQ_exit, blockQ'_norm, blockQ'_ret, blockQ'_exit, roundQ_norm, roundQ_ret, roundQ_exit, condK_true, condK_false, wpo_nil', wpo_none, wpo_tt, wpo_ff, wpo_tf, wpo_ft, opsK_c, isC_none, isC_read, isC_write, wp1_call, callK_ret, wp1_mv', wp1_bin', wp1_un', wp1_eq', wp1_extract', wp1_pick', wp1_len', wp1_load', wp1_conv', wp1_store', wp1_idxAddr', wp1_append', wp1_mkIface', wp1_alloc', rd_t, rd_c, ok_t, ok_c, put_some, put_none, get_put, reduceIte, Nat.reduceEqDiff, AV.bool.injEq, Option.some.injEq, exists_eq_left', Option.map_some, Option.bind_some, opds_nil, opds_cons, opd_t, opd_c, aBin, aInt, decide_true, decide_false, negIf, wp1_nilCheck', wp1_fieldAddr', wp1_slice, op_slice, opdo_some, opdo_none, wp1_lit, op_lit, parts_nil, parts_cons, wp1_build, op_build, wp1_box, op_box, wp1_idxAddrArr, op_idxAddrArr, wc_eq (rend_ok he _), aUn, Bool.not_true, aNil_ptr, aFieldAddr, Nat.zero_add, ri_this he, ri_other he, sub_end he, l5, ls, lu, lc, n1, n2, e1, wc_eq (no_spec _ _), z1, z2, z3]
    exact ⟨[lnk 5], by simp only [Env.results, Option.map_some, get_put, reduceIte, Nat.reduceEqDiff], .inl ⟨by simp, rfl⟩⟩
  have z3 : ((M : Int) > 4194304) = False := eq_false (by omega)
  have hE : moveE false t o N = none := by simp only [moveE]; rw [if_neg (by simp), if_neg c1, if_neg (by simp [hst]), if_neg (by omega), if_neg (by omega)]
  obtain ⟨x, ev, h', tu', oc', q1, q2, q3, q4, rfl⟩ := rmove_spec (n := N) ho k he (by omega) (by omega) (by omega)
  have w : WC env 44 [.ptr id 0 0, .int .i64 e, .int .i64 N] h (fun o => o = _) := ⟨_, ev, rfl⟩
  simp only [a33, a33_0, a33_1, a33_3, a33_5, a33_7, a33_9, a33_11, a33_13, a33_14, Slots.ofList, wpc_skip, wpc_ops, wpc_draw, wpc_seq, wpc_cond, wpc_block, wpc_loop, wpc_exit, wpc_scope, wpc_ret, seqQ_norm, seqQ_ret, seqQ_exit, blockQ'_norm, blockQ'_ret, blockQ'_exit, roundQ_norm, roundQ_ret, roundQ_exit, condK_true, condK_false, wpo_nil', wpo_none, wpo_tt, wpo_ff, wpo_tf, wpo_ft, opsK_c, isC_none, isC_read, isC_write, wp1_call, callK_ret, wp1_mv', wp1_bin', wp1_un', wp1_eq', wp1_extract', wp1_pick', wp1_len', wp1_load', wp1_conv', wp1_store', wp1_idxAddr', wp1_append', wp1_mkIface', wp1_alloc', rd_t, rd_c, ok_t, ok_c, put_some, put_none, get_put, reduceIte, Nat.reduceEqDiff, AV.bool.injEq, Option.some.injEq, exists_eq_left', Option.map_some, Option.bind_some, opds_nil, opds_cons, opd_t, opd_c, aBin, aInt, decide_true, decide_false, negIf, wp1_nilCheck', wp1_fieldAddr', wp1_slice, op_slice, opdo_some, opdo_none, wp1_lit, op_lit, parts_nil, parts_cons, wp1_build, op_build, wp1_box, op_box, wp1_idxAddrArr, op_idxAddrArr, wc_eq (rend_ok he _), aUn, Bool.not_true, aNil_ptr, aFieldAddr, Nat.zero_add, ri_this he, ri_other he, sub_end he, l5, ls, lu, lc, n1, n2, e1, z1, z2, z3, wc_eq w]
  exact ⟨[.nils], by simp only [Env.results, Option.map_some, get_put, reduceIte, Nat.reduceEqDiff], .inr ⟨hE, h', tu', oc', q1, q2, q3, q4, rfl⟩⟩
theorem rmovec_bad {h : Heap} {id : Nat} {e : Int} {v w : AV} (h0 : e ≠ 0) (h1 : e ≠ 1) : WC env 33 [v, .int .i64 e, w] h (fun x => x = .ret ⟨lnk 2, h, .write⟩) := by
  refine call_body rfl rfl (.inl rfl) ?_
  simp only [a33, a33_0, a33_1, a33_2, Slots.ofList, wpc_skip, wpc_ops, wpc_draw, wpc_seq, wpc_cond, wpc_block, wpc_loop, wpc_exit, wpc_scope, wpc_ret, seqQ_norm, seqQ_ret, seqQ_exit, blockQ'_norm, blockQ'_ret, blockQ'_exit, roundQ_norm, roundQ_ret, roundQ_exit, condK_true, condK_false, wpo_nil', wpo_none, wpo_tt, wpo_ff, wpo_tf, wpo_ft, opsK_c, isC_none, isC_read, isC_write, wp1_call, callK_ret, wp1_mv', wp1_bin', wp1_un', wp1_eq', wp1_extract', wp1_pick', wp1_len', wp1_load', wp1_conv', wp1_store', wp1_idxAddr', wp1_append', wp1_mkIface', wp1_alloc', rd_t, rd_c, ok_t, ok_c, put_some, put_none, get_put, reduceIte, Nat.reduceEqDiff, AV.bool.injEq, Option.some.injEq, exists_eq_left', Option.map_some, Option.bind_some, opds_nil, opds_cons, opd_t, opd_c, aBin, aInt, decide_true, decide_false, negIf, wp1_nilCheck', wp1_fieldAddr', wp1_slice, op_slice, opdo_some, opdo_none, wp1_lit, op_lit, parts_nil, parts_cons, wp1_build, op_build, wp1_box, op_box, wc_eq (rend_bad h0 h1 _), aUn, Bool.not_false, wc_eq (no_spec _ _)]
  exact ⟨[lnk 2], by simp only [Env.results, Option.map_some, get_put, reduceIte, Nat.reduceEqDiff], rfl⟩

theorem rstall_spec {h : Heap} {id e : Nat} {y cl : Bool} {t o : Sd} {tu tc ou oc : AV} (ho : HeapOk h) (k : Rq h id e cl t o tu tc ou oc) (he : e = 0 ∨ e = 1) :
    WC env 34 [.ptr id 0 0, .int .i64 e, .bool y] h (fun x => ∃ h', HeapOk h' ∧ Rq h' id e cl (if cl = true then t else { t with st := y }) o tu tc ou oc ∧ Chg (fun i => i = id) h h' ∧ x = .ret ⟨errL (if cl = true then some 100 else none), h', .write⟩) := by
  have l5 := re_cl k.hat
  refine call_body rfl rfl (.inl rfl) ?_
  cases cl with
  | true =>
    simp only [a34, a34_0, a34_1, a34_2, a34_3, a34_4, Slots.ofList, wpc_skip, wpc_ops, wpc_draw, wpc_seq, wpc_cond, wpc_block, wpc_loop, wpc_exit, wpc_scope, wpc_ret, seqQ_norm, seqQ_ret, seqQ_exit, blockQ'_norm, blockQ'_ret, blockQ'_exit, roundQ_norm, roundQ_ret, roundQ_exit, condK_true, condK_false, wpo_nil', wpo_none, wpo_tt, wpo_ff, wpo_tf, wpo_ft, opsK_c, isC_none, isC_read, isC_write, wp1_call, callK_ret, wp1_mv', wp1_bin', wp1_un', wp1_eq', wp1_extract', wp1_pick', wp1_len', wp1_load', wp1_conv', wp1_store', wp1_idxAddr', wp1_append', wp1_mkIface', wp1_alloc', rd_t, rd_c, ok_t, ok_c, put_some, put_none, get_put, reduceIte, Nat.reduceEqDiff, AV.bool.injEq, Option.some.injEq, exists_eq_left', Option.map_some, Option.bind_some, opds_nil, opds_cons, opd_t, opd_c, aBin, aInt, decide_true, decide_false, negIf, wp1_nilCheck', wp1_fieldAddr', wp1_slice, op_slice, opdo_some, opdo_none, wp1_lit, op_lit, parts_nil, parts_cons, wp1_build, op_build, wp1_box, op_box, wc_eq (rend_ok he _), aUn, Bool.not_true, aNil_ptr, aFieldAddr, Nat.zero_add, l5, wc_eq (no_spec _ _)]
    exact ⟨[lnk 100], by simp only [Env.results, Option.map_some, get_put, reduceIte, Nat.reduceEqDiff], h, ho, k, .refl, rfl⟩
  | false =>
    have t0 := rs_st he k.hat y
    obtain ⟨h3, eh3⟩ : ∃ h3, h3 = h.upd id 0 (RE e false { t with st := y } o tu tc ou oc) := ⟨_, rfl⟩
    rw [← eh3] at t0
    have ho3 : HeapOk h3 := by rw [eh3]; exact ho.upd (at_look.1 k.hat) _ _
    have c03 : Chg (fun i => i = id) h h3 := by rw [eh3]; exact upd_chg rfl
    obtain ⟨k3, f3⟩ := k.put ho c03 (cl' := false) (t' := { t with st := y }) (o' := o) (tu' := tu) (tc' := tc) (ou' := ou) (oc' := oc) (by rw [eh3]; exact at_upd) (.inl ⟨rfl, rfl⟩) (.inl ⟨rfl, rfl⟩) (.inl ⟨rfl, rfl⟩) (.inl ⟨rfl, rfl⟩)
    simp only [a34, a34_0, a34_1, a34_3, a34_5, a34_6, Slots.ofList, wpc_skip, wpc_ops, wpc_draw, wpc_seq, wpc_cond, wpc_block, wpc_loop, wpc_exit, wpc_scope, wpc_ret, seqQ_norm, seqQ_ret, seqQ_exit, blockQ'_norm, blockQ'_ret, blockQ'_exit, roundQ_norm, roundQ_ret, roundQ_exit, condK_true, condK_false, wpo_nil', wpo_none, wpo_tt, wpo_ff, wpo_tf, wpo_ft, opsK_c, isC_none, isC_read, isC_write, wp1_call, callK_ret, wp1_mv', wp1_bin', wp1_un', wp1_eq', wp1_extract', wp1_pick', wp1_len', wp1_load', wp1_conv', wp1_store', wp1_idxAddr', wp1_append', wp1_mkIface', wp1_alloc', rd_t, rd_c, ok_t, ok_c, put_some, put_none, get_put, reduceIte, Nat.reduceEqDiff, AV.bool.injEq, Option.some.injEq, exists_eq_left', Option.map_some, Option.bind_some, opds_nil, opds_cons, opd_t, opd_c, aBin, aInt, decide_true, decide_false, negIf, wp1_nilCheck', wp1_fieldAddr', wp1_slice, op_slice, opdo_some, opdo_none, wp1_lit, op_lit, parts_nil, parts_cons, wp1_build, op_build, wp1_box, op_box, wp1_idxAddrArr, op_idxAddrArr, wc_eq (rend_ok he _), aUn, Bool.not_true, aNil_ptr, aFieldAddr, Nat.zero_add, ri_this he, l5, t0]
    exact ⟨[.nils], by simp only [Env.results, Option.map_some, get_put, reduceIte, Nat.reduceEqDiff], h3, ho3, k3, c03, rfl⟩
theorem rstall_bad {h : Heap} {id : Nat} {e : Int} {v w : AV} (h0 : e ≠ 0) (h1 : e ≠ 1) : WC env 34 [v, .int .i64 e, w] h (fun x => x = .ret ⟨lnk 2, h, .write⟩) := by
  refine call_body rfl rfl (.inl rfl) ?_
  simp only [a34, a34_0, a34_1, a34_2, Slots.ofList, wpc_skip, wpc_ops, wpc_draw, wpc_seq, wpc_cond, wpc_block, wpc_loop, wpc_exit, wpc_scope, wpc_ret, seqQ_norm, seqQ_ret, seqQ_exit, blockQ'_norm, blockQ'_ret, blockQ'_exit, roundQ_norm, roundQ_ret, roundQ_exit, condK_true, condK_false, wpo_nil', wpo_none, wpo_tt, wpo_ff, wpo_tf, wpo_ft, opsK_c, isC_none, isC_read, isC_write, wp1_call, callK_ret, wp1_mv', wp1_bin', wp1_un', wp1_eq', wp1_extract', wp1_pick', wp1_len', wp1_load', wp1_conv', wp1_store', wp1_idxAddr', wp1_append', wp1_mkIface', wp1_alloc', rd_t, rd_c, ok_t, ok_c, put_some, put_none, get_put, reduceIte, Nat.reduceEqDiff, AV.bool.injEq, Option.some.injEq, exists_eq_left', Option.map_some, Option.bind_some, opds_nil, opds_cons, opd_t, opd_c, aBin, aInt, decide_true, decide_false, negIf, wp1_nilCheck', wp1_fieldAddr', wp1_slice, op_slice, opdo_some, opdo_none, wp1_lit, op_lit, parts_nil, parts_cons, wp1_build, op_build, wp1_box, op_box, wc_eq (rend_bad h0 h1 _), aUn, Bool.not_false, wc_eq (no_spec _ _)]
  exact ⟨[lnk 2], by simp only [Env.results, Option.map_some, get_put, reduceIte, Nat.reduceEqDiff], rfl⟩
end Go.St
/-
  Package heddleref05: Read, Break, Close.
-/
set_option linter.unusedVariables false
set_option linter.unusedSimpArgs false
set_option maxRecDepth 20000
namespace Go.St
open Go.AM

theorem rbreak_spec {h : Heap} {id : Nat} {cl : Bool} {t o : Sd} {tu tc ou oc : AV} (ho : HeapOk h) (k : Rq h id 0 cl t o tu tc ou oc) :
    WC env 36 [.ptr id 0 0] h (fun x => (cl = true ∧ x = .ret ⟨lnk 100, h, .write⟩) ∨ (cl = false ∧ ∃ h', HeapOk h' ∧ Rq h' id 0 true { t with u := [] } { o with u := [] } .nils tc .nils oc ∧ Chg (fun i => i = id) h h' ∧ x = .ret ⟨.nils, h', .write⟩)) := by
  have l5 := re_cl k.hat
  refine call_body rfl rfl (.inl rfl) ?_
  cases cl with
  | true =>
    simp only [a36, a36_0, a36_1, a36_2, Slots.ofList, wpc_skip, wpc_ops, wpc_draw, wpc_seq, wpc_cond, wpc_block, wpc_loop, wpc_exit, wpc_scope, wpc_ret, seqQ_norm, seqQ_ret, seqQ_exit, blockQ'_norm, blockQ'_ret, blockQ'_exit, roundQ_norm, roundQ_ret, roundQ_exit, condK_true, condK_false, wpo_nil', wpo_none, wpo_tt, wpo_ff, wpo_tf, wpo_ft, opsK_c, isC_none, isC_read, isC_write, wp1_call, callK_ret, wp1_mv', wp1_bin', wp1_un', wp1_eq', wp1_extract', wp1_pick', wp1_len', wp1_load', wp1_conv', wp1_store', wp1_idxAddr', wp1_append', wp1_mkIface', wp1_alloc', rd_t, rd_c, ok_t, ok_c, put_some, put_none, get_put, reduceIte, Nat.reduceEqDiff, AV.bool.injEq, Option.some.injEq, exists_eq_left', Option.map_some, Option.bind_some, opds_nil, opds_cons, opd_t, opd_c, aBin, aInt, decide_true, decide_false, negIf, wp1_nilCheck', wp1_fieldAddr', wp1_slice, op_slice, opdo_some, opdo_none, wp1_lit, op_lit, parts_nil, parts_cons, wp1_build, op_build, wp1_box, op_box, aNil_ptr, aFieldAddr, Nat.zero_add, l5, wc_eq (no_spec _ _)]
    exact ⟨[lnk 100], by simp only [Env.results, Option.map_some, get_put, reduceIte, Nat.reduceEqDiff], .inl ⟨trivial, rfl⟩⟩
  | false =>
    have t0 := rs_cl k.hat
    obtain ⟨h1, eh1⟩ : ∃ h1, h1 = h.upd id 0 (RE 0 true t o tu tc ou oc) := ⟨_, rfl⟩
    rw [← eh1] at t0
    have a1 : h1.at_ id 0 = some (RE 0 true t o tu tc ou oc) := by rw [eh1]; exact at_upd
    have t1 := rs_u (.inl rfl) a1 (v := .nils) rfl
    obtain ⟨h2, eh2⟩ : ∃ h2, h2 = h1.upd id 0 (RE 0 true t o .nils tc ou oc) := ⟨_, rfl⟩
    rw [← eh2] at t1
    have a2 : h2.at_ id 0 = some (RE 0 true t o .nils tc ou oc) := by rw [eh2]; exact at_upd
    have t2 := rs_ou a2
    obtain ⟨h3, eh3⟩ : ∃ h3, h3 = h2.upd id 0 (RE 0 true t o .nils tc .nils oc) := ⟨_, rfl⟩
    rw [← eh3] at t2
    have i0 : aIdxAddrArr 1 2 (.ptr id 0 0) (.int .i64 0) = some (.ptr id 0 (0 + 0)) := rfl
    have i1 : aIdxAddrArr 1 2 (.ptr id 0 0) (.int .i64 1) = some (.ptr id 0 (0 + 1)) := rfl
    rw [Nat.zero_add] at t1 t2 i0 i1
    have ho3 : HeapOk h3 := by rw [eh3, eh2, eh1]; exact ((ho.upd (at_look.1 k.hat) _ _).upd (at_look.1 at_upd) _ _).upd (at_look.1 at_upd) _ _
    have c03 : Chg (fun i => i = id) h h3 := by rw [eh3, eh2, eh1]; exact (Chg.trans (S := fun i => i = id) (upd_chg rfl) (upd_chg rfl)).trans (upd_chg rfl)
    obtain ⟨k3, f3⟩ := k.put ho c03 (cl' := true) (t' := { t with u := [] }) (o' := { o with u := [] }) (tu' := .nils) (tc' := tc) (ou' := .nils) (oc' := oc) (by rw [eh3]; exact at_upd) (.inr ⟨.nils, fun i e => by cases e⟩) (.inl ⟨rfl, rfl⟩) (.inr ⟨.nils, fun i e => by cases e⟩) (.inl ⟨rfl, rfl⟩)
    simp only [a36, a36_0, a36_1, a36_3, a36_4, a36_5, Slots.ofList, wpc_skip, wpc_ops, wpc_draw, wpc_seq, wpc_cond, wpc_block, wpc_loop, wpc_exit, wpc_scope, wpc_ret, seqQ_norm, seqQ_ret, seqQ_exit, blockQ'_norm, blockQ'_ret, blockQ'_exit, roundQ_norm, roundQ_ret, roundQ_exit, condK_true, condK_false, wpo_nil', wpo_none, wpo_tt, wpo_ff, wpo_tf, wpo_ft, opsK_c, isC_none, isC_read, isC_write, wp1_call, callK_ret, wp1_mv', wp1_bin', wp1_un', wp1_eq', wp1_extract', wp1_pick', wp1_len', wp1_load', wp1_conv', wp1_store', wp1_idxAddr', wp1_append', wp1_mkIface', wp1_alloc', rd_t, rd_c, ok_t, ok_c, put_some, put_none, get_put, reduceIte, Nat.reduceEqDiff, AV.bool.injEq, Option.some.injEq, exists_eq_left', Option.map_some, Option.bind_some, opds_nil, opds_cons, opd_t, opd_c, aBin, aInt, decide_true, decide_false, negIf, wp1_nilCheck', wp1_fieldAddr', wp1_slice, op_slice, opdo_some, opdo_none, wp1_lit, op_lit, parts_nil, parts_cons, wp1_build, op_build, wp1_box, op_box, wpl_nil', wpl_none, wpl_some, logK_c, logQ_apply, guardL_tt, guardL_ff, guardL_tf, guardL_ft, drawQ_apply, wp1_idxAddrArr, op_idxAddrArr, aNil_ptr, aFieldAddr, Nat.zero_add, l5, t0, i0, i1, t1, t2]
    exact ⟨draw_of_cls rfl, [.nils], by simp only [Env.results, Option.map_some, get_put, reduceIte, Nat.reduceEqDiff], .inr ⟨trivial, h3, ho3, k3, c03, rfl⟩⟩

theorem rclose_spec {h : Heap} {id e : Nat} {cl : Bool} {t o : Sd} {tu tc ou oc : AV} (ho : HeapOk h) (k : Rq h id e cl t o tu tc ou oc) (he : e = 0 ∨ e = 1) (hu : t.u.length + o.c.length < 100000000000) (hs : o.moved < 100000000000) :
    WC env 37 [.ptr id 0 0, .int .i64 e] h (fun x => (cl = true ∧ x = .ret ⟨lnk 100, h, .write⟩) ∨ (cl = false ∧ ∃ h' oc', HeapOk h' ∧ Rq h' id e true { t with u := [] } { o with u := [], c := o.c ++ t.u, moved := o.moved + t.u.length } .nils tc .nils oc' ∧ Chg (fun i => i = id) h h' ∧
      (∀ i, Foot .nils tc .nils oc' i → Foot tu tc ou oc i ∨ h.next ≤ i) ∧ x = .ret ⟨.nils, h', .write⟩)) := by
  have l5 := re_cl k.hat
  refine call_body rfl rfl (.inl rfl) ?_
  cases cl with
  | true =>
    simp only [a37, a37_0, a37_1, a37_2, a37_3, a37_4, Slots.ofList, wpc_skip, wpc_ops, wpc_draw, wpc_seq, wpc_cond, wpc_block, wpc_loop, wpc_exit, wpc_scope, wpc_ret, seqQ_norm, seqQ_ret, seqQ_exit, blockQ'_norm, blockQ'_ret, blockQ'_exit, roundQ_norm, roundQ_ret, roundQ_exit, condK_true, condK_false, wpo_nil', wpo_none, wpo_tt, wpo_ff, wpo_tf, wpo_ft, opsK_c, isC_none, isC_read, isC_write, wp1_call, callK_ret, wp1_mv', wp1_bin', wp1_un', wp1_eq', wp1_extract', wp1_pick', wp1_len', wp1_load', wp1_conv', wp1_store', wp1_idxAddr', wp1_append', wp1_mkIface', wp1_alloc', rd_t, rd_c, ok_t, ok_c, put_some, put_none, get_put, reduceIte, Nat.reduceEqDiff, AV.bool.injEq, Option.some.injEq, exists_eq_left', Option.map_some, Option.bind_some, opds_nil, opds_cons, opd_t, opd_c, aBin, aInt, decide_true, decide_false, negIf, wp1_nilCheck', wp1_fieldAddr', wp1_slice, op_slice, opdo_some, opdo_none, wp1_lit, op_lit, parts_nil, parts_cons, wp1_build, op_build, wp1_box, op_box, wc_eq (rend_ok he _), aUn, Bool.not_true, aNil_ptr, aFieldAddr, Nat.zero_add, l5, wc_eq (no_spec _ _)]
    exact ⟨[lnk 100], by simp only [Env.results, Option.map_some, get_put, reduceIte, Nat.reduceEqDiff], .inl ⟨trivial, rfl⟩⟩
  | false =>
    have l0 := re_u he k.hat
    rw [Nat.zero_add] at l0
    have l1 := k.btu.lenOp
    obtain ⟨x, ev, h1, tu1, oc1, ho1, k1, c1, f1, rfl⟩ := rmove_spec (n := t.u.length) ho k he (Nat.le_refl _) (by omega) (by omega)
    have w2 : WC env 44 [.ptr id 0 0, .int .i64 e, .int .i64 t.u.length] h (fun o => o = _) := ⟨_, ev, rfl⟩
    rw [List.drop_length, List.take_length] at k1
    have k0 : ∃ h', HeapOk h' ∧ Rq h' id e true { t with u := [] } { o with u := [], c := o.c ++ t.u, moved := o.moved + t.u.length } .nils tc .nils oc1 ∧ Chg (fun i => i = id) h1 h' ∧ WC env 36 [.ptr id 0 0] h1 (fun y => y = .ret ⟨.nils, h', .write⟩) := by
      rcases he with rfl | rfl
      · obtain ⟨x, ev2, q⟩ := rbreak_spec ho1 k1
        rcases q with ⟨q, _⟩ | ⟨_, h2, q1, q2, q3, rfl⟩
        · cases q
        · exact ⟨h2, q1, q2, q3, _, ev2, rfl⟩
      · obtain ⟨x, ev2, q⟩ := rbreak_spec ho1 (k1.flip (.inr rfl))
        rcases q with ⟨q, _⟩ | ⟨_, h2, q1, q2, q3, rfl⟩
        · cases q
        · exact ⟨h2, q1, q2.flip (.inl rfl), q3, _, ev2, rfl⟩
    obtain ⟨h2, ho2, k2, c2, w3⟩ := k0
    simp only [a37, a37_0, a37_1, a37_3, a37_5, a37_6, Slots.ofList, wpc_skip, wpc_ops, wpc_draw, wpc_seq, wpc_cond, wpc_block, wpc_loop, wpc_exit, wpc_scope, wpc_ret, seqQ_norm, seqQ_ret, seqQ_exit, blockQ'_norm, blockQ'_ret, blockQ'_exit, roundQ_norm, roundQ_ret, roundQ_exit, condK_true, condK_false, wpo_nil', wpo_none, wpo_tt, wpo_ff, wpo_tf, wpo_ft, opsK_c, isC_none, isC_read, isC_write, wp1_call, callK_ret, wp1_mv', wp1_bin', wp1_un', wp1_eq', wp1_extract', wp1_pick', wp1_len', wp1_load', wp1_conv', wp1_store', wp1_idxAddr', wp1_append', wp1_mkIface', wp1_alloc', rd_t, rd_c, ok_t, ok_c, put_some, put_none, get_put, reduceIte, Nat.reduceEqDiff, AV.bool.injEq, Option.some.injEq, exists_eq_left', Option.map_some, Option.bind_some, opds_nil, opds_cons, opd_t, opd_c, aBin, aInt, decide_true, decide_false, negIf, wp1_nilCheck', wp1_fieldAddr', wp1_slice, op_slice, opdo_some, opdo_none, wp1_lit, op_lit, parts_nil, parts_cons, wp1_build, op_build, wp1_box, op_box, wp1_idxAddrArr, op_idxAddrArr, wc_eq (rend_ok he _), aUn, Bool.not_true, aNil_ptr, aFieldAddr, Nat.zero_add, ri_this he, l5, l0, l1, wc_eq w2, wc_eq w3]
    refine ⟨[.nils], by simp only [Env.results, Option.map_some, get_put, reduceIte, Nat.reduceEqDiff], .inr ⟨trivial, h2, oc1, ho2, k2, c1.trans c2, fun i f => ?_, rfl⟩⟩
    rcases f with f | f | f | f
    · cases f
    · exact .inl (.inr (.inl f))
    · cases f
    · exact f1 i (.inr (.inr (.inr f)))
theorem rclose_bad {h : Heap} {e : Int} {v : AV} (h0 : e ≠ 0) (h1 : e ≠ 1) : WC env 37 [v, .int .i64 e] h (fun x => x = .ret ⟨lnk 2, h, .write⟩) := by
  refine call_body rfl rfl (.inl rfl) ?_
  simp only [a37, a37_0, a37_1, a37_2, Slots.ofList, wpc_skip, wpc_ops, wpc_draw, wpc_seq, wpc_cond, wpc_block, wpc_loop, wpc_exit, wpc_scope, wpc_ret, seqQ_norm, seqQ_ret, seqQ_exit, blockQ'_norm, blockQ'_ret, blockQ'_exit, roundQ_norm, roundQ_ret, roundQ_exit, condK_true, condK_false, wpo_nil', wpo_none, wpo_tt, wpo_ff, wpo_tf, wpo_ft, opsK_c, isC_none, isC_read, isC_write, wp1_call, callK_ret, wp1_mv', wp1_bin', wp1_un', wp1_eq', wp1_extract', wp1_pick', wp1_len', wp1_load', wp1_conv', wp1_store', wp1_idxAddr', wp1_append', wp1_mkIface', wp1_alloc', rd_t, rd_c, ok_t, ok_c, put_some, put_none, get_put, reduceIte, Nat.reduceEqDiff, AV.bool.injEq, Option.some.injEq, exists_eq_left', Option.map_some, Option.bind_some, opds_nil, opds_cons, opd_t, opd_c, aBin, aInt, decide_true, decide_false, negIf, wp1_nilCheck', wp1_fieldAddr', wp1_slice, op_slice, opdo_some, opdo_none, wp1_lit, op_lit, parts_nil, parts_cons, wp1_build, op_build, wp1_box, op_box, wc_eq (rend_bad h0 h1 _), aUn, Bool.not_false, wc_eq (no_spec _ _)]
  exact ⟨[lnk 2], by simp only [Env.results, Option.map_some, get_put, reduceIte, Nat.reduceEqDiff], rfl⟩
end Go.St
/-
  Package heddleref05: Read.
-/
set_option linter.unusedVariables false
set_option linter.unusedSimpArgs false
set_option maxRecDepth 20000
namespace Go.St
open Go.AM

theorem rread_tail {h : Heap} {id e N : Nat} {cl : Bool} {t o : Sd} {tu tc ou oc : AV} {σ : Slots} (ho : HeapOk h) (k : Rq h id e cl t o tu tc ou oc) (he : e = 0 ∨ e = 1) (hu : t.c.length < 1000000000000) (hs : t.read < 100000000000) (hN : N ≤ t.c.length)
    (g0 : σ.get 0 = .ptr id 0 0) (g1 : σ.get 1 = .int .i64 e) (g8 : σ.get 8 = .int .i64 N) {Q : AExit → St → Prop}
    (hQ : ∀ σ' h' tc' bv, HeapOk h' → Rq h' id e cl { t with c := t.c.drop N, read := t.read + N } o tu tc' ou oc → Chg (fun i => i = id) h h' → (∀ i, Foot tu tc' ou oc i → Foot tu tc ou oc i ∨ h.next ≤ i) → Bytes h' bv (t.c.take N) →
      (∀ i, bv.own = some i → h.next ≤ i ∧ tc'.own ≠ some i) → σ'.get 6 = bv → σ'.get 7 = .nils → Q .ret ⟨σ', h'⟩) :
    wpc env (.seq (.ops a35_10) (.seq (.draw a35_11 a35_11b) (.seq (.draw a35_12 a35_12b) (.seq (.ops a35_13) .ret)))) ⟨σ, h⟩ Q := by
  have hid := ho.lt k.hat
  have l0 := re_c he k.hat
  obtain ⟨v1, sl1, b1⟩ := k.btc.to (kd := .i64) hN
  obtain ⟨x, h1, c1, ha1, hacc1, hlen1, hle1, ho1, hown1, hne1⟩ := append_own ho b1 (by simp; omega)
  have hat1 := hle1.2 _ _ _ k.hat
  have l1 := re_c he hat1
  have c01 : Chg (fun i => i = id) h h1 := hle1.chg
  have bc1 := k.btc.chg c01 fun i e e2 => k.nid.2.1 (by rw [e, e2])
  obtain ⟨v2, sl2, b2⟩ := bc1.from (kd := .i64) hN
  obtain ⟨y, h2, c2, ha2, hacc2, hlen2, hle2, ho2, hown2, hne2⟩ := append_own ho1 b2 (by simp; omega)
  have hat2 := hle2.2 _ _ _ hat1
  have t0 := rs_c he hat2 hacc2.row
  obtain ⟨h3, eh3⟩ : ∃ h3, h3 = h2.upd id 0 (RE e cl t o tu y ou oc) := ⟨_, rfl⟩
  rw [← eh3] at t0
  have ho3 : HeapOk h3 := by rw [eh3]; exact ho2.upd (at_look.1 hat2) _ _
  have hat3 : h3.at_ id 0 = some (RE e cl t o tu y ou oc) := by rw [eh3]; exact at_upd
  have l3 := re_read he hat3
  have t1 := rs_read he hat3 (t.read + N)
  have z : IntKind.wrap .i64 ((t.read : Int) + (N : Int)) = ((t.read + N : Nat) : Int) := wrap_nat (by omega) (by omega)
  obtain ⟨h4, eh4⟩ : ∃ h4, h4 = h3.upd id 0 (RE e cl { t with read := t.read + N } o tu y ou oc) := ⟨_, rfl⟩
  rw [← eh4] at t1
  have ho4 : HeapOk h4 := by rw [eh4]; exact ho3.upd (at_look.1 hat3) _ _
  have c12 : Chg (fun i => i = id) h1 h2 := hle2.chg
  have c24 : Chg (fun i => i = id) h2 h4 := by rw [eh4, eh3]; exact Chg.trans (S := fun i => i = id) (upd_chg rfl) (upd_chg rfl)
  have n1 := hle1.1
  have n2 := hle2.1
  have yid : y.own ≠ some id := fun e => by have := hown2 _ e; omega
  have xid : x.own ≠ some id := fun e => by have := hown1 _ e; omega
  obtain ⟨k4, f4⟩ := k.put ho ((c01.trans c12).trans c24) (cl' := cl) (t' := { t with c := t.c.drop N, read := t.read + N }) (o' := o) (tu' := tu) (tc' := y) (ou' := ou) (oc' := oc) (by rw [eh4]; exact at_upd) (.inl ⟨rfl, rfl⟩)
    (.inr ⟨hacc2.toBytes.chg c24 fun i e e2 => yid (by rw [e, e2]), fun i e => by have := hown2 i e; omega⟩) (.inl ⟨rfl, rfl⟩) (.inl ⟨rfl, rfl⟩)
  have bx := hacc1.toBytes.chg (c12.trans c24) fun i e e2 => xid (by rw [e, e2])
  simp only [a35_10, a35_11, a35_12, a35_13, wpc_skip, wpc_ops, wpc_draw, wpc_seq, wpc_cond, wpc_block, wpc_loop, wpc_exit, wpc_scope, wpc_ret, seqQ_norm, seqQ_ret, seqQ_exit, blockQ'_norm, blockQ'_ret, blockQ'_exit, roundQ_norm, roundQ_ret, roundQ_exit, condK_true, condK_false, wpo_nil', wpo_none, wpo_tt, wpo_ff, wpo_tf, wpo_ft, opsK_c, isC_none, isC_read, isC_write, wp1_call, callK_ret, wp1_mv', wp1_bin', wp1_un', wp1_eq', wp1_extract', wp1_pick', wp1_len', wp1_load', wp1_conv', wp1_store', wp1_idxAddr', wp1_append', wp1_mkIface', wp1_alloc', rd_t, rd_c, ok_t, ok_c, put_some, put_none, get_put, reduceIte, Nat.reduceEqDiff, AV.bool.injEq, Option.some.injEq, exists_eq_left', Option.map_some, Option.bind_some, opds_nil, opds_cons, opd_t, opd_c, aBin, aInt, decide_true, decide_false, negIf, wp1_nilCheck', wp1_fieldAddr', wp1_slice, op_slice, opdo_some, opdo_none, wp1_lit, op_lit, parts_nil, parts_cons, wp1_build, op_build, wp1_box, op_box, wpl_nil', wpl_none, wpl_some, logK_c, logQ_apply, guardL_tt, guardL_ff, guardL_tf, guardL_ft, drawQ_apply, isC c1, isC c2, wp1_idxAddrArr, op_idxAddrArr, aNil_ptr, aFieldAddr, Nat.zero_add, g0, g1, g8, ri_this he, aFill, List.length_nil, Nat.mul_one, l0, sl1, ha1, l1, sl2, ha2, t0, l3, z, t1]
  refine ⟨draw_of_cls (by cases c2 <;> rfl), draw_of_cls rfl, hQ _ _ _ _ ho4 k4 ((c01.trans c12).trans c24) f4 bx (fun i e => ⟨(hown1 i e).1, fun e2 => by have := hown1 i e; have := hown2 i e2; omega⟩) ?_ ?_⟩
  · simp only [get_put, reduceIte, Nat.reduceEqDiff]
  · simp only [get_put, reduceIte, Nat.reduceEqDiff]

theorem rread_spec {h : Heap} {id e : Nat} {n : Int} {cl : Bool} {t o : Sd} {tu tc ou oc : AV} (ho : HeapOk h) (k : Rq h id e cl t o tu tc ou oc) (he : e = 0 ∨ e = 1) (hu : t.c.length ≤ 4194304) (hs : t.read < 100000000000) :
    WC env 35 [.ptr id 0 0, .int .i64 e, .int .i64 n] h (fun x =>
      (readE cl t n ≠ none ∧ x = .ret ⟨.tup [.nils, errL (readE cl t n)], h, .write⟩) ∨ (readE cl t n = none ∧ ∃ h' tc' bv, HeapOk h' ∧ Rq h' id e cl { t with c := t.c.drop (readN t n), read := t.read + readN t n } o tu tc' ou oc ∧ Chg (fun i => i = id) h h' ∧
      (∀ i, Foot tu tc' ou oc i → Foot tu tc ou oc i ∨ h.next ≤ i) ∧ Bytes h' bv (t.c.take (readN t n)) ∧ (∀ i, bv.own = some i → h.next ≤ i ∧ tc'.own ≠ some i) ∧ x = .ret ⟨.tup [bv, .nils], h', .write⟩)) := by
  have l5 := re_cl k.hat
  have lc := re_c he k.hat
  have n1 := k.btc.lenOp
  refine call_body rfl rfl (.inl rfl) ?_
  by_cases c1 : n < 0
  · have z1 : (n < 0) = True := eq_true c1
    have hE : readE cl t n = some 1 := by simp only [readE]; rw [if_pos c1]
    rw [hE]
    simp only [a35, a35_0, a35_1, a35_3, a35_4, Slots.ofList, wpc_skip, wpc_ops, wpc_draw, wpc_seq, wpc_cond, wpc_block, wpc_loop, wpc_exit, wpc_scope, wpc_ret, seqQ_norm, seqQ_ret, seqQ_exit, blockQ'_norm, blockQ'_ret, blockQ'_exit, roundQ_norm, roundQ_ret, roundQ_exit, condK_true, condK_false, wpo_nil', wpo_none, wpo_tt, wpo_ff, wpo_tf, wpo_ft, opsK_c, isC_none, isC_read, isC_write, wp1_call, callK_ret, wp1_mv', wp1_bin', wp1_un', wp1_eq', wp1_extract', wp1_pick', wp1_len', wp1_load', wp1_conv', wp1_store', wp1_idxAddr', wp1_append', wp1_mkIface', wp1_alloc', rd_t, rd_c, ok_t, ok_c, put_some, put_none, get_put, reduceIte, Nat.reduceEqDiff, AV.bool.injEq, Option.some.injEq, exists_eq_left', Option.map_some, Option.bind_some, opds_nil, opds_cons, opd_t, opd_c, aBin, aInt, decide_true, decide_false, negIf, wp1_nilCheck', wp1_fieldAddr', wp1_slice, op_slice, opdo_some, opdo_none, wp1_lit, op_lit, parts_nil, parts_cons, wp1_build, op_build, wp1_box, op_box, wc_eq (rend_ok he _), aUn, Bool.not_true, wc_eq (no_spec _ _), z1]
    exact ⟨[.nils, lnk 1], by simp only [Env.results, Option.map_some, get_put, reduceIte, Nat.reduceEqDiff], .inl ⟨by simp, rfl⟩⟩
  have z1 : (n < 0) = False := eq_false c1
  obtain ⟨m, rfl⟩ : ∃ m : Nat, n = m := ⟨n.toNat, by omega⟩
  have rest : ∀ {σ2 : Slots} {R : AExit → St → Prop}, readE cl t m = none → σ2.get 0 = .ptr id 0 0 → σ2.get 1 = .int .i64 e → σ2.get 2 = .int .i64 m → (∀ σ' h' tc' bv, HeapOk h' → Rq h' id e cl { t with c := t.c.drop (readN t m), read := t.read + readN t m } o tu tc' ou oc → Chg (fun i => i = id) h h' → (∀ i, Foot tu tc' ou oc i → Foot tu tc ou oc i ∨ h.next ≤ i) → Bytes h' bv (t.c.take (readN t m)) →
      (∀ i, bv.own = some i → h.next ≤ i ∧ tc'.own ≠ some i) → σ'.get 6 = bv → σ'.get 7 = .nils → R .ret ⟨σ', h'⟩) →
      wpc env (.seq (.ops a35_7) (.seq (.seq (.ops a35_8) (.cond (.t 44) (.ops a35_9) .skip)) (.seq (.ops a35_10) (.seq (.draw a35_11 a35_11b) (.seq (.draw a35_12 a35_12b) (.seq (.ops a35_13) .ret)))))) ⟨σ2, h⟩ R := by
    intro σ2 R hE g0 g1 g2 hR
    by_cases c3 : m < t.c.length
    · have z3 : ((t.c.length : Int) > (m : Int)) = True := eq_true (by omega)
      have hN : readN t m = m := by simp only [readN]; omega
      rw [hN] at hR
      rw [wpc_seq, wpc_ops]
      simp only [a35_7, a35_8, a35_9, wpc_skip, wpc_ops, wpc_draw, wpc_seq, wpc_cond, wpc_block, wpc_loop, wpc_exit, wpc_scope, wpc_ret, seqQ_norm, seqQ_ret, seqQ_exit, blockQ'_norm, blockQ'_ret, blockQ'_exit, roundQ_norm, roundQ_ret, roundQ_exit, condK_true, condK_false, wpo_nil', wpo_none, wpo_tt, wpo_ff, wpo_tf, wpo_ft, opsK_c, isC_none, isC_read, isC_write, wp1_call, callK_ret, wp1_mv', wp1_bin', wp1_un', wp1_eq', wp1_extract', wp1_pick', wp1_len', wp1_load', wp1_conv', wp1_store', wp1_idxAddr', wp1_append', wp1_mkIface', wp1_alloc', rd_t, rd_c, ok_t, ok_c, put_some, put_none, get_put, reduceIte, Nat.reduceEqDiff, AV.bool.injEq, Option.some.injEq, exists_eq_left', Option.map_some, Option.bind_some, opds_nil, opds_cons, opd_t, opd_c, aBin, aInt, decide_true, decide_false, negIf, wp1_nilCheck', wp1_fieldAddr', wp1_slice, op_slice, opdo_some, opdo_none, wp1_lit, op_lit, parts_nil, parts_cons, wp1_build, op_build, wp1_box, op_box, wp1_idxAddrArr, op_idxAddrArr, aNil_ptr, aFieldAddr, Nat.zero_add, g0, g1, g2, ri_this he, lc, n1, z3]
      refine rread_tail ho k he (by omega) hs (by omega) ?_ ?_ ?_ hR
      · simp only [get_put, reduceIte, Nat.reduceEqDiff, g0]
      · simp only [get_put, reduceIte, Nat.reduceEqDiff, g1]
      · simp only [get_put, reduceIte, Nat.reduceEqDiff]
    · have z3 : ((t.c.length : Int) > (m : Int)) = False := eq_false (by omega)
      have hN : readN t m = t.c.length := by simp only [readN]; omega
      rw [hN] at hR
      rw [wpc_seq, wpc_ops]
      simp only [a35_7, a35_8, wpc_skip, wpc_ops, wpc_draw, wpc_seq, wpc_cond, wpc_block, wpc_loop, wpc_exit, wpc_scope, wpc_ret, seqQ_norm, seqQ_ret, seqQ_exit, blockQ'_norm, blockQ'_ret, blockQ'_exit, roundQ_norm, roundQ_ret, roundQ_exit, condK_true, condK_false, wpo_nil', wpo_none, wpo_tt, wpo_ff, wpo_tf, wpo_ft, opsK_c, isC_none, isC_read, isC_write, wp1_call, callK_ret, wp1_mv', wp1_bin', wp1_un', wp1_eq', wp1_extract', wp1_pick', wp1_len', wp1_load', wp1_conv', wp1_store', wp1_idxAddr', wp1_append', wp1_mkIface', wp1_alloc', rd_t, rd_c, ok_t, ok_c, put_some, put_none, get_put, reduceIte, Nat.reduceEqDiff, AV.bool.injEq, Option.some.injEq, exists_eq_left', Option.map_some, Option.bind_some, opds_nil, opds_cons, opd_t, opd_c, aBin, aInt, decide_true, decide_false, negIf, wp1_nilCheck', wp1_fieldAddr', wp1_slice, op_slice, opdo_some, opdo_none, wp1_lit, op_lit, parts_nil, parts_cons, wp1_build, op_build, wp1_box, op_box, wp1_idxAddrArr, op_idxAddrArr, aNil_ptr, aFieldAddr, Nat.zero_add, g0, g1, g2, ri_this he, lc, n1, z3]
      refine rread_tail ho k he (by omega) hs (by omega) ?_ ?_ ?_ hR
      · simp only [get_put, reduceIte, Nat.reduceEqDiff, g0]
      · simp only [get_put, reduceIte, Nat.reduceEqDiff, g1]
      · simp only [get_put, reduceIte, Nat.reduceEqDiff]
  have done : ∀ {σ : Slots} {h' : Heap} {a b : AV}, σ.get 6 = a → σ.get 7 = b → env.results ⟨σ, h'⟩ [.tmp 6, .tmp 7] = some [a, b] := by
    intro σ h' a b x y
    simp only [Env.results, Option.map_some, x, y]
  cases cl with
  | false =>
    have hE : readE false t m = none := by simp only [readE]; rw [if_neg c1, if_neg (by simp)]
    simp only [a35, a35_0, a35_1, a35_3, a35_5, Slots.ofList, wpc_skip, wpc_ops, wpc_draw, wpc_seq, wpc_cond, wpc_block, wpc_loop, wpc_exit, wpc_scope, wpc_ret, seqQ_norm, seqQ_ret, seqQ_exit, blockQ'_norm, blockQ'_ret, blockQ'_exit, roundQ_norm, roundQ_ret, roundQ_exit, condK_true, condK_false, wpo_nil', wpo_none, wpo_tt, wpo_ff, wpo_tf, wpo_ft, opsK_c, isC_none, isC_read, isC_write, wp1_call, callK_ret, wp1_mv', wp1_bin', wp1_un', wp1_eq', wp1_extract', wp1_pick', wp1_len', wp1_load', wp1_conv', wp1_store', wp1_idxAddr', wp1_append', wp1_mkIface', wp1_alloc', rd_t, rd_c, ok_t, ok_c, put_some, put_none, get_put, reduceIte, Nat.reduceEqDiff, AV.bool.injEq, Option.some.injEq, exists_eq_left', Option.map_some, Option.bind_some, opds_nil, opds_cons, opd_t, opd_c, aBin, aInt, decide_true, decide_false, negIf, wp1_nilCheck', wp1_fieldAddr', wp1_slice, op_slice, opdo_some, opdo_none, wp1_lit, op_lit, parts_nil, parts_cons, wp1_build, op_build, wp1_box, op_box, wc_eq (rend_ok he _), aUn, Bool.not_true, aNil_ptr, aFieldAddr, Nat.zero_add, z1, l5, aPick]
    refine rest hE ?_ ?_ ?_ fun σ' h' tc' bv q1 q2 q3 q4 q5 q6 q7 q8 => ⟨[bv, .nils], done q7 q8, .inr ⟨hE, h', tc', bv, q1, q2, q3, q4, q5, q6, rfl⟩⟩
    · simp only [get_put, reduceIte, Nat.reduceEqDiff]
    · simp only [get_put, reduceIte, Nat.reduceEqDiff]
    · simp only [get_put, reduceIte, Nat.reduceEqDiff]
  | true =>
    by_cases c2 : t.c = []
    · have hE : readE true t m = some 8 := by simp only [readE]; rw [if_neg c1, if_pos ⟨trivial, c2⟩]
      have z2 : ((t.c.length : Int) == 0) = true := by rw [c2]; rfl
      rw [hE]
      simp only [a35, a35_0, a35_1, a35_3, a35_5, a35_6, Slots.ofList, wpc_skip, wpc_ops, wpc_draw, wpc_seq, wpc_cond, wpc_block, wpc_loop, wpc_exit, wpc_scope, wpc_ret, seqQ_norm, seqQ_ret, seqQ_exit, blockQ'_norm, blockQ'_ret, blockQ'_exit, roundQ_norm, roundQ_ret, roundQ_exit, condK_true, condK_false, wpo_nil', wpo_none, wpo_tt, wpo_ff, wpo_tf, wpo_ft, opsK_c, isC_none, isC_read, isC_write, wp1_call, callK_ret, wp1_mv', wp1_bin', wp1_un', wp1_eq', wp1_extract', wp1_pick', wp1_len', wp1_load', wp1_conv', wp1_store', wp1_idxAddr', wp1_append', wp1_mkIface', wp1_alloc', rd_t, rd_c, ok_t, ok_c, put_some, put_none, get_put, reduceIte, Nat.reduceEqDiff, AV.bool.injEq, Option.some.injEq, exists_eq_left', Option.map_some, Option.bind_some, opds_nil, opds_cons, opd_t, opd_c, aBin, aInt, decide_true, decide_false, negIf, wp1_nilCheck', wp1_fieldAddr', wp1_slice, op_slice, opdo_some, opdo_none, wp1_lit, op_lit, parts_nil, parts_cons, wp1_build, op_build, wp1_box, op_box, wp1_idxAddrArr, op_idxAddrArr, wc_eq (rend_ok he _), aUn, Bool.not_true, aNil_ptr, aFieldAddr, Nat.zero_add, ri_this he, z1, l5, lc, n1, z2, aPick, wc_eq (no_spec _ _)]
      exact ⟨[.nils, lnk 8], by simp only [Env.results, Option.map_some, get_put, reduceIte, Nat.reduceEqDiff], .inl ⟨by simp, rfl⟩⟩
    · have hE : readE true t m = none := by simp only [readE]; rw [if_neg c1, if_neg (fun x => c2 x.2)]
      have hl : t.c.length ≠ 0 := fun x => c2 (List.length_eq_zero_iff.1 x)
      have z2 : ((t.c.length : Int) == 0) = false := by simpa using c2
      simp only [a35, a35_0, a35_1, a35_3, a35_5, Slots.ofList, wpc_skip, wpc_ops, wpc_draw, wpc_seq, wpc_cond, wpc_block, wpc_loop, wpc_exit, wpc_scope, wpc_ret, seqQ_norm, seqQ_ret, seqQ_exit, blockQ'_norm, blockQ'_ret, blockQ'_exit, roundQ_norm, roundQ_ret, roundQ_exit, condK_true, condK_false, wpo_nil', wpo_none, wpo_tt, wpo_ff, wpo_tf, wpo_ft, opsK_c, isC_none, isC_read, isC_write, wp1_call, callK_ret, wp1_mv', wp1_bin', wp1_un', wp1_eq', wp1_extract', wp1_pick', wp1_len', wp1_load', wp1_conv', wp1_store', wp1_idxAddr', wp1_append', wp1_mkIface', wp1_alloc', rd_t, rd_c, ok_t, ok_c, put_some, put_none, get_put, reduceIte, Nat.reduceEqDiff, AV.bool.injEq, Option.some.injEq, exists_eq_left', Option.map_some, Option.bind_some, opds_nil, opds_cons, opd_t, opd_c, aBin, aInt, decide_true, decide_false, negIf, wp1_nilCheck', wp1_fieldAddr', wp1_slice, op_slice, opdo_some, opdo_none, wp1_lit, op_lit, parts_nil, parts_cons, wp1_build, op_build, wp1_box, op_box, wp1_idxAddrArr, op_idxAddrArr, wc_eq (rend_ok he _), aUn, Bool.not_true, aNil_ptr, aFieldAddr, Nat.zero_add, ri_this he, z1, l5, lc, n1, z2, aPick]
      refine rest hE ?_ ?_ ?_ fun σ' h' tc' bv q1 q2 q3 q4 q5 q6 q7 q8 => ⟨[bv, .nils], done q7 q8, .inr ⟨hE, h', tc', bv, q1, q2, q3, q4, q5, q6, rfl⟩⟩
      · simp only [get_put, reduceIte, Nat.reduceEqDiff]
      · simp only [get_put, reduceIte, Nat.reduceEqDiff]
      · simp only [get_put, reduceIte, Nat.reduceEqDiff]
theorem rread_bad {h : Heap} {e : Int} {v w : AV} (h0 : e ≠ 0) (h1 : e ≠ 1) : WC env 35 [v, .int .i64 e, w] h (fun x => x = .ret ⟨.tup [.nils, lnk 2], h, .write⟩) := by
  refine call_body rfl rfl (.inl rfl) ?_
  simp only [a35, a35_0, a35_1, a35_2, Slots.ofList, wpc_skip, wpc_ops, wpc_draw, wpc_seq, wpc_cond, wpc_block, wpc_loop, wpc_exit, wpc_scope, wpc_ret, seqQ_norm, seqQ_ret, seqQ_exit, blockQ'_norm, blockQ'_ret, blockQ'_exit, roundQ_norm, roundQ_ret, roundQ_exit, condK_true, condK_false, wpo_nil', wpo_none, wpo_tt, wpo_ff, wpo_tf, wpo_ft, opsK_c, isC_none, isC_read, isC_write, wp1_call, callK_ret, wp1_mv', wp1_bin', wp1_un', wp1_eq', wp1_extract', wp1_pick', wp1_len', wp1_load', wp1_conv', wp1_store', wp1_idxAddr', wp1_append', wp1_mkIface', wp1_alloc', rd_t, rd_c, ok_t, ok_c, put_some, put_none, get_put, reduceIte, Nat.reduceEqDiff, AV.bool.injEq, Option.some.injEq, exists_eq_left', Option.map_some, Option.bind_some, opds_nil, opds_cons, opd_t, opd_c, aBin, aInt, decide_true, decide_false, negIf, wp1_nilCheck', wp1_fieldAddr', wp1_slice, op_slice, opdo_some, opdo_none, wp1_lit, op_lit, parts_nil, parts_cons, wp1_build, op_build, wp1_box, op_box, wc_eq (rend_bad h0 h1 _), aUn, Bool.not_false, wc_eq (no_spec _ _)]
  exact ⟨[.nils, lnk 2], by simp only [Env.results, Option.map_some, get_put, reduceIte, Nat.reduceEqDiff], rfl⟩
end Go.St
/-
  Package heddleref05: State.
-/
set_option linter.unusedVariables false
set_option linter.unusedSimpArgs false
set_option maxRecDepth 20000
namespace Go.St
open Go.AM

/-- R's State of an end: an object of its own is written, and read at the end -/
theorem rstate_spec {h : Heap} {id e : Nat} {cl : Bool} {t o : Sd} {tu tc ou oc : AV} (ho : HeapOk h) (k : Rq h id e cl t o tu tc ou oc) (he : e = 0 ∨ e = 1) :
    WC env 38 [.ptr id 0 0, .int .i64 e] h (fun x => ∃ h', HeapOk h' ∧ h.le h' ∧ x = .ret ⟨.tup [.agg (pipe cl t), .nils], h', .write⟩) := by
  obtain ⟨h1, eh1⟩ : ∃ h1, h1 = h.new pipe0 := ⟨_, rfl⟩
  have eh1' : h.new [AV.int .i64 0, .int .i64 0, .int .i64 0, .int .i64 0, .int .i64 0, .bool false, .bool false] = h1 := eh1.symm
  have ho1 : HeapOk h1 := by rw [eh1]; exact ho.new _
  have hle1 : h.le h1 := by rw [eh1]; exact le_new ho _
  have a1 : h1.at_ h.next 0 = some pipe0 := by rw [eh1]; exact at_new _
  have hat1 := hle1.2 _ _ _ k.hat
  have l0 := re_u he hat1
  have l1 := re_c he hat1
  have l2 := re_sent he hat1
  have l3 := re_moved he hat1
  have l4 := re_read he hat1
  have l5 := re_st he hat1
  have l6 := re_cl hat1
  rw [Nat.zero_add] at l0
  have n0 := (k.btu.chg (S := fun _ => False) hle1.chg (fun _ _ h => h)).lenOp
  have n1 := (k.btc.chg (S := fun _ => False) hle1.chg (fun _ _ h => h)).lenOp
  have b1 : aFill [AV.int .i64 0, .int .i64 0, .int .i64 0, .int .i64 0, .int .i64 0, .bool false, .bool false] [(0, 1, .int .i64 t.u.length), (1, 1, .int .i64 t.c.length), (2, 1, .int .i64 t.sent), (3, 1, .int .i64 t.moved), (4, 1, .int .i64 t.read), (5, 1, .bool t.st), (6, 1, .bool cl)] = some (pipe cl t) := rfl
  obtain ⟨h2, eh2⟩ : ∃ h2, h2 = h1.upd h.next 0 (pipe cl t) := ⟨_, rfl⟩
  have t1 : aStore h1 7 (.ptr h.next 0 0) (.agg (pipe cl t)) = some ⟨.undef, h2, .write⟩ := by
    rw [eh2]; simp only [aStore, a1, Option.bind_some]; rfl
  have f1 : aLoad h2 true 7 (.ptr h.next 0 0) = some ⟨.agg (pipe cl t), h2, .read⟩ := by
    rw [eh2]; simp only [aLoad, at_upd, Option.bind_some]; rfl
  refine call_body rfl rfl (.inl rfl) ?_
  simp only [a38, a38_0, a38_1, a38_3, Slots.ofList, wpc_skip, wpc_ops, wpc_draw, wpc_seq, wpc_cond, wpc_block, wpc_loop, wpc_exit, wpc_scope, wpc_ret, seqQ_norm, seqQ_ret, seqQ_exit, blockQ'_norm, blockQ'_ret, blockQ'_exit, roundQ_norm, roundQ_ret, roundQ_exit, condK_true, condK_false, wpo_nil', wpo_none, wpo_tt, wpo_ff, wpo_tf, wpo_ft, opsK_c, isC_none, isC_read, isC_write, wp1_call, callK_ret, wp1_mv', wp1_bin', wp1_un', wp1_eq', wp1_extract', wp1_pick', wp1_len', wp1_load', wp1_conv', wp1_store', wp1_idxAddr', wp1_append', wp1_mkIface', wp1_alloc', rd_t, rd_c, ok_t, ok_c, put_some, put_none, get_put, reduceIte, Nat.reduceEqDiff, AV.bool.injEq, Option.some.injEq, exists_eq_left', Option.map_some, Option.bind_some, opds_nil, opds_cons, opd_t, opd_c, aBin, aInt, decide_true, decide_false, negIf, wp1_nilCheck', wp1_fieldAddr', wp1_slice, op_slice, opdo_some, opdo_none, wp1_lit, op_lit, parts_nil, parts_cons, wp1_build, op_build, wp1_box, op_box, wpk_nil, wpk_none, wpk_tt, wpk_ff, wpk_tf, wpk_ft, clsK_c, logC_apply, drawC_apply, wpl_nil', wpl_none, wpl_some, logK_c, logQ_apply, guardL_tt, guardL_ff, guardL_tf, guardL_ft, drawQ_apply, wp1_idxAddrArr, op_idxAddrArr, wc_eq (rend_ok he _), aUn, Bool.not_true, aNil_ptr, aFieldAddr, Nat.zero_add, eh1', ri_this he, l0, l1, l2, l3, l4, l5, l6, n0, n1, b1, t1]
  refine ⟨draw_of_cls rfl, [.agg (pipe cl t), .nils], ?_, h2, by rw [eh2]; exact ho1.upd (at_look.1 a1) _ _, ⟨by rw [eh2]; exact hle1.1, fun i g cs e => ?_⟩, rfl⟩
  · simp only [Env.results, Option.map_some, Option.bind_some, get_put, reduceIte, Nat.reduceEqDiff, f1]
  · have := ho.lt e
    rw [eh2, at_upd_ne (by omega)]
    exact hle1.2 _ _ _ e
theorem rstate_bad {h : Heap} {e : Int} {v : AV} (ho : HeapOk h) (h0 : e ≠ 0) (h1 : e ≠ 1) :
    WC env 38 [v, .int .i64 e] h (fun x => ∃ h', HeapOk h' ∧ h.le h' ∧ x = .ret ⟨.tup [.agg pipe0, lnk 2], h', .write⟩) := by
  obtain ⟨h1', eh1⟩ : ∃ h1, h1 = h.new pipe0 := ⟨_, rfl⟩
  have ho1 : HeapOk h1' := by rw [eh1]; exact ho.new _
  have hle1 : h.le h1' := by rw [eh1]; exact le_new ho _
  have a1 : h1'.at_ h.next 0 = some pipe0 := by rw [eh1]; exact at_new _
  have eh1' : h.new [AV.int .i64 0, .int .i64 0, .int .i64 0, .int .i64 0, .int .i64 0, .bool false, .bool false] = h1' := eh1.symm
  have b0 : aFill [AV.int .i64 0, .int .i64 0, .int .i64 0, .int .i64 0, .int .i64 0, .bool false, .bool false] [] = some pipe0 := rfl
  obtain ⟨h2, eh2⟩ : ∃ h2, h2 = h1'.upd h.next 0 pipe0 := ⟨_, rfl⟩
  have t1 : aStore h1' 7 (.ptr h.next 0 0) (.agg pipe0) = some ⟨.undef, h2, .write⟩ := by
    rw [eh2]; simp only [aStore, a1, Option.bind_some]; rfl
  have l4 : aLoad h2 true 7 (.ptr h.next 0 0) = some ⟨.agg pipe0, h2, .read⟩ := by
    rw [eh2]; simp only [aLoad, at_upd, Option.bind_some]; rfl
  refine call_body rfl rfl (.inl rfl) ?_
  simp only [a38, a38_0, a38_1, a38_2, Slots.ofList, wpc_skip, wpc_ops, wpc_draw, wpc_seq, wpc_cond, wpc_block, wpc_loop, wpc_exit, wpc_scope, wpc_ret, seqQ_norm, seqQ_ret, seqQ_exit, blockQ'_norm, blockQ'_ret, blockQ'_exit, roundQ_norm, roundQ_ret, roundQ_exit, condK_true, condK_false, wpo_nil', wpo_none, wpo_tt, wpo_ff, wpo_tf, wpo_ft, opsK_c, isC_none, isC_read, isC_write, wp1_call, callK_ret, wp1_mv', wp1_bin', wp1_un', wp1_eq', wp1_extract', wp1_pick', wp1_len', wp1_load', wp1_conv', wp1_store', wp1_idxAddr', wp1_append', wp1_mkIface', wp1_alloc', rd_t, rd_c, ok_t, ok_c, put_some, put_none, get_put, reduceIte, Nat.reduceEqDiff, AV.bool.injEq, Option.some.injEq, exists_eq_left', Option.map_some, Option.bind_some, opds_nil, opds_cons, opd_t, opd_c, aBin, aInt, decide_true, decide_false, negIf, wp1_nilCheck', wp1_fieldAddr', wp1_slice, op_slice, opdo_some, opdo_none, wp1_lit, op_lit, parts_nil, parts_cons, wp1_build, op_build, wp1_box, op_box, eh1', wc_eq (rend_bad h0 h1 _), aUn, Bool.not_false, b0, wc_eq (no_spec _ _), t1]
  refine ⟨[.agg pipe0, lnk 2], ?_, h2, by rw [eh2]; exact ho1.upd (at_look.1 a1) _ _, ⟨by rw [eh2]; exact hle1.1, fun i g cs e => ?_⟩, rfl⟩
  · simp only [Env.results, Option.map_some, Option.bind_some, get_put, reduceIte, Nat.reduceEqDiff, l4]
  · have := ho.lt e
    rw [eh2, at_upd_ne (by omega)]
    exact hle1.2 _ _ _ e
end Go.St
