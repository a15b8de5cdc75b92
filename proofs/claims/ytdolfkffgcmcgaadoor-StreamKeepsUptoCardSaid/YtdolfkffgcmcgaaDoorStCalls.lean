/-
  Package stream: Send, move, Move.
-/
import Derived.Test.YtdolfkffgcmcgaaDoorStBase
set_option linter.unusedVariables false
set_option linter.unusedSimpArgs false
set_option maxRecDepth 20000
namespace Go.St
open Go.AM

theorem Sr.setU {h h1 : Heap} {id e : Nat} {cl : Bool} {t o : Sd} {tu tc ou oc v : AV} {bs : List UInt8} (ho : HeapOk h) (k : Sr h id e cl t o tu tc ou oc) (c : Heap.leBut tu.own h h1) (a : Acc h1 1 v (bs.map byteAV))
    (own : ∀ i, v.own = some i → tu.own = some i ∨ h.next ≤ i) {t' : Sd} (h2 : t'.u = bs) (h3 : t'.c = t.c) : Sr (h1.upd id 0 (SE e cl t' o v tc ou oc)) id e cl t' o v tc ou oc := by
  have hid := ho.lt k.hat
  have n1 : v.own ≠ some id := fun e => (own _ e).elim k.nid.1 fun e2 => by omega
  have s : ∀ i, v.own = some i → tc.own ≠ some i ∧ ou.own ≠ some i ∧ oc.own ≠ some i := fun i e => by
    rcases own i e with e | e
    · exact (k.sep i).1 e
    · exact ⟨fun e2 => by have := k.atc.ownLt ho e2; omega, fun e2 => by have := k.aou.ownLt ho e2; omega, fun e2 => by have := k.aoc.ownLt ho e2; omega⟩
  have up : Chg (fun i => i = id) h1 (h1.upd id 0 (SE e cl t' o v tc ou oc)) := upd_chg rfl
  have cc : Chg (fun i => tu.own = some i) h h1 := c.chg fun i e => e
  refine ⟨at_upd, ?_, ?_, ?_, ?_, ⟨n1, k.nid.2⟩, fun i => ⟨s i, (k.sep i).2⟩⟩
  · rw [h2]; exact a.chg up fun i e e2 => n1 (by rw [e, e2])
  · rw [h3]; exact (k.atc.chg cc fun i e e2 => ((k.sep i).1 e2).1 e).chg up fun i e e2 => k.nid.2.1 (by rw [e, e2])
  · exact (k.aou.chg cc fun i e e2 => ((k.sep i).1 e2).2.1 e).chg up fun i e e2 => k.nid.2.2.1 (by rw [e, e2])
  · exact (k.aoc.chg cc fun i e e2 => ((k.sep i).1 e2).2.2 e).chg up fun i e e2 => k.nid.2.2.2 (by rw [e, e2])

theorem Sr.setC {h h1 : Heap} {id e : Nat} {cl : Bool} {t o : Sd} {tu tc ou oc v : AV} {bs : List UInt8} (ho : HeapOk h) (k : Sr h id e cl t o tu tc ou oc) (c : Heap.leBut tc.own h h1) (a : Acc h1 1 v (bs.map byteAV))
    (own : ∀ i, v.own = some i → tc.own = some i ∨ h.next ≤ i) {t' : Sd} (h2 : t'.c = bs) (h3 : t'.u = t.u) : Sr (h1.upd id 0 (SE e cl t' o tu v ou oc)) id e cl t' o tu v ou oc := by
  have hid := ho.lt k.hat
  have n1 : v.own ≠ some id := fun e => (own _ e).elim k.nid.2.1 fun e2 => by omega
  have s : ∀ i, v.own = some i → tu.own ≠ some i ∧ ou.own ≠ some i ∧ oc.own ≠ some i := fun i e => by
    rcases own i e with e | e
    · exact ⟨fun e2 => ((k.sep i).1 e2).1 e, (k.sep i).2.1 e⟩
    · exact ⟨fun e2 => by have := k.atu.ownLt ho e2; omega, fun e2 => by have := k.aou.ownLt ho e2; omega, fun e2 => by have := k.aoc.ownLt ho e2; omega⟩
  have up : Chg (fun i => i = id) h1 (h1.upd id 0 (SE e cl t' o tu v ou oc)) := upd_chg rfl
  have cc : Chg (fun i => tc.own = some i) h h1 := c.chg fun i e => e
  refine ⟨at_upd, ?_, ?_, ?_, ?_, ⟨k.nid.1, n1, k.nid.2.2⟩, fun i => ⟨fun e => ⟨fun e2 => (s i e2).1 e, ((k.sep i).1 e).2⟩, fun e => (s i e).2, (k.sep i).2.2⟩⟩
  · rw [h3]; exact (k.atu.chg cc fun i e e2 => ((k.sep i).1 e).1 e2).chg up fun i e e2 => k.nid.1 (by rw [e, e2])
  · rw [h2]; exact a.chg up fun i e e2 => n1 (by rw [e, e2])
  · exact (k.aou.chg cc fun i e e2 => ((k.sep i).2.1 e2).1 e).chg up fun i e e2 => k.nid.2.2.1 (by rw [e, e2])
  · exact (k.aoc.chg cc fun i e e2 => ((k.sep i).2.1 e2).2 e).chg up fun i e e2 => k.nid.2.2.2 (by rw [e, e2])

/-- the other end's -/
theorem Sr.setOC {h h1 : Heap} {id e : Nat} {cl : Bool} {t o : Sd} {tu tc ou oc v : AV} {bs : List UInt8} (he : e = 0 ∨ e = 1) (ho : HeapOk h) (k : Sr h id e cl t o tu tc ou oc) (c : Heap.leBut oc.own h h1) (a : Acc h1 1 v (bs.map byteAV))
    (own : ∀ i, v.own = some i → oc.own = some i ∨ h.next ≤ i) {o' : Sd} (h2 : o'.c = bs) (h3 : o'.u = o.u) : Sr (h1.upd id 0 (SE e cl t o' tu tc ou v)) id e cl t o' tu tc ou v := by
  have x := (k.flip he).setC ho c a own (t' := o') h2 h3
  have he' : 1 - e = 0 ∨ 1 - e = 1 := by omega
  have y := x.flip he'
  rw [SE_flip he, show 1 - (1 - e) = e by omega] at y
  exact y

def sendE (cl : Bool) (t : Sd) (b : List UInt8) : Option Int := if cl = true then some 100 else if 4194304 < t.u.length + b.length then some 4 else none
def sendS (cl : Bool) (t : Sd) (b : List UInt8) : Sd := if cl = true then t else if 4194304 < t.u.length + b.length then t else { t with u := t.u ++ b, sent := t.sent + b.length }

theorem send_spec {h : Heap} {id e : Nat} {cl : Bool} {t o : Sd} {tu tc ou oc v : AV} {b : List UInt8} (ho : HeapOk h) (k : Sr h id e cl t o tu tc ou oc) (he : e = 0 ∨ e = 1) (hb : Bytes h v b) (hv : ∀ i, v.own = some i → i ≠ id ∧ tu.own ≠ some i)
    (hu : t.u.length ≤ 4194304) (hs : t.sent + b.length < 1000000000000) :
    WC env 12 [.ptr id 0 0, .int .i64 e, v] h (fun x => ∃ h' tu', HeapOk h' ∧ Sr h' id e cl (sendS cl t b) o tu' tc ou oc ∧ Chg (fun i => i = id ∨ tu.own = some i) h h' ∧ (∀ i, tu'.own = some i → tu.own = some i ∨ h.next ≤ i) ∧ x = .ret ⟨errV (sendE cl t b), h', .write⟩) := by
  have w1 := open_ok k.hat he
  refine call_body rfl rfl (.inl rfl) ?_
  cases cl with
  | true =>
    have w1' : WC env 24 [.ptr id 0 0, .int .i64 e] h (fun o => o = .ret ⟨refV 100, h, .write⟩) := w1
    simp only [a12, a12_0, a12_1, a12_2, a12_3, Slots.ofList, wpc_skip, wpc_ops, wpc_draw, wpc_seq, wpc_cond, wpc_block, wpc_loop, wpc_exit, wpc_scope, wpc_ret, seqQ_norm, seqQ_ret, seqQ_exit, blockQ'_norm, blockQ'_ret, blockQ'_exit, roundQ_norm, roundQ_ret, roundQ_exit, condK_true, condK_false, wpo_nil', wpo_none, wpo_some, opsK_apply, guardK_tt, guardK_ff, guardK_tf, guardK_ft, wp1_call, callK_ret, wp1_mv', wp1_bin', wp1_un', wp1_eq', wp1_extract', wp1_pick', wp1_len', wp1_load', wp1_conv', wp1_store', wp1_idxAddr', wp1_append', wp1_mkIface', wp1_alloc', rd_t, rd_c, ok_t, ok_c, put_some, put_none, get_put, reduceIte, Nat.reduceEqDiff, AV.bool.injEq, Option.some.injEq, exists_eq_left', Option.map_some, Option.bind_some, opds_nil, opds_cons, opd_t, opd_c, aBin, aInt, decide_true, decide_false, negIf, wp1_nilCheck', wp1_fieldAddr', wp1_slice, op_slice, opdo_some, opdo_none, wp1_lit, op_lit, parts_nil, parts_cons, wp1_build, op_build, wp1_box, op_box, wc_eq w1', eq_ref, Bool.not_false]
    exact ⟨[refV 100], by simp only [Env.results, Option.map_some, get_put, reduceIte], h, tu, ho, k, .refl, fun i e => .inl e, rfl⟩
  | false =>
    have w1' : WC env 24 [.ptr id 0 0, .int .i64 e] h (fun o => o = .ret ⟨.nili, h, .write⟩) := w1
    have l0 := se_u he k.hat
    have l1 := k.atu.lenOp (acc_len k.atu) h
    have l2 := hb.lenOp
    obtain ⟨m, hm⟩ : ∃ m, m = 4194304 - t.u.length := ⟨_, rfl⟩
    have e1 : IntKind.wrap .i64 (4194304 - (t.u.length : Int)) = (m : Int) := wrap_nat (by omega) (by omega)
    by_cases c1 : 4194304 < t.u.length + b.length
    · have z1 : ((b.length : Int) > (m : Int)) = True := eq_true (by omega)
      have hE : sendE false t b = some 4 := by simp only [sendE]; rw [if_neg (by simp), if_pos c1]
      have hS : sendS false t b = t := by simp only [sendS]; rw [if_neg (by simp), if_pos c1]
      rw [hE, hS]
      simp only [a12, a12_0, a12_1, a12_2, a12_4, a12_5, a12_6, Slots.ofList, wpc_skip, wpc_ops, wpc_draw, wpc_seq, wpc_cond, wpc_block, wpc_loop, wpc_exit, wpc_scope, wpc_ret, seqQ_norm, seqQ_ret, seqQ_exit, blockQ'_norm, blockQ'_ret, blockQ'_exit, roundQ_norm, roundQ_ret, roundQ_exit, condK_true, condK_false, wpo_nil', wpo_none, wpo_some, opsK_apply, guardK_tt, guardK_ff, guardK_tf, guardK_ft, wp1_call, callK_ret, wp1_mv', wp1_bin', wp1_un', wp1_eq', wp1_extract', wp1_pick', wp1_len', wp1_load', wp1_conv', wp1_store', wp1_idxAddr', wp1_append', wp1_mkIface', wp1_alloc', rd_t, rd_c, ok_t, ok_c, put_some, put_none, get_put, reduceIte, Nat.reduceEqDiff, AV.bool.injEq, Option.some.injEq, exists_eq_left', Option.map_some, Option.bind_some, opds_nil, opds_cons, opd_t, opd_c, aBin, aInt, decide_true, decide_false, negIf, wp1_nilCheck', wp1_fieldAddr', wp1_slice, op_slice, opdo_some, opdo_none, wp1_lit, op_lit, parts_nil, parts_cons, wp1_build, op_build, wp1_box, op_box, wp1_idxAddrArr, op_idxAddrArr, wc_eq w1', eq_nil, Bool.not_true, aNil_ptr, aFieldAddr, Nat.zero_add, Nat.add_zero, idx_this he, l0, l1, l2, e1, z1, wc_eq (ref_spec _ _)]
      exact ⟨[refV 4], by simp only [Env.results, Option.map_some, get_put, reduceIte], h, tu, ho, k, .refl, fun i e => .inl e, rfl⟩
    · have z1 : ((b.length : Int) > (m : Int)) = False := eq_false (by omega)
      have hE : sendE false t b = none := by simp only [sendE]; rw [if_neg (by simp), if_neg c1]
      have hS : sendS false t b = { t with u := t.u ++ b, sent := t.sent + b.length } := by simp only [sendS]; rw [if_neg (by simp), if_neg c1]
      rw [hE, hS]
      obtain ⟨c, hcn, hc⟩ := hb.cells
      obtain ⟨x, h1, c', ha, hacc, hle, ho1, hown, hlen⟩ := k.atu.append ho (bt := 1) (by omega) (acc_len k.atu) hb.len hc (by simp) (by omega) (by omega)
      rw [← List.map_append] at hacc
      have hat1 : h1.at_ id 0 = some (SE e false t o tu tc ou oc) := hle.2 _ _ _ (fun e => k.nid.1 e) k.hat
      have t0 := ss_u he hat1 hacc.row
      have kk := k.setU ho hle hacc hown (t' := { t with u := t.u ++ b }) rfl rfl
      have l3 := se_sent he (at_upd (h := h1) (id := id) (gen := 0) (cs := SE e false t o x tc ou oc))
      have e2 : IntKind.wrap .i64 ((t.sent : Int) + (b.length : Int)) = ((t.sent + b.length : Nat) : Int) := wrap_nat (by omega) (by omega)
      have t1 := ss_sent he (at_upd (h := h1) (id := id) (gen := 0) (cs := SE e false t o x tc ou oc)) (t.sent + b.length)
      have l4 : ∀ h2, aLenOp false h2 v = some ⟨.int .i64 b.length, h2, .none⟩ := fun h2 => by cases hb <;> rfl
      simp only [a12, a12_0, a12_1, a12_2, a12_4, a12_5, a12_7, a12_8, a12_9, Slots.ofList, wpc_skip, wpc_ops, wpc_draw, wpc_seq, wpc_cond, wpc_block, wpc_loop, wpc_exit, wpc_scope, wpc_ret, seqQ_norm, seqQ_ret, seqQ_exit, blockQ'_norm, blockQ'_ret, blockQ'_exit, roundQ_norm, roundQ_ret, roundQ_exit, condK_true, condK_false, wpo_nil', wpo_none, wpo_some, opsK_apply, guardK_tt, guardK_ff, guardK_tf, guardK_ft, wp1_call, callK_ret, wp1_mv', wp1_bin', wp1_un', wp1_eq', wp1_extract', wp1_pick', wp1_len', wp1_load', wp1_conv', wp1_store', wp1_idxAddr', wp1_append', wp1_mkIface', wp1_alloc', rd_t, rd_c, ok_t, ok_c, put_some, put_none, get_put, reduceIte, Nat.reduceEqDiff, AV.bool.injEq, Option.some.injEq, exists_eq_left', Option.map_some, Option.bind_some, opds_nil, opds_cons, opd_t, opd_c, aBin, aInt, decide_true, decide_false, negIf, wp1_nilCheck', wp1_fieldAddr', wp1_slice, op_slice, opdo_some, opdo_none, wp1_lit, op_lit, parts_nil, parts_cons, wp1_build, op_build, wp1_box, op_box, wp1_idxAddrArr, op_idxAddrArr, wc_eq w1', eq_nil, Bool.not_true, aNil_ptr, aFieldAddr, Nat.zero_add, Nat.add_zero, idx_this he, l0, l1, l4, e1, z1, ha, t0, l3, e2, t1]
      refine ⟨[.nili], by simp only [Env.results, Option.map_some, get_put, reduceIte], _, x, ?_, kk.put (cl' := false) (t' := { t with u := t.u ++ b, sent := t.sent + b.length }) (o' := o) rfl rfl rfl rfl, ?_, hown, rfl⟩
      · exact (ho1.upd (at_look.1 hat1) _ _).upd (at_look.1 at_upd) _ _
      · exact ((hle.chg fun i e => .inr e).trans (upd_chg (.inl rfl))).trans (upd_chg (.inl rfl))

theorem send_bad {h : Heap} {id e0 : Nat} {e : Int} {cl : Bool} {t o : Sd} {tu tc ou oc v : AV} (hat : h.at_ id 0 = some (SE e0 cl t o tu tc ou oc)) (h0 : e ≠ 0) (h1 : e ≠ 1) : WC env 12 [.ptr id 0 0, .int .i64 e, v] h (fun x => x = .ret ⟨refV 2, h, .write⟩) := by
  refine call_body rfl rfl (.inl rfl) ?_
  simp only [a12, a12_0, a12_1, a12_2, a12_3, Slots.ofList, wpc_skip, wpc_ops, wpc_draw, wpc_seq, wpc_cond, wpc_block, wpc_loop, wpc_exit, wpc_scope, wpc_ret, seqQ_norm, seqQ_ret, seqQ_exit, blockQ'_norm, blockQ'_ret, blockQ'_exit, roundQ_norm, roundQ_ret, roundQ_exit, condK_true, condK_false, wpo_nil', wpo_none, wpo_some, opsK_apply, guardK_tt, guardK_ff, guardK_tf, guardK_ft, wp1_call, callK_ret, wp1_mv', wp1_bin', wp1_un', wp1_eq', wp1_extract', wp1_pick', wp1_len', wp1_load', wp1_conv', wp1_store', wp1_idxAddr', wp1_append', wp1_mkIface', wp1_alloc', rd_t, rd_c, ok_t, ok_c, put_some, put_none, get_put, reduceIte, Nat.reduceEqDiff, AV.bool.injEq, Option.some.injEq, exists_eq_left', Option.map_some, Option.bind_some, opds_nil, opds_cons, opd_t, opd_c, aBin, aInt, decide_true, decide_false, negIf, wp1_nilCheck', wp1_fieldAddr', wp1_slice, op_slice, opdo_some, opdo_none, wp1_lit, op_lit, parts_nil, parts_cons, wp1_build, op_build, wp1_box, op_box, wc_eq (open_bad hat h0 h1), eq_ref, Bool.not_false]
  exact ⟨[refV 2], by simp only [Env.results, Option.map_some, get_put, reduceIte], rfl⟩

theorem bounds_to3 {len cap u m : Nat} {k k' : IntKind} (h1 : u ≤ m) (h2 : m ≤ cap) : bounds len cap none (some (.int k u)) (some (.int k' m)) = some (0, u, m) := by
  simp [bounds, sbound_ok h1, sbound_ok h2]
theorem to3 {h : Heap} {v : AV} {bs : List UInt8} (k : Bytes h v bs) {u : Nat} (h1 : u ≤ bs.length) : ∃ v', aSlice 1 v none (some (.int .i64 u)) (some (.int .i64 u)) = some v' ∧ Bytes h v' (bs.take u) := by
  obtain ⟨v', g1, g2⟩ := k.part (lo := none) (hi := some (.int .i64 u)) (mx := some (.int .i64 u)) (l := 0) (Nat.zero_le _) h1 (fun cap hc => ⟨u, Nat.le_refl _, by omega, bounds_to3 (Nat.le_refl _) (by omega)⟩)
  exact ⟨v', g1, by simpa using g2⟩

/-- bytes of an end come to the other one -/
theorem mv_spec {h : Heap} {id e n : Nat} {cl : Bool} {t o : Sd} {tu tc ou oc : AV} (ho : HeapOk h) (k : Sr h id e cl t o tu tc ou oc) (he : e = 0 ∨ e = 1) (hn : n ≤ t.u.length) (hu : t.u.length + o.c.length < 1000000000000) (hs : o.moved + n < 1000000000000) :
    WC env 26 [.ptr id 0 0, .int .i64 e, .int .i64 n] h (fun x => ∃ h' tu' oc', HeapOk h' ∧ Sr h' id e cl { t with u := t.u.drop n } { o with c := o.c ++ t.u.take n, moved := o.moved + n } tu' tc ou oc' ∧ Chg (fun i => i = id ∨ oc.own = some i) h h' ∧
      (∀ i, tu'.own = some i → h.next ≤ i) ∧ (∀ i, oc'.own = some i → oc.own = some i ∨ h.next ≤ i) ∧ x = .ret ⟨.tup [], h', .write⟩) := by
  have l0 := se_u he k.hat
  obtain ⟨v1, s1, b1⟩ := to3 k.atu.toBytes hn
  have l1 := se_oc he k.hat
  obtain ⟨c, hcn, hc⟩ := b1.cells
  have hl1 : (t.u.take n).length = n := by simp; omega
  obtain ⟨x, h1, c', ha, hacc, hle, ho1, hown, hlen⟩ := k.aoc.append ho (bt := 1) (by omega) (acc_len k.aoc) b1.len hc (by simp) (by omega) (by omega)
  rw [← List.map_append] at hacc
  have hat1 : h1.at_ id 0 = some (SE e cl t o tu tc ou oc) := hle.2 _ _ _ (fun e => k.nid.2.2.2 e) k.hat
  have t0 := ss_oc he hat1 hacc.row
  have kk := k.setOC he ho hle hacc hown (o' := { o with c := o.c ++ t.u.take n }) rfl rfl
  obtain ⟨h2, eh2⟩ : ∃ h2, h2 = h1.upd id 0 (SE e cl t o tu tc ou x) := ⟨_, rfl⟩
  have kk : Sr h2 id e cl t { o with c := o.c ++ t.u.take n } tu tc ou x := by rw [eh2]; exact kk
  rw [← eh2] at t0
  have ho2 : HeapOk h2 := by rw [eh2]; exact ho1.upd (at_look.1 hat1) _ _
  have hat2 : h2.at_ id 0 = some (SE e cl t o tu tc ou x) := by rw [eh2]; exact at_upd
  have l3 := se_omoved he hat2
  have e2 : IntKind.wrap .i64 ((o.moved : Int) + (n : Int)) = ((o.moved + n : Nat) : Int) := wrap_nat (by omega) (by omega)
  have t1 := ss_omoved he hat2 (o.moved + n)
  have kk3 := kk.put (cl' := cl) (t' := t) (o' := { o with c := o.c ++ t.u.take n, moved := o.moved + n }) rfl rfl rfl rfl
  obtain ⟨h3, eh3⟩ : ∃ h3, h3 = h2.upd id 0 (SE e cl t { o with moved := o.moved + n } tu tc ou x) := ⟨_, rfl⟩
  have kk3 : Sr h3 id e cl t { o with c := o.c ++ t.u.take n, moved := o.moved + n } tu tc ou x := by rw [eh3]; exact kk3
  rw [← eh3] at t1
  have ho3 : HeapOk h3 := by rw [eh3]; exact ho2.upd (at_look.1 hat2) _ _
  have hat3 : h3.at_ id 0 = some (SE e cl t { o with moved := o.moved + n } tu tc ou x) := by rw [eh3]; exact at_upd
  have l4 := se_u he hat3
  obtain ⟨v2, s2, b2⟩ := kk3.atu.toBytes.from (kd := .i64) hn
  obtain ⟨o', ev, v3, h4, ho4, hle4, hacc4, hown4, hne4, rfl⟩ := clone_spec ho3 b2 (by simp; omega)
  have w4 : WC env 28 [v2] h3 (fun o => o = _) := ⟨_, ev, rfl⟩
  have hat4 := hle4.2 _ _ _ hat3
  have t2 := ss_u he hat4 hacc4.row
  have kk5 := kk3.setU ho3 (hle4.but _) hacc4 (fun i e => .inr (hown4 i e).1) (t' := { t with u := t.u.drop n }) rfl rfl
  have hn3 : h.next ≤ h3.next := by rw [eh3, eh2]; exact hle.1
  refine call_body rfl rfl (.inl rfl) ?_
  simp only [a26, a26_0, a26_1, a26_2, a26_3, a26_4, Slots.ofList, wpc_skip, wpc_ops, wpc_draw, wpc_seq, wpc_cond, wpc_block, wpc_loop, wpc_exit, wpc_scope, wpc_ret, seqQ_norm, seqQ_ret, seqQ_exit, blockQ'_norm, blockQ'_ret, blockQ'_exit, roundQ_norm, roundQ_ret, roundQ_exit, condK_true, condK_false, wpo_nil', wpo_none, wpo_some, opsK_apply, guardK_tt, guardK_ff, guardK_tf, guardK_ft, wp1_call, callK_ret, wp1_mv', wp1_bin', wp1_un', wp1_eq', wp1_extract', wp1_pick', wp1_len', wp1_load', wp1_conv', wp1_store', wp1_idxAddr', wp1_append', wp1_mkIface', wp1_alloc', rd_t, rd_c, ok_t, ok_c, put_some, put_none, get_put, reduceIte, Nat.reduceEqDiff, AV.bool.injEq, Option.some.injEq, exists_eq_left', Option.map_some, Option.bind_some, opds_nil, opds_cons, opd_t, opd_c, aBin, aInt, decide_true, decide_false, negIf, wp1_nilCheck', wp1_fieldAddr', wp1_slice, op_slice, opdo_some, opdo_none, wp1_lit, op_lit, parts_nil, parts_cons, wp1_build, op_build, wp1_box, op_box, wpl_nil', wpl_none, wpl_some, logK_apply, logQ_apply, guardL_tt, guardL_ff, guardL_tf, guardL_ft, drawQ_apply, wp1_idxAddrArr, op_idxAddrArr, aNil_ptr, aFieldAddr, Nat.zero_add, Nat.add_zero, idx_this he, sub_end he, idx_other he, l0, s1, l1, ha, t0, l3, e2, t1, l4, s2, wc_eq w4, t2]
  refine ⟨draw_of_cls rfl, [], rfl, _, v3, x, ho4.upd (at_look.1 hat4) _ _, kk5, ?_, fun i e => Nat.le_trans hn3 (hown4 i e).1, hown, rfl⟩
  have c1 : Chg (fun i => i = id ∨ oc.own = some i) h h1 := hle.chg fun i e => .inr e
  have c2 : Chg (fun i => i = id ∨ oc.own = some i) h1 h2 := by rw [eh2]; exact upd_chg (.inl rfl)
  have c3 : Chg (fun i => i = id ∨ oc.own = some i) h2 h3 := by rw [eh3]; exact upd_chg (.inl rfl)
  exact (((c1.trans c2).trans c3).trans hle4.chg).trans (upd_chg (.inl rfl))
end Go.St
