/-
  Package stream: a stream in the heap; what its calls ask first.
-/
import Derived.Test.YtdolfkffgcmcgaaDoorStNobody
import Derived.Test.YtdolfkffgcmcgaaDoorAmMem
set_option linter.unusedVariables false
set_option linter.unusedSimpArgs false
set_option maxRecDepth 20000
namespace Go.St
open Go.AM

/-- a Fault of package stream -/
def refV (c : Int) : AV := .ifc 84 (.fp [.str [115, 116, 114, 101, 97, 109], .int .i64 0, .int .i64 c, .nili])
def errV : Option Int → AV
  | some c => refV c
  | none => .nili
theorem eq_ref (c : Int) : aEq (.iface true) (refV c) .nili = some false := rfl

/-- an end -/
structure Sd where
  u : List UInt8
  c : List UInt8
  sent : Nat
  moved : Nat
  read : Nat
  st : Bool
def Sd.zero : Sd := ⟨[], [], 0, 0, 0, false⟩

def SC (cl : Bool) (a b : Sd) (ua ca ub cb : AV) : List AV :=
  [.bool true, .bool cl, ua, ca, .int .i64 a.sent, .int .i64 a.moved, .int .i64 a.read, .bool a.st, ub, cb, .int .i64 b.sent, .int .i64 b.moved, .int .i64 b.read, .bool b.st]
/-- as seen from an end: this one, the other one -/
def SE (e : Nat) (cl : Bool) (t o : Sd) (tu tc ou oc : AV) : List AV := if e = 0 then SC cl t o tu tc ou oc else SC cl o t ou oc tu tc
def tb (e : Nat) : Nat := 2 + e * 6
def ob (e : Nat) : Nat := 2 + (1 - e) * 6

theorem SE_flip {e : Nat} (he : e = 0 ∨ e = 1) (cl : Bool) (t o : Sd) (tu tc ou oc : AV) : SE (1 - e) cl o t ou oc tu tc = SE e cl t o tu tc ou oc := by
  rcases he with rfl | rfl <;> rfl

section
variable {h : Heap} {id e : Nat} {cl : Bool} {t o : Sd} {tu tc ou oc : AV}
theorem se_made (e1 : h.at_ id 0 = some (SE e cl t o tu tc ou oc)) : aLoad h false 1 (.ptr id 0 0) = some ⟨.bool true, h, .read⟩ := by
  simp only [aLoad, e1, Option.bind_some, SE]; split <;> rfl
theorem se_cl (e1 : h.at_ id 0 = some (SE e cl t o tu tc ou oc)) : aLoad h false 1 (.ptr id 0 1) = some ⟨.bool cl, h, .read⟩ := by
  simp only [aLoad, e1, Option.bind_some, SE]; split <;> rfl
theorem se_u (he : e = 0 ∨ e = 1) (e1 : h.at_ id 0 = some (SE e cl t o tu tc ou oc)) : aLoad h false 1 (.ptr id 0 (tb e)) = some ⟨tu, h, .read⟩ := by
  rcases he with rfl | rfl <;> (simp only [aLoad, e1, Option.bind_some]; rfl)
theorem se_c (he : e = 0 ∨ e = 1) (e1 : h.at_ id 0 = some (SE e cl t o tu tc ou oc)) : aLoad h false 1 (.ptr id 0 (tb e + 1)) = some ⟨tc, h, .read⟩ := by
  rcases he with rfl | rfl <;> (simp only [aLoad, e1, Option.bind_some]; rfl)
theorem se_sent (he : e = 0 ∨ e = 1) (e1 : h.at_ id 0 = some (SE e cl t o tu tc ou oc)) : aLoad h false 1 (.ptr id 0 (tb e + 2)) = some ⟨.int .i64 t.sent, h, .read⟩ := by
  rcases he with rfl | rfl <;> (simp only [aLoad, e1, Option.bind_some]; rfl)
theorem se_moved (he : e = 0 ∨ e = 1) (e1 : h.at_ id 0 = some (SE e cl t o tu tc ou oc)) : aLoad h false 1 (.ptr id 0 (tb e + 3)) = some ⟨.int .i64 t.moved, h, .read⟩ := by
  rcases he with rfl | rfl <;> (simp only [aLoad, e1, Option.bind_some]; rfl)
theorem se_read (he : e = 0 ∨ e = 1) (e1 : h.at_ id 0 = some (SE e cl t o tu tc ou oc)) : aLoad h false 1 (.ptr id 0 (tb e + 4)) = some ⟨.int .i64 t.read, h, .read⟩ := by
  rcases he with rfl | rfl <;> (simp only [aLoad, e1, Option.bind_some]; rfl)
theorem se_st (he : e = 0 ∨ e = 1) (e1 : h.at_ id 0 = some (SE e cl t o tu tc ou oc)) : aLoad h false 1 (.ptr id 0 (tb e + 5)) = some ⟨.bool t.st, h, .read⟩ := by
  rcases he with rfl | rfl <;> (simp only [aLoad, e1, Option.bind_some]; rfl)
theorem se_oc (he : e = 0 ∨ e = 1) (e1 : h.at_ id 0 = some (SE e cl t o tu tc ou oc)) : aLoad h false 1 (.ptr id 0 (ob e + 1)) = some ⟨oc, h, .read⟩ := by
  rcases he with rfl | rfl <;> (simp only [aLoad, e1, Option.bind_some]; rfl)
theorem se_omoved (he : e = 0 ∨ e = 1) (e1 : h.at_ id 0 = some (SE e cl t o tu tc ou oc)) : aLoad h false 1 (.ptr id 0 (ob e + 3)) = some ⟨.int .i64 o.moved, h, .read⟩ := by
  rcases he with rfl | rfl <;> (simp only [aLoad, e1, Option.bind_some]; rfl)

theorem ss_u (he : e = 0 ∨ e = 1) (e1 : h.at_ id 0 = some (SE e cl t o tu tc ou oc)) {v : AV} (hv : v.row = some [v]) : aStore h 1 (.ptr id 0 (tb e)) v = some ⟨.undef, h.upd id 0 (SE e cl t o v tc ou oc), .write⟩ := by
  rcases he with rfl | rfl <;> (simp only [aStore, e1, Option.bind_some, hv]; rfl)
theorem ss_c (he : e = 0 ∨ e = 1) (e1 : h.at_ id 0 = some (SE e cl t o tu tc ou oc)) {v : AV} (hv : v.row = some [v]) : aStore h 1 (.ptr id 0 (tb e + 1)) v = some ⟨.undef, h.upd id 0 (SE e cl t o tu v ou oc), .write⟩ := by
  rcases he with rfl | rfl <;> (simp only [aStore, e1, Option.bind_some, hv]; rfl)
theorem ss_sent (he : e = 0 ∨ e = 1) (e1 : h.at_ id 0 = some (SE e cl t o tu tc ou oc)) (n : Nat) : aStore h 1 (.ptr id 0 (tb e + 2)) (.int .i64 n) = some ⟨.undef, h.upd id 0 (SE e cl { t with sent := n } o tu tc ou oc), .write⟩ := by
  rcases he with rfl | rfl <;> (simp only [aStore, e1, Option.bind_some]; rfl)
theorem ss_read (he : e = 0 ∨ e = 1) (e1 : h.at_ id 0 = some (SE e cl t o tu tc ou oc)) (n : Nat) : aStore h 1 (.ptr id 0 (tb e + 4)) (.int .i64 n) = some ⟨.undef, h.upd id 0 (SE e cl { t with read := n } o tu tc ou oc), .write⟩ := by
  rcases he with rfl | rfl <;> (simp only [aStore, e1, Option.bind_some]; rfl)
theorem ss_st (he : e = 0 ∨ e = 1) (e1 : h.at_ id 0 = some (SE e cl t o tu tc ou oc)) (b : Bool) : aStore h 1 (.ptr id 0 (tb e + 5)) (.bool b) = some ⟨.undef, h.upd id 0 (SE e cl { t with st := b } o tu tc ou oc), .write⟩ := by
  rcases he with rfl | rfl <;> (simp only [aStore, e1, Option.bind_some]; rfl)
theorem ss_oc (he : e = 0 ∨ e = 1) (e1 : h.at_ id 0 = some (SE e cl t o tu tc ou oc)) {v : AV} (hv : v.row = some [v]) : aStore h 1 (.ptr id 0 (ob e + 1)) v = some ⟨.undef, h.upd id 0 (SE e cl t o tu tc ou v), .write⟩ := by
  rcases he with rfl | rfl <;> (simp only [aStore, e1, Option.bind_some, hv]; rfl)
theorem ss_omoved (he : e = 0 ∨ e = 1) (e1 : h.at_ id 0 = some (SE e cl t o tu tc ou oc)) (n : Nat) : aStore h 1 (.ptr id 0 (ob e + 3)) (.int .i64 n) = some ⟨.undef, h.upd id 0 (SE e cl t { o with moved := n } tu tc ou oc), .write⟩ := by
  rcases he with rfl | rfl <;> (simp only [aStore, e1, Option.bind_some]; rfl)
end

theorem idx_this {e : Nat} (he : e = 0 ∨ e = 1) (id : Nat) : aIdxAddrArr 6 2 (.ptr id 0 2) (.int .i64 (e : Int)) = some (.ptr id 0 (tb e)) := by
  rcases he with rfl | rfl <;> rfl
theorem idx_other {e : Nat} (he : e = 0 ∨ e = 1) (id : Nat) : aIdxAddrArr 6 2 (.ptr id 0 2) (.int .i64 ((1 - e : Nat) : Int)) = some (.ptr id 0 (ob e)) := by
  rcases he with rfl | rfl <;> rfl
theorem sub_end {e : Nat} (he : e = 0 ∨ e = 1) : IntKind.wrap .i64 (1 - (e : Int)) = ((1 - e : Nat) : Int) := wrap_nat (by omega) (by omega)

/-- a stream, with what its four slices are -/
structure Sr (h : Heap) (id e : Nat) (cl : Bool) (t o : Sd) (tu tc ou oc : AV) : Prop where
  hat : h.at_ id 0 = some (SE e cl t o tu tc ou oc)
  atu : Acc h 1 tu (t.u.map byteAV)
  atc : Acc h 1 tc (t.c.map byteAV)
  aou : Acc h 1 ou (o.u.map byteAV)
  aoc : Acc h 1 oc (o.c.map byteAV)
  nid : tu.own ≠ some id ∧ tc.own ≠ some id ∧ ou.own ≠ some id ∧ oc.own ≠ some id
  sep : ∀ i, (tu.own = some i → tc.own ≠ some i ∧ ou.own ≠ some i ∧ oc.own ≠ some i) ∧ (tc.own = some i → ou.own ≠ some i ∧ oc.own ≠ some i) ∧ (ou.own = some i → oc.own ≠ some i)

/-- the objects in which its slices lie -/
def Foot (tu tc ou oc : AV) (i : Nat) : Prop := tu.own = some i ∨ tc.own = some i ∨ ou.own = some i ∨ oc.own = some i

theorem Sr.flip {h : Heap} {id e : Nat} {cl : Bool} {t o : Sd} {tu tc ou oc : AV} (he : e = 0 ∨ e = 1) (k : Sr h id e cl t o tu tc ou oc) : Sr h id (1 - e) cl o t ou oc tu tc := by
  obtain ⟨k1, k2, k3, k4, k5, k6, k7⟩ := k
  refine ⟨by rw [SE_flip he]; exact k1, k4, k5, k2, k3, ⟨k6.2.2.1, k6.2.2.2, k6.1, k6.2.1⟩, fun i => ⟨fun e1 => ⟨(k7 i).2.2 e1, fun e2 => ((k7 i).1 e2).2.1 e1, fun e2 => ((k7 i).2.1 e2).1 e1⟩, fun e1 => ⟨fun e2 => ((k7 i).1 e2).2.2 e1, fun e2 => ((k7 i).2.1 e2).2 e1⟩, fun e1 => ((k7 i).1 e1).1⟩⟩

theorem Sr.chg {S : Nat → Prop} {h h' : Heap} {id e : Nat} {cl : Bool} {t o : Sd} {tu tc ou oc : AV} (k : Sr h id e cl t o tu tc ou oc) (c : Chg S h h') (h1 : ¬ S id) (h2 : ∀ i, Foot tu tc ou oc i → ¬ S i) : Sr h' id e cl t o tu tc ou oc :=
  ⟨c.2 _ _ _ h1 k.hat, k.atu.chg c fun i e => h2 i (.inl e), k.atc.chg c fun i e => h2 i (.inr (.inl e)), k.aou.chg c fun i e => h2 i (.inr (.inr (.inl e))), k.aoc.chg c fun i e => h2 i (.inr (.inr (.inr e))), k.nid, k.sep⟩

theorem Sr.footLt {h : Heap} {id e : Nat} {cl : Bool} {t o : Sd} {tu tc ou oc : AV} (ho : HeapOk h) (k : Sr h id e cl t o tu tc ou oc) {i : Nat} (f : Foot tu tc ou oc i) : i < h.next := by
  rcases f with f | f | f | f
  · exact k.atu.ownLt ho f
  · exact k.atc.ownLt ho f
  · exact k.aou.ownLt ho f
  · exact k.aoc.ownLt ho f

theorem acc_len {h : Heap} {v : AV} {bs : List UInt8} (k : Acc h 1 v (bs.map byteAV)) : aLen v = some bs.length := by
  obtain ⟨n, h1, h2⟩ := k.len
  rw [h1]
  simp at h2
  rw [h2]

/-- only this object has changed, to the same slices -/
theorem Sr.put {h : Heap} {id e : Nat} {cl cl' : Bool} {t o t' o' : Sd} {tu tc ou oc : AV} (k : Sr h id e cl t o tu tc ou oc) (h1 : t'.u = t.u) (h2 : t'.c = t.c) (h3 : o'.u = o.u) (h4 : o'.c = o.c) : Sr (h.upd id 0 (SE e cl' t' o' tu tc ou oc)) id e cl' t' o' tu tc ou oc := by
  obtain ⟨k1, k2, k3, k4, k5, k6, k7⟩ := k
  have c : Chg (fun i => i = id) h (h.upd id 0 (SE e cl' t' o' tu tc ou oc)) := upd_chg rfl
  refine ⟨at_upd, ?_, ?_, ?_, ?_, k6, k7⟩
  · rw [h1]; exact k2.chg c fun i e e2 => k6.1 (by rw [e, e2])
  · rw [h2]; exact k3.chg c fun i e e2 => k6.2.1 (by rw [e, e2])
  · rw [h3]; exact k4.chg c fun i e e2 => k6.2.2.1 (by rw [e, e2])
  · rw [h4]; exact k5.chg c fun i e e2 => k6.2.2.2 (by rw [e, e2])

/-! ### the calls -/
theorem ref_spec (c : Int) (h : Heap) : WC env 25 [.int .i64 c] h (fun o => o = .ret ⟨refV c, h, .none⟩) := by
  refine call_pure rfl rfl rfl rfl ?_
  simp [a25, a25_0, a25_1, Slots.ofList, get_put, pureQ, Env.results, oneOrTup, refV, aFill, splice, frz_noRef]

theorem new_spec (h : Heap) : WC env 10 [] h (fun o => o = .ret ⟨.ptr h.next 0 0, h.new (SE 0 false .zero .zero .nils .nils .nils .nils), .write⟩) := by
  refine call_body rfl rfl (.inl rfl) ?_
  have y1 : aFill [.bool false, .bool false, .nils, .nils, .int .i64 0, .int .i64 0, .int .i64 0, .bool false, .nils, .nils, .int .i64 0, .int .i64 0, .int .i64 0, .bool false] [(0, 1, .bool true)] = some (SE 0 false .zero .zero .nils .nils .nils .nils) := rfl
  have y2 : (SE 0 false .zero .zero .nils .nils .nils .nils).length = 14 := rfl
  simp only [a10, a10_0, a10_1, Slots.ofList, wpc_skip, wpc_ops, wpc_draw, wpc_seq, wpc_cond, wpc_block, wpc_loop, wpc_exit, wpc_scope, wpc_ret, seqQ_norm, seqQ_ret, seqQ_exit, blockQ'_norm, blockQ'_ret, blockQ'_exit, roundQ_norm, roundQ_ret, roundQ_exit, condK_true, condK_false, wpo_nil', wpo_none, wpo_some, opsK_apply, guardK_tt, guardK_ff, guardK_tf, guardK_ft, wp1_call, callK_ret, wp1_mv', wp1_bin', wp1_un', wp1_eq', wp1_extract', wp1_pick', wp1_len', wp1_load', wp1_conv', wp1_store', wp1_idxAddr', wp1_append', wp1_mkIface', wp1_alloc', rd_t, rd_c, ok_t, ok_c, put_some, put_none, get_put, reduceIte, Nat.reduceEqDiff, AV.bool.injEq, Option.some.injEq, exists_eq_left', Option.map_some, Option.bind_some, opds_nil, opds_cons, opd_t, opd_c, aBin, aInt, decide_true, decide_false, negIf, wp1_nilCheck', wp1_fieldAddr', wp1_slice, op_slice, opdo_some, opdo_none, wp1_lit, op_lit, parts_nil, parts_cons, wp1_build, op_build, wp1_box, op_box, y1, row_agg, if_pos y2]
  exact ⟨[.ptr h.next 0 0], by simp only [Env.results, Option.map_some, get_put, reduceIte, Nat.reduceEqDiff], rfl⟩

theorem asked_ok {h : Heap} {id e0 e : Nat} {cl : Bool} {t o : Sd} {tu tc ou oc : AV} (hat : h.at_ id 0 = some (SE e0 cl t o tu tc ou oc)) (he : e = 0 ∨ e = 1) : WC env 29 [.ptr id 0 0, .int .i64 e] h (fun o => o = .ret ⟨.nili, h, .write⟩) := by
  refine call_body rfl rfl (.inl rfl) ?_
  have l0 := se_made hat
  rcases he with rfl | rfl
  · have z0 : (((0 : Nat) : Int) != 0) = false := rfl
    simp only [a29, a29_0, a29_1, a29_3, a29_5, Slots.ofList, wpc_skip, wpc_ops, wpc_draw, wpc_seq, wpc_cond, wpc_block, wpc_loop, wpc_exit, wpc_scope, wpc_ret, seqQ_norm, seqQ_ret, seqQ_exit, blockQ'_norm, blockQ'_ret, blockQ'_exit, roundQ_norm, roundQ_ret, roundQ_exit, condK_true, condK_false, wpo_nil', wpo_none, wpo_some, opsK_apply, guardK_tt, guardK_ff, guardK_tf, guardK_ft, wp1_call, callK_ret, wp1_mv', wp1_bin', wp1_un', wp1_eq', wp1_extract', wp1_pick', wp1_len', wp1_load', wp1_conv', wp1_store', wp1_idxAddr', wp1_append', wp1_mkIface', wp1_alloc', rd_t, rd_c, ok_t, ok_c, put_some, put_none, get_put, reduceIte, Nat.reduceEqDiff, AV.bool.injEq, Option.some.injEq, exists_eq_left', Option.map_some, Option.bind_some, opds_nil, opds_cons, opd_t, opd_c, aBin, aInt, decide_true, decide_false, negIf, wp1_nilCheck', wp1_fieldAddr', wp1_slice, op_slice, opdo_some, opdo_none, wp1_lit, op_lit, parts_nil, parts_cons, wp1_build, op_build, wp1_box, op_box, aEq_ptr, aNil_ptr, aFieldAddr, Nat.add_zero, l0, aUn, Bool.not_true, aPick, z0]
    exact ⟨[.nili], by simp only [Env.results, Option.map_some, get_put, reduceIte], rfl⟩
  · have z0 : (((1 : Nat) : Int) != 0) = true := rfl
    have z1 : (((1 : Nat) : Int) != 1) = false := rfl
    simp only [a29, a29_0, a29_1, a29_3, a29_5, Slots.ofList, wpc_skip, wpc_ops, wpc_draw, wpc_seq, wpc_cond, wpc_block, wpc_loop, wpc_exit, wpc_scope, wpc_ret, seqQ_norm, seqQ_ret, seqQ_exit, blockQ'_norm, blockQ'_ret, blockQ'_exit, roundQ_norm, roundQ_ret, roundQ_exit, condK_true, condK_false, wpo_nil', wpo_none, wpo_some, opsK_apply, guardK_tt, guardK_ff, guardK_tf, guardK_ft, wp1_call, callK_ret, wp1_mv', wp1_bin', wp1_un', wp1_eq', wp1_extract', wp1_pick', wp1_len', wp1_load', wp1_conv', wp1_store', wp1_idxAddr', wp1_append', wp1_mkIface', wp1_alloc', rd_t, rd_c, ok_t, ok_c, put_some, put_none, get_put, reduceIte, Nat.reduceEqDiff, AV.bool.injEq, Option.some.injEq, exists_eq_left', Option.map_some, Option.bind_some, opds_nil, opds_cons, opd_t, opd_c, aBin, aInt, decide_true, decide_false, negIf, wp1_nilCheck', wp1_fieldAddr', wp1_slice, op_slice, opdo_some, opdo_none, wp1_lit, op_lit, parts_nil, parts_cons, wp1_build, op_build, wp1_box, op_box, aEq_ptr, aNil_ptr, aFieldAddr, Nat.add_zero, l0, aUn, Bool.not_true, aPick, z0, z1]
    exact ⟨[.nili], by simp only [Env.results, Option.map_some, get_put, reduceIte], rfl⟩

theorem asked_bad {h : Heap} {id e0 : Nat} {e : Int} {cl : Bool} {t o : Sd} {tu tc ou oc : AV} (hat : h.at_ id 0 = some (SE e0 cl t o tu tc ou oc)) (h0 : e ≠ 0) (h1 : e ≠ 1) : WC env 29 [.ptr id 0 0, .int .i64 e] h (fun o => o = .ret ⟨refV 2, h, .write⟩) := by
  refine call_body rfl rfl (.inl rfl) ?_
  have l0 := se_made hat
  have z0 : (e != 0) = true := by simp [h0]
  have z1 : (e != 1) = true := by simp [h1]
  simp only [a29, a29_0, a29_1, a29_3, a29_4, Slots.ofList, wpc_skip, wpc_ops, wpc_draw, wpc_seq, wpc_cond, wpc_block, wpc_loop, wpc_exit, wpc_scope, wpc_ret, seqQ_norm, seqQ_ret, seqQ_exit, blockQ'_norm, blockQ'_ret, blockQ'_exit, roundQ_norm, roundQ_ret, roundQ_exit, condK_true, condK_false, wpo_nil', wpo_none, wpo_some, opsK_apply, guardK_tt, guardK_ff, guardK_tf, guardK_ft, wp1_call, callK_ret, wp1_mv', wp1_bin', wp1_un', wp1_eq', wp1_extract', wp1_pick', wp1_len', wp1_load', wp1_conv', wp1_store', wp1_idxAddr', wp1_append', wp1_mkIface', wp1_alloc', rd_t, rd_c, ok_t, ok_c, put_some, put_none, get_put, reduceIte, Nat.reduceEqDiff, AV.bool.injEq, Option.some.injEq, exists_eq_left', Option.map_some, Option.bind_some, opds_nil, opds_cons, opd_t, opd_c, aBin, aInt, decide_true, decide_false, negIf, wp1_nilCheck', wp1_fieldAddr', wp1_slice, op_slice, opdo_some, opdo_none, wp1_lit, op_lit, parts_nil, parts_cons, wp1_build, op_build, wp1_box, op_box, aEq_ptr, aNil_ptr, aFieldAddr, Nat.add_zero, l0, aUn, Bool.not_true, aPick, z0, z1, wc_eq (ref_spec _ _)]
  exact ⟨[refV 2], by simp only [Env.results, Option.map_some, get_put, reduceIte], rfl⟩

theorem open_ok {h : Heap} {id e0 e : Nat} {cl : Bool} {t o : Sd} {tu tc ou oc : AV} (hat : h.at_ id 0 = some (SE e0 cl t o tu tc ou oc)) (he : e = 0 ∨ e = 1) : WC env 24 [.ptr id 0 0, .int .i64 e] h (fun o => o = .ret ⟨errV (if cl = true then some 100 else none), h, .write⟩) := by
  refine call_body rfl rfl (.inl rfl) ?_
  have l0 := se_cl hat
  cases cl
  · simp only [a24, a24_0, a24_1, a24_2, a24_4, a24_6, Slots.ofList, wpc_skip, wpc_ops, wpc_draw, wpc_seq, wpc_cond, wpc_block, wpc_loop, wpc_exit, wpc_scope, wpc_ret, seqQ_norm, seqQ_ret, seqQ_exit, blockQ'_norm, blockQ'_ret, blockQ'_exit, roundQ_norm, roundQ_ret, roundQ_exit, condK_true, condK_false, wpo_nil', wpo_none, wpo_some, opsK_apply, guardK_tt, guardK_ff, guardK_tf, guardK_ft, wp1_call, callK_ret, wp1_mv', wp1_bin', wp1_un', wp1_eq', wp1_extract', wp1_pick', wp1_len', wp1_load', wp1_conv', wp1_store', wp1_idxAddr', wp1_append', wp1_mkIface', wp1_alloc', rd_t, rd_c, ok_t, ok_c, put_some, put_none, get_put, reduceIte, Nat.reduceEqDiff, AV.bool.injEq, Option.some.injEq, exists_eq_left', Option.map_some, Option.bind_some, opds_nil, opds_cons, opd_t, opd_c, aBin, aInt, decide_true, decide_false, negIf, wp1_nilCheck', wp1_fieldAddr', wp1_slice, op_slice, opdo_some, opdo_none, wp1_lit, op_lit, parts_nil, parts_cons, wp1_build, op_build, wp1_box, op_box, wc_eq (asked_ok hat he), eq_nil, Bool.not_true, aNil_ptr, aFieldAddr, Nat.zero_add, l0]
    exact ⟨[.nili], by simp only [Env.results, Option.map_some, get_put, reduceIte], rfl⟩
  · simp only [a24, a24_0, a24_1, a24_2, a24_4, a24_5, Slots.ofList, wpc_skip, wpc_ops, wpc_draw, wpc_seq, wpc_cond, wpc_block, wpc_loop, wpc_exit, wpc_scope, wpc_ret, seqQ_norm, seqQ_ret, seqQ_exit, blockQ'_norm, blockQ'_ret, blockQ'_exit, roundQ_norm, roundQ_ret, roundQ_exit, condK_true, condK_false, wpo_nil', wpo_none, wpo_some, opsK_apply, guardK_tt, guardK_ff, guardK_tf, guardK_ft, wp1_call, callK_ret, wp1_mv', wp1_bin', wp1_un', wp1_eq', wp1_extract', wp1_pick', wp1_len', wp1_load', wp1_conv', wp1_store', wp1_idxAddr', wp1_append', wp1_mkIface', wp1_alloc', rd_t, rd_c, ok_t, ok_c, put_some, put_none, get_put, reduceIte, Nat.reduceEqDiff, AV.bool.injEq, Option.some.injEq, exists_eq_left', Option.map_some, Option.bind_some, opds_nil, opds_cons, opd_t, opd_c, aBin, aInt, decide_true, decide_false, negIf, wp1_nilCheck', wp1_fieldAddr', wp1_slice, op_slice, opdo_some, opdo_none, wp1_lit, op_lit, parts_nil, parts_cons, wp1_build, op_build, wp1_box, op_box, wc_eq (asked_ok hat he), eq_nil, Bool.not_true, aNil_ptr, aFieldAddr, Nat.zero_add, l0, wc_eq (ref_spec _ _)]
    exact ⟨[refV 100], by simp only [Env.results, Option.map_some, get_put, reduceIte], rfl⟩

theorem open_bad {h : Heap} {id e0 : Nat} {e : Int} {cl : Bool} {t o : Sd} {tu tc ou oc : AV} (hat : h.at_ id 0 = some (SE e0 cl t o tu tc ou oc)) (h0 : e ≠ 0) (h1 : e ≠ 1) : WC env 24 [.ptr id 0 0, .int .i64 e] h (fun o => o = .ret ⟨refV 2, h, .write⟩) := by
  refine call_body rfl rfl (.inl rfl) ?_
  simp only [a24, a24_0, a24_1, a24_2, a24_3, Slots.ofList, wpc_skip, wpc_ops, wpc_draw, wpc_seq, wpc_cond, wpc_block, wpc_loop, wpc_exit, wpc_scope, wpc_ret, seqQ_norm, seqQ_ret, seqQ_exit, blockQ'_norm, blockQ'_ret, blockQ'_exit, roundQ_norm, roundQ_ret, roundQ_exit, condK_true, condK_false, wpo_nil', wpo_none, wpo_some, opsK_apply, guardK_tt, guardK_ff, guardK_tf, guardK_ft, wp1_call, callK_ret, wp1_mv', wp1_bin', wp1_un', wp1_eq', wp1_extract', wp1_pick', wp1_len', wp1_load', wp1_conv', wp1_store', wp1_idxAddr', wp1_append', wp1_mkIface', wp1_alloc', rd_t, rd_c, ok_t, ok_c, put_some, put_none, get_put, reduceIte, Nat.reduceEqDiff, AV.bool.injEq, Option.some.injEq, exists_eq_left', Option.map_some, Option.bind_some, opds_nil, opds_cons, opd_t, opd_c, aBin, aInt, decide_true, decide_false, negIf, wp1_nilCheck', wp1_fieldAddr', wp1_slice, op_slice, opdo_some, opdo_none, wp1_lit, op_lit, parts_nil, parts_cons, wp1_build, op_build, wp1_box, op_box, wc_eq (asked_bad hat h0 h1), eq_ref, Bool.not_false]
  exact ⟨[refV 2], by simp only [Env.results, Option.map_some, get_put, reduceIte], rfl⟩

/-- slices.Clone -/
theorem clone_spec {h : Heap} (ho : HeapOk h) {v : AV} {bs : List UInt8} (k : Bytes h v bs) (hsm : bs.length ≤ 70368744177664) :
    WC env 28 [v] h (fun o => ∃ v' h', HeapOk h' ∧ h.le h' ∧ Acc h' 1 v' (bs.map byteAV) ∧ (∀ i, v'.own = some i → h.next ≤ i ∧ i < h'.next) ∧ (bs ≠ [] → v'.own ≠ none) ∧ o = .ret ⟨v', h', .write⟩) := by
  refine call_body rfl rfl (.inl rfl) ?_
  by_cases hv : v = .nils
  · subst hv
    have y : aEq .slice .nils .nils = some true := rfl
    have hbs : bs = [] := by cases k; rfl
    subst hbs
    simp only [a28, a28_0, a28_1, a28_2, Slots.ofList, wpc_skip, wpc_ops, wpc_draw, wpc_seq, wpc_cond, wpc_block, wpc_loop, wpc_exit, wpc_scope, wpc_ret, seqQ_norm, seqQ_ret, seqQ_exit, blockQ'_norm, blockQ'_ret, blockQ'_exit, roundQ_norm, roundQ_ret, roundQ_exit, condK_true, condK_false, wpo_nil', wpo_none, wpo_some, opsK_apply, guardK_tt, guardK_ff, guardK_tf, guardK_ft, wp1_call, callK_ret, wp1_mv', wp1_bin', wp1_un', wp1_eq', wp1_extract', wp1_pick', wp1_len', wp1_load', wp1_conv', wp1_store', wp1_idxAddr', wp1_append', wp1_mkIface', wp1_alloc', rd_t, rd_c, ok_t, ok_c, put_some, put_none, get_put, reduceIte, Nat.reduceEqDiff, AV.bool.injEq, Option.some.injEq, exists_eq_left', Option.map_some, Option.bind_some, opds_nil, opds_cons, opd_t, opd_c, aBin, aInt, decide_true, decide_false, negIf, wp1_nilCheck', wp1_fieldAddr', wp1_slice, op_slice, opdo_some, opdo_none, wp1_lit, op_lit, parts_nil, parts_cons, wp1_build, op_build, wp1_box, op_box, y]
    exact ⟨[.nils], by simp only [Env.results, Option.map_some, get_put, reduceIte], .nils, h, ho, Heap.le_refl h, .nils, (fun i e => by cases e), (fun e => absurd rfl e), rfl⟩
  · have y : aEq .slice v .nils = some false := by
      cases k with
      | nils => exact absurd rfl hv
      | fs full => rfl
      | sl => rfl
    obtain ⟨v', h', c, ha, hacc, hlen, hle, ho', hown, hne⟩ := append_own ho k hsm
    simp only [a28, a28_0, a28_1, a28_3, Slots.ofList, wpc_skip, wpc_ops, wpc_draw, wpc_seq, wpc_cond, wpc_block, wpc_loop, wpc_exit, wpc_scope, wpc_ret, seqQ_norm, seqQ_ret, seqQ_exit, blockQ'_norm, blockQ'_ret, blockQ'_exit, roundQ_norm, roundQ_ret, roundQ_exit, condK_true, condK_false, wpo_nil', wpo_none, wpo_some, opsK_apply, guardK_tt, guardK_ff, guardK_tf, guardK_ft, wp1_call, callK_ret, wp1_mv', wp1_bin', wp1_un', wp1_eq', wp1_extract', wp1_pick', wp1_len', wp1_load', wp1_conv', wp1_store', wp1_idxAddr', wp1_append', wp1_mkIface', wp1_alloc', rd_t, rd_c, ok_t, ok_c, put_some, put_none, get_put, reduceIte, Nat.reduceEqDiff, AV.bool.injEq, Option.some.injEq, exists_eq_left', Option.map_some, Option.bind_some, opds_nil, opds_cons, opd_t, opd_c, aBin, aInt, decide_true, decide_false, negIf, wp1_nilCheck', wp1_fieldAddr', wp1_slice, op_slice, opdo_some, opdo_none, wp1_lit, op_lit, parts_nil, parts_cons, wp1_build, op_build, wp1_box, op_box, y, aFill, List.length_nil, Nat.mul_one, ha]
    exact ⟨[v'], by simp only [Env.results, Option.map_some, get_put, reduceIte], v', h', ho', hle, hacc, hown, hne, rfl⟩
end Go.St
