/-
  Package heddleref05: a stream of the reference, its calls.
-/
import Derived.Test.YtdolfkffgcmcgaaDoorStOps
set_option linter.unusedVariables false
set_option linter.unusedSimpArgs false
set_option maxRecDepth 20000
namespace Go.St
open Go.AM

def errL : Option Int → AV
  | some c => lnk c
  | none => .nils

def RC (cl : Bool) (a b : Sd) (ua ca ub cb : AV) : List AV :=
  [ua, ub, ca, cb, .int .i64 a.sent, .int .i64 b.sent, .int .i64 a.moved, .int .i64 b.moved, .int .i64 a.read, .int .i64 b.read, .bool a.st, .bool b.st, .bool cl]
def RE (e : Nat) (cl : Bool) (t o : Sd) (tu tc ou oc : AV) : List AV := if e = 0 then RC cl t o tu tc ou oc else RC cl o t ou oc tu tc
theorem RE_flip {e : Nat} (he : e = 0 ∨ e = 1) (cl : Bool) (t o : Sd) (tu tc ou oc : AV) : RE (1 - e) cl o t ou oc tu tc = RE e cl t o tu tc ou oc := by
  rcases he with rfl | rfl <;> rfl

section
variable {h : Heap} {id e : Nat} {cl : Bool} {t o : Sd} {tu tc ou oc : AV}
theorem re_cl (e1 : h.at_ id 0 = some (RE e cl t o tu tc ou oc)) : aLoad h false 1 (.ptr id 0 12) = some ⟨.bool cl, h, .read⟩ := by
  simp only [aLoad, e1, Option.bind_some, RE]; split <;> rfl
theorem re_u (he : e = 0 ∨ e = 1) (e1 : h.at_ id 0 = some (RE e cl t o tu tc ou oc)) : aLoad h false 1 (.ptr id 0 (0 + e)) = some ⟨tu, h, .read⟩ := by
  rcases he with rfl | rfl <;> (simp only [aLoad, e1, Option.bind_some]; rfl)
theorem re_c (he : e = 0 ∨ e = 1) (e1 : h.at_ id 0 = some (RE e cl t o tu tc ou oc)) : aLoad h false 1 (.ptr id 0 (2 + e)) = some ⟨tc, h, .read⟩ := by
  rcases he with rfl | rfl <;> (simp only [aLoad, e1, Option.bind_some]; rfl)
theorem re_sent (he : e = 0 ∨ e = 1) (e1 : h.at_ id 0 = some (RE e cl t o tu tc ou oc)) : aLoad h false 1 (.ptr id 0 (4 + e)) = some ⟨.int .i64 t.sent, h, .read⟩ := by
  rcases he with rfl | rfl <;> (simp only [aLoad, e1, Option.bind_some]; rfl)
theorem re_moved (he : e = 0 ∨ e = 1) (e1 : h.at_ id 0 = some (RE e cl t o tu tc ou oc)) : aLoad h false 1 (.ptr id 0 (6 + e)) = some ⟨.int .i64 t.moved, h, .read⟩ := by
  rcases he with rfl | rfl <;> (simp only [aLoad, e1, Option.bind_some]; rfl)
theorem re_read (he : e = 0 ∨ e = 1) (e1 : h.at_ id 0 = some (RE e cl t o tu tc ou oc)) : aLoad h false 1 (.ptr id 0 (8 + e)) = some ⟨.int .i64 t.read, h, .read⟩ := by
  rcases he with rfl | rfl <;> (simp only [aLoad, e1, Option.bind_some]; rfl)
theorem re_st (he : e = 0 ∨ e = 1) (e1 : h.at_ id 0 = some (RE e cl t o tu tc ou oc)) : aLoad h false 1 (.ptr id 0 (10 + e)) = some ⟨.bool t.st, h, .read⟩ := by
  rcases he with rfl | rfl <;> (simp only [aLoad, e1, Option.bind_some]; rfl)
theorem re_oc (he : e = 0 ∨ e = 1) (e1 : h.at_ id 0 = some (RE e cl t o tu tc ou oc)) : aLoad h false 1 (.ptr id 0 (2 + (1 - e))) = some ⟨oc, h, .read⟩ := by
  rcases he with rfl | rfl <;> (simp only [aLoad, e1, Option.bind_some]; rfl)
theorem re_omoved (he : e = 0 ∨ e = 1) (e1 : h.at_ id 0 = some (RE e cl t o tu tc ou oc)) : aLoad h false 1 (.ptr id 0 (6 + (1 - e))) = some ⟨.int .i64 o.moved, h, .read⟩ := by
  rcases he with rfl | rfl <;> (simp only [aLoad, e1, Option.bind_some]; rfl)
theorem rs_u (he : e = 0 ∨ e = 1) (e1 : h.at_ id 0 = some (RE e cl t o tu tc ou oc)) {v : AV} (hv : v.row = some [v]) : aStore h 1 (.ptr id 0 (0 + e)) v = some ⟨.undef, h.upd id 0 (RE e cl t o v tc ou oc), .write⟩ := by
  rcases he with rfl | rfl <;> (simp only [aStore, e1, Option.bind_some, hv]; rfl)
theorem rs_c (he : e = 0 ∨ e = 1) (e1 : h.at_ id 0 = some (RE e cl t o tu tc ou oc)) {v : AV} (hv : v.row = some [v]) : aStore h 1 (.ptr id 0 (2 + e)) v = some ⟨.undef, h.upd id 0 (RE e cl t o tu v ou oc), .write⟩ := by
  rcases he with rfl | rfl <;> (simp only [aStore, e1, Option.bind_some, hv]; rfl)
theorem rs_sent (he : e = 0 ∨ e = 1) (e1 : h.at_ id 0 = some (RE e cl t o tu tc ou oc)) (n : Nat) : aStore h 1 (.ptr id 0 (4 + e)) (.int .i64 n) = some ⟨.undef, h.upd id 0 (RE e cl { t with sent := n } o tu tc ou oc), .write⟩ := by
  rcases he with rfl | rfl <;> (simp only [aStore, e1, Option.bind_some]; rfl)
theorem rs_read (he : e = 0 ∨ e = 1) (e1 : h.at_ id 0 = some (RE e cl t o tu tc ou oc)) (n : Nat) : aStore h 1 (.ptr id 0 (8 + e)) (.int .i64 n) = some ⟨.undef, h.upd id 0 (RE e cl { t with read := n } o tu tc ou oc), .write⟩ := by
  rcases he with rfl | rfl <;> (simp only [aStore, e1, Option.bind_some]; rfl)
theorem rs_st (he : e = 0 ∨ e = 1) (e1 : h.at_ id 0 = some (RE e cl t o tu tc ou oc)) (b : Bool) : aStore h 1 (.ptr id 0 (10 + e)) (.bool b) = some ⟨.undef, h.upd id 0 (RE e cl { t with st := b } o tu tc ou oc), .write⟩ := by
  rcases he with rfl | rfl <;> (simp only [aStore, e1, Option.bind_some]; rfl)
theorem rs_oc (he : e = 0 ∨ e = 1) (e1 : h.at_ id 0 = some (RE e cl t o tu tc ou oc)) {v : AV} (hv : v.row = some [v]) : aStore h 1 (.ptr id 0 (2 + (1 - e))) v = some ⟨.undef, h.upd id 0 (RE e cl t o tu tc ou v), .write⟩ := by
  rcases he with rfl | rfl <;> (simp only [aStore, e1, Option.bind_some, hv]; rfl)
theorem rs_omoved (he : e = 0 ∨ e = 1) (e1 : h.at_ id 0 = some (RE e cl t o tu tc ou oc)) (n : Nat) : aStore h 1 (.ptr id 0 (6 + (1 - e))) (.int .i64 n) = some ⟨.undef, h.upd id 0 (RE e cl t { o with moved := n } tu tc ou oc), .write⟩ := by
  rcases he with rfl | rfl <;> (simp only [aStore, e1, Option.bind_some]; rfl)
theorem rs_cl (e1 : h.at_ id 0 = some (RE 0 cl t o tu tc ou oc)) : aStore h 1 (.ptr id 0 12) (.bool true) = some ⟨.undef, h.upd id 0 (RE 0 true t o tu tc ou oc), .write⟩ := by
  simp only [aStore, e1, Option.bind_some]; rfl
theorem rs_ou (e1 : h.at_ id 0 = some (RE 0 cl t o tu tc ou oc)) : aStore h 1 (.ptr id 0 (0 + 1)) .nils = some ⟨.undef, h.upd id 0 (RE 0 cl t o tu tc .nils oc), .write⟩ := by
  simp only [aStore, e1, Option.bind_some]; rfl
end

/-- a stream of the reference -/
structure Rq (h : Heap) (id e : Nat) (cl : Bool) (t o : Sd) (tu tc ou oc : AV) : Prop where
  hat : h.at_ id 0 = some (RE e cl t o tu tc ou oc)
  btu : Bytes h tu t.u
  btc : Bytes h tc t.c
  bou : Bytes h ou o.u
  boc : Bytes h oc o.c
  nid : tu.own ≠ some id ∧ tc.own ≠ some id ∧ ou.own ≠ some id ∧ oc.own ≠ some id

theorem Rq.flip {h : Heap} {id e : Nat} {cl : Bool} {t o : Sd} {tu tc ou oc : AV} (he : e = 0 ∨ e = 1) (k : Rq h id e cl t o tu tc ou oc) : Rq h id (1 - e) cl o t ou oc tu tc := by
  obtain ⟨k1, k2, k3, k4, k5, k6⟩ := k
  exact ⟨by rw [RE_flip he]; exact k1, k4, k5, k2, k3, ⟨k6.2.2.1, k6.2.2.2, k6.1, k6.2.1⟩⟩
theorem Rq.chg {S : Nat → Prop} {h h' : Heap} {id e : Nat} {cl : Bool} {t o : Sd} {tu tc ou oc : AV} (k : Rq h id e cl t o tu tc ou oc) (c : Chg S h h') (h1 : ¬ S id) (h2 : ∀ i, Foot tu tc ou oc i → ¬ S i) : Rq h' id e cl t o tu tc ou oc :=
  ⟨c.2 _ _ _ h1 k.hat, k.btu.chg c fun i e => h2 i (.inl e), k.btc.chg c fun i e => h2 i (.inr (.inl e)), k.bou.chg c fun i e => h2 i (.inr (.inr (.inl e))), k.boc.chg c fun i e => h2 i (.inr (.inr (.inr e))), k.nid⟩
theorem Rq.footLt {h : Heap} {id e : Nat} {cl : Bool} {t o : Sd} {tu tc ou oc : AV} (ho : HeapOk h) (k : Rq h id e cl t o tu tc ou oc) {i : Nat} (f : Foot tu tc ou oc i) : i < h.next := by
  rcases f with f | f | f | f
  · exact k.btu.ownLt ho f
  · exact k.btc.ownLt ho f
  · exact k.bou.ownLt ho f
  · exact k.boc.ownLt ho f

/-- new cells in the object, new slices elsewhere -/
theorem Rq.put {h h1 : Heap} {id e : Nat} {cl cl' : Bool} {t o t' o' : Sd} {tu tc ou oc tu' tc' ou' oc' : AV} (ho : HeapOk h) (k : Rq h id e cl t o tu tc ou oc) (c : Chg (fun i => i = id) h h1) (hat : h1.at_ id 0 = some (RE e cl' t' o' tu' tc' ou' oc'))
    (h2 : (tu' = tu ∧ t'.u = t.u) ∨ (Bytes h1 tu' t'.u ∧ ∀ i, tu'.own = some i → h.next ≤ i)) (h3 : (tc' = tc ∧ t'.c = t.c) ∨ (Bytes h1 tc' t'.c ∧ ∀ i, tc'.own = some i → h.next ≤ i))
    (h4 : (ou' = ou ∧ o'.u = o.u) ∨ (Bytes h1 ou' o'.u ∧ ∀ i, ou'.own = some i → h.next ≤ i)) (h5 : (oc' = oc ∧ o'.c = o.c) ∨ (Bytes h1 oc' o'.c ∧ ∀ i, oc'.own = some i → h.next ≤ i)) :
    Rq h1 id e cl' t' o' tu' tc' ou' oc' ∧ ∀ i, Foot tu' tc' ou' oc' i → Foot tu tc ou oc i ∨ h.next ≤ i := by
  have hid := ho.lt k.hat
  have one : ∀ {v v' : AV} {b b' : List UInt8}, Bytes h v b → v.own ≠ some id → ((v' = v ∧ b' = b) ∨ (Bytes h1 v' b' ∧ ∀ i, v'.own = some i → h.next ≤ i)) → Bytes h1 v' b' ∧ v'.own ≠ some id ∧ ∀ i, v'.own = some i → v.own = some i ∨ h.next ≤ i := by
    intro v v' b b' hb hn hc
    rcases hc with ⟨rfl, rfl⟩ | ⟨x, y⟩
    · exact ⟨hb.chg c fun i e e2 => hn (by rw [e, e2]), hn, fun i e => .inl e⟩
    · exact ⟨x, fun e => by have := y _ e; omega, fun i e => .inr (y i e)⟩
  obtain ⟨a1, a2, a3⟩ := one k.btu k.nid.1 h2
  obtain ⟨b1, b2, b3⟩ := one k.btc k.nid.2.1 h3
  obtain ⟨c1, c2, c3⟩ := one k.bou k.nid.2.2.1 h4
  obtain ⟨d1, d2, d3⟩ := one k.boc k.nid.2.2.2 h5
  refine ⟨⟨hat, a1, b1, c1, d1, a2, b2, c2, d2⟩, fun i f => ?_⟩
  rcases f with f | f | f | f
  · exact (a3 i f).imp .inl (fun x => x)
  · exact (b3 i f).imp (fun x => .inr (.inl x)) (fun x => x)
  · exact (c3 i f).imp (fun x => .inr (.inr (.inl x))) (fun x => x)
  · exact (d3 i f).imp (fun x => .inr (.inr (.inr x))) (fun x => x)

theorem rend_ok {e : Nat} (he : e = 0 ∨ e = 1) (h : Heap) : WC env 42 [.int .i64 e] h (fun o => o = .ret ⟨.bool true, h, .none⟩) := by
  rcases he with rfl | rfl <;> exact wc_run (n := 3) rfl
theorem rend_bad {e : Int} (h0 : e ≠ 0) (h1 : e ≠ 1) (h : Heap) : WC env 42 [.int .i64 e] h (fun o => o = .ret ⟨.bool false, h, .none⟩) := by
  refine call_pure rfl rfl rfl rfl ?_
  have z0 : (e == 0) = false := by simp [h0]
  have z1 : (e == 1) = false := by simp [h1]
  simp [a42, a42_0, a42_1, Slots.ofList, get_put, pureQ, Env.results, oneOrTup, aBin, aInt, z0, z1, aPick, frz_noRef]
theorem no_spec (c : Int) (h : Heap) : WC env 43 [.int .i64 c] h (fun o => o = .ret ⟨lnk c, h, .none⟩) := by
  refine call_pure rfl rfl rfl rfl ?_
  simp [a43, a43_0, a43_1, Slots.ofList, get_put, pureQ, Env.results, oneOrTup, wc_eq (one_spec _ _ _ _), lnk, linkV, frz_noRef]
theorem rnew_spec (h : Heap) : WC env 21 [] h (fun o => o = .ret ⟨.ptr h.next 0 0, h.new (RE 0 false .zero .zero .nils .nils .nils .nils), .write⟩) := by
  refine call_body rfl rfl (.inl rfl) ?_
  have y1 : aFill [.nils, .nils, .nils, .nils, .int .i64 0, .int .i64 0, .int .i64 0, .int .i64 0, .int .i64 0, .int .i64 0, .bool false, .bool false, .bool false] [] = some (RE 0 false .zero .zero .nils .nils .nils .nils) := rfl
  have y2 : (RE 0 false .zero .zero .nils .nils .nils .nils).length = 13 := rfl
  simp only [a21, a21_0, a21_1, Slots.ofList, wpc_skip, wpc_ops, wpc_draw, wpc_seq, wpc_cond, wpc_block, wpc_loop, wpc_exit, wpc_scope, wpc_ret, seqQ_norm, seqQ_ret, seqQ_exit, blockQ'_norm, blockQ'_ret, blockQ'_exit, roundQ_norm, roundQ_ret, roundQ_exit, condK_true, condK_false, wpo_nil', wpo_none, wpo_some, opsK_apply, guardK_tt, guardK_ff, guardK_tf, guardK_ft, wp1_call, callK_ret, wp1_mv', wp1_bin', wp1_un', wp1_eq', wp1_extract', wp1_pick', wp1_len', wp1_load', wp1_conv', wp1_store', wp1_idxAddr', wp1_append', wp1_mkIface', wp1_alloc', rd_t, rd_c, ok_t, ok_c, put_some, put_none, get_put, reduceIte, Nat.reduceEqDiff, AV.bool.injEq, Option.some.injEq, exists_eq_left', Option.map_some, Option.bind_some, opds_nil, opds_cons, opd_t, opd_c, aBin, aInt, decide_true, decide_false, negIf, wp1_nilCheck', wp1_fieldAddr', wp1_slice, op_slice, opdo_some, opdo_none, wp1_lit, op_lit, parts_nil, parts_cons, wp1_build, op_build, wp1_box, op_box, y1, row_agg, if_pos y2]
  exact ⟨[.ptr h.next 0 0], by simp only [Env.results, Option.map_some, get_put, reduceIte, Nat.reduceEqDiff], rfl⟩

theorem rsend_spec {h : Heap} {id e : Nat} {cl : Bool} {t o : Sd} {tu tc ou oc v : AV} {b : List UInt8} (ho : HeapOk h) (k : Rq h id e cl t o tu tc ou oc) (he : e = 0 ∨ e = 1) (hb : ∀ h, Bytes h v b)
    (hu : t.u.length ≤ 4194304) (hbl : b.length < 1000000000000) (hs : t.sent + b.length < 1000000000000) :
    WC env 32 [.ptr id 0 0, .int .i64 e, v] h (fun x => ∃ h' tu', HeapOk h' ∧ Rq h' id e cl (sendS cl t b) o tu' tc ou oc ∧ Chg (fun i => i = id) h h' ∧ (∀ i, Foot tu' tc ou oc i → Foot tu tc ou oc i ∨ h.next ≤ i) ∧ x = .ret ⟨errL (sendE cl t b), h', .write⟩) := by
  have l5 := re_cl k.hat
  refine call_body rfl rfl (.inl rfl) ?_
  cases cl with
  | true =>
    simp only [a32, a32_0, a32_1, a32_3, a32_4, Slots.ofList, wpc_skip, wpc_ops, wpc_draw, wpc_seq, wpc_cond, wpc_block, wpc_loop, wpc_exit, wpc_scope, wpc_ret, seqQ_norm, seqQ_ret, seqQ_exit, blockQ'_norm, blockQ'_ret, blockQ'_exit, roundQ_norm, roundQ_ret, roundQ_exit, condK_true, condK_false, wpo_nil', wpo_none, wpo_some, opsK_apply, guardK_tt, guardK_ff, guardK_tf, guardK_ft, wp1_call, callK_ret, wp1_mv', wp1_bin', wp1_un', wp1_eq', wp1_extract', wp1_pick', wp1_len', wp1_load', wp1_conv', wp1_store', wp1_idxAddr', wp1_append', wp1_mkIface', wp1_alloc', rd_t, rd_c, ok_t, ok_c, put_some, put_none, get_put, reduceIte, Nat.reduceEqDiff, AV.bool.injEq, Option.some.injEq, exists_eq_left', Option.map_some, Option.bind_some, opds_nil, opds_cons, opd_t, opd_c, aBin, aInt, decide_true, decide_false, negIf, wp1_nilCheck', wp1_fieldAddr', wp1_slice, op_slice, opdo_some, opdo_none, wp1_lit, op_lit, parts_nil, parts_cons, wp1_build, op_build, wp1_box, op_box, wc_eq (rend_ok he _), aUn, Bool.not_true, aNil_ptr, aFieldAddr, Nat.zero_add, l5, wc_eq (no_spec _ _)]
    exact ⟨[lnk 100], by simp only [Env.results, Option.map_some, get_put, reduceIte], h, tu, ho, k, .refl, fun i e => .inl e, rfl⟩
  | false =>
    have l0 := re_u he k.hat
    rw [Nat.zero_add] at l0
    have l1 := k.btu.lenOp
    have l2 := (hb h).lenOp
    obtain ⟨N, hN⟩ : ∃ N, N = t.u.length + b.length := ⟨_, rfl⟩
    have e1 : IntKind.wrap .i64 ((t.u.length : Int) + (b.length : Int)) = (N : Int) := wrap_nat (by omega) (by omega)
    by_cases c1 : 4194304 < t.u.length + b.length
    · have z1 : ((N : Int) > 4194304) = True := eq_true (by omega)
      have hE : sendE false t b = some 4 := by simp only [sendE]; rw [if_neg (by simp), if_pos c1]
      have hS : sendS false t b = t := by simp only [sendS]; rw [if_neg (by simp), if_pos c1]
      rw [hE, hS]
      simp only [a32, a32_0, a32_1, a32_3, a32_5, a32_6, Slots.ofList, wpc_skip, wpc_ops, wpc_draw, wpc_seq, wpc_cond, wpc_block, wpc_loop, wpc_exit, wpc_scope, wpc_ret, seqQ_norm, seqQ_ret, seqQ_exit, blockQ'_norm, blockQ'_ret, blockQ'_exit, roundQ_norm, roundQ_ret, roundQ_exit, condK_true, condK_false, wpo_nil', wpo_none, wpo_some, opsK_apply, guardK_tt, guardK_ff, guardK_tf, guardK_ft, wp1_call, callK_ret, wp1_mv', wp1_bin', wp1_un', wp1_eq', wp1_extract', wp1_pick', wp1_len', wp1_load', wp1_conv', wp1_store', wp1_idxAddr', wp1_append', wp1_mkIface', wp1_alloc', rd_t, rd_c, ok_t, ok_c, put_some, put_none, get_put, reduceIte, Nat.reduceEqDiff, AV.bool.injEq, Option.some.injEq, exists_eq_left', Option.map_some, Option.bind_some, opds_nil, opds_cons, opd_t, opd_c, aBin, aInt, decide_true, decide_false, negIf, wp1_nilCheck', wp1_fieldAddr', wp1_slice, op_slice, opdo_some, opdo_none, wp1_lit, op_lit, parts_nil, parts_cons, wp1_build, op_build, wp1_box, op_box, wp1_idxAddrArr, op_idxAddrArr, wc_eq (rend_ok he _), aUn, Bool.not_true, aNil_ptr, aFieldAddr, Nat.zero_add, ri_this he, l5, l0, l1, l2, e1, z1, wc_eq (no_spec _ _)]
      exact ⟨[lnk 4], by simp only [Env.results, Option.map_some, get_put, reduceIte], h, tu, ho, k, .refl, fun i e => .inl e, rfl⟩
    · have z1 : ((N : Int) > 4194304) = False := eq_false (by omega)
      have hE : sendE false t b = none := by simp only [sendE]; rw [if_neg (by simp), if_neg c1]
      have hS : sendS false t b = { t with u := t.u ++ b, sent := t.sent + b.length } := by simp only [sendS]; rw [if_neg (by simp), if_neg c1]
      rw [hE, hS]
      obtain ⟨x, h1, c1', ha1, hacc1, hlen1, hle1, ho1, hown1, hne1⟩ := append_own ho k.btu (by omega)
      obtain ⟨c, hcn, hc⟩ := (hb h1).cells
      obtain ⟨y, h2, c2', ha2, hacc2, hle2, ho2, hown2, hlen2⟩ := hacc1.append ho1 (bt := 1) (by omega) hlen1 (hb h1).len hc (by simp) (by omega) (by omega)
      rw [← List.map_append] at hacc2
      have hid := ho.lt k.hat
      have xid : x.own ≠ some id := fun e => by have := hown1 _ e; omega
      have hat2 : h2.at_ id 0 = some (RE e false t o tu tc ou oc) := hle2.2 _ _ _ xid (hle1.2 _ _ _ k.hat)
      have yown : ∀ i, y.own = some i → h.next ≤ i := fun i e => by
        rcases hown2 i e with e | e
        · exact (hown1 i e).1
        · have := hle1.1; omega
      have t0 := rs_u he hat2 hacc2.row
      rw [Nat.zero_add] at t0
      obtain ⟨h3, eh3⟩ : ∃ h3, h3 = h2.upd id 0 (RE e false t o y tc ou oc) := ⟨_, rfl⟩
      rw [← eh3] at t0
      have ho3 : HeapOk h3 := by rw [eh3]; exact ho2.upd (at_look.1 hat2) _ _
      have hat3 : h3.at_ id 0 = some (RE e false t o y tc ou oc) := by rw [eh3]; exact at_upd
      have l3 := re_sent he hat3
      have l4 := (hb h3).lenOp
      have e2 : IntKind.wrap .i64 ((t.sent : Int) + (b.length : Int)) = ((t.sent + b.length : Nat) : Int) := wrap_nat (by omega) (by omega)
      have t1 := rs_sent he hat3 (t.sent + b.length)
      obtain ⟨h4, eh4⟩ : ∃ h4, h4 = h3.upd id 0 (RE e false { t with sent := t.sent + b.length } o y tc ou oc) := ⟨_, rfl⟩
      rw [← eh4] at t1
      have ho4 : HeapOk h4 := by rw [eh4]; exact ho3.upd (at_look.1 hat3) _ _
      have c12 : Chg (fun i => i = id) h h2 := ⟨Nat.le_trans hle1.1 hle2.1, fun i g cs hne e => hle2.2 i g cs (fun e2 => by have := hown1 _ e2; have := ho.lt e; omega) (hle1.2 _ _ _ e)⟩
      have c14 : Chg (fun i => i = id) h h4 := by rw [eh4, eh3]; exact (c12.trans (upd_chg rfl)).trans (upd_chg rfl)
      have c24 : Chg (fun i => i = id) h2 h4 := by rw [eh4, eh3]; exact Chg.trans (S := fun i => i = id) (upd_chg rfl) (upd_chg rfl)
      have yid : y.own ≠ some id := fun e => by have := yown _ e; omega
      obtain ⟨kk, ff⟩ := k.put ho c14 (cl' := false) (t' := { t with u := t.u ++ b, sent := t.sent + b.length }) (o' := o) (tu' := y) (tc' := tc) (ou' := ou) (oc' := oc) (by rw [eh4]; exact at_upd) (.inr ⟨hacc2.toBytes.chg c24 fun i e e2 => yid (by rw [e, e2]), yown⟩) (.inl ⟨rfl, rfl⟩) (.inl ⟨rfl, rfl⟩) (.inl ⟨rfl, rfl⟩)
      simp only [a32, a32_0, a32_1, a32_3, a32_5, a32_7, a32_8, a32_9, Slots.ofList, wpc_skip, wpc_ops, wpc_draw, wpc_seq, wpc_cond, wpc_block, wpc_loop, wpc_exit, wpc_scope, wpc_ret, seqQ_norm, seqQ_ret, seqQ_exit, blockQ'_norm, blockQ'_ret, blockQ'_exit, roundQ_norm, roundQ_ret, roundQ_exit, condK_true, condK_false, wpo_nil', wpo_none, wpo_some, opsK_apply, guardK_tt, guardK_ff, guardK_tf, guardK_ft, wp1_call, callK_ret, wp1_mv', wp1_bin', wp1_un', wp1_eq', wp1_extract', wp1_pick', wp1_len', wp1_load', wp1_conv', wp1_store', wp1_idxAddr', wp1_append', wp1_mkIface', wp1_alloc', rd_t, rd_c, ok_t, ok_c, put_some, put_none, get_put, reduceIte, Nat.reduceEqDiff, AV.bool.injEq, Option.some.injEq, exists_eq_left', Option.map_some, Option.bind_some, opds_nil, opds_cons, opd_t, opd_c, aBin, aInt, decide_true, decide_false, negIf, wp1_nilCheck', wp1_fieldAddr', wp1_slice, op_slice, opdo_some, opdo_none, wp1_lit, op_lit, parts_nil, parts_cons, wp1_build, op_build, wp1_box, op_box, wpl_nil', wpl_none, wpl_some, logK_apply, logQ_apply, guardL_tt, guardL_ff, guardL_tf, guardL_ft, drawQ_apply, wp1_idxAddrArr, op_idxAddrArr, wc_eq (rend_ok he _), aUn, Bool.not_true, aNil_ptr, aFieldAddr, Nat.zero_add, ri_this he, l5, l0, l1, l2, e1, z1, aFill, List.length_nil, Nat.mul_one, ha1, ha2, t0, l3, l4, e2, t1]
      exact ⟨draw_of_cls (by cases c1' <;> cases c2' <;> rfl), draw_of_cls (by cases c1' <;> cases c2' <;> rfl), [.nils], by simp only [Env.results, Option.map_some, get_put, reduceIte], h4, y, ho4, kk, c14, ff, rfl⟩
theorem rsend_bad {h : Heap} {id : Nat} {e : Int} {v : AV} (h0 : e ≠ 0) (h1 : e ≠ 1) : WC env 32 [.ptr id 0 0, .int .i64 e, v] h (fun x => x = .ret ⟨lnk 2, h, .write⟩) := by
  refine call_body rfl rfl (.inl rfl) ?_
  simp only [a32, a32_0, a32_1, a32_2, Slots.ofList, wpc_skip, wpc_ops, wpc_draw, wpc_seq, wpc_cond, wpc_block, wpc_loop, wpc_exit, wpc_scope, wpc_ret, seqQ_norm, seqQ_ret, seqQ_exit, blockQ'_norm, blockQ'_ret, blockQ'_exit, roundQ_norm, roundQ_ret, roundQ_exit, condK_true, condK_false, wpo_nil', wpo_none, wpo_some, opsK_apply, guardK_tt, guardK_ff, guardK_tf, guardK_ft, wp1_call, callK_ret, wp1_mv', wp1_bin', wp1_un', wp1_eq', wp1_extract', wp1_pick', wp1_len', wp1_load', wp1_conv', wp1_store', wp1_idxAddr', wp1_append', wp1_mkIface', wp1_alloc', rd_t, rd_c, ok_t, ok_c, put_some, put_none, get_put, reduceIte, Nat.reduceEqDiff, AV.bool.injEq, Option.some.injEq, exists_eq_left', Option.map_some, Option.bind_some, opds_nil, opds_cons, opd_t, opd_c, aBin, aInt, decide_true, decide_false, negIf, wp1_nilCheck', wp1_fieldAddr', wp1_slice, op_slice, opdo_some, opdo_none, wp1_lit, op_lit, parts_nil, parts_cons, wp1_build, op_build, wp1_box, op_box, wc_eq (rend_bad h0 h1 _), aUn, Bool.not_false, wc_eq (no_spec _ _)]
  exact ⟨[lnk 2], by simp only [Env.results, Option.map_some, get_put, reduceIte], rfl⟩
end Go.St
