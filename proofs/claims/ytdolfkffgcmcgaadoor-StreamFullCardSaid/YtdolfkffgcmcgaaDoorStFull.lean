/-
  StreamFull answers true.
-/
import Derived.Test.YtdolfkffgcmcgaaDoorStRefused
set_option linter.unusedVariables false
set_option linter.unusedSimpArgs false
set_option maxRecDepth 20000
namespace Go.St
open Go.AM

theorem op_makeSlice {E : Env} {σ : Slots} {h : Heap} {sz by_ : Nat} {z : List AV} {l c : Opd} : E.op σ h (.makeSlice sz by_ z l c) = (E.opd σ l).bind fun a => (E.opd σ c).bind fun b => aMakeSlice h sz by_ z a b := rfl

theorem make_cells (n : Nat) : (List.replicate n [AV.int .u8 0]).flatten = (List.replicate n (0 : UInt8)).map byteAV := by
  induction n with
  | zero => rfl
  | succ n ih => rw [List.replicate_succ, List.replicate_succ, List.flatten_cons, ih]; rfl

theorem make_spec {h : Heap} {n : Nat} (hn : n ≤ 70368744177664) : aMakeSlice h 1 1 [.int .u8 0] (.int .i64 n) (.int .i64 n) = some ⟨.sl h.next 0 0 1 n (some n), h.new ((List.replicate n (0 : UInt8)).map byteAV), .write⟩ := by
  simp only [aMakeSlice]
  rw [if_pos ⟨by omega, by omega, by omega, by omega, rfl⟩, Int.toNat_natCast, make_cells]

theorem make_bytes (h : Heap) (n : Nat) : Bytes (h.new ((List.replicate n (0 : UInt8)).map byteAV)) (.sl h.next 0 0 1 n (some n)) (List.replicate n 0) := by
  have := Bytes.sl (h := h.new ((List.replicate n (0 : UInt8)).map byteAV)) h.next 0 0 (some n) _ (List.replicate n 0) (at_new _) (by simp) (by simp [List.take_of_length_le]) (fun c e => by cases e; simp)
  rwa [List.length_replicate] at this

theorem full_end {h : Heap} {σ : Slots} {id n M : Nat} {er : AV} {t o : Sd} {tu tc ou oc : AV} (ho : HeapOk h) (k : Sr h id 0 false t o tu tc ou oc) (hM : (4194304 : Int) = (M : Int)) (hu : t.u.length = M) (her : er = errV (if n = 0 then none else some 4))
    (g3 : σ.get 3 = .ptr id 0 0) (g4 : σ.get 4 = .int .i64 n) (g5 : σ.get 5 = er) {Q : AExit → St → Prop} (hQ : ∀ σ' h', σ'.get 2 = .bool true → Q .ret ⟨σ', h'⟩) :
    wpc env (.seq (.ops a5_6) (.seq (.seq (.ops a5_7) (.cond (.t 30) (.seq (.ops a5_8) .ret) .skip)) (.seq (.ops a5_9) .ret))) ⟨σ, h⟩ Q := by
  obtain ⟨x, ev, h1, ho1, hl1, rfl⟩ := state_spec ho k (.inl rfl)
  have w1 : WC env 15 [.ptr id 0 0, .int .i64 0] h (fun o => o = _) := ⟨_, ev, rfl⟩
  obtain ⟨h2, eh2⟩ : ∃ h2, h2 = h1.new [AV.int .i64 0, .int .i64 0, .int .i64 0, .int .i64 0, .int .i64 0, .bool false, .bool false] := ⟨_, rfl⟩
  have ho2 : HeapOk h2 := by rw [eh2]; exact ho1.new _
  have a2 : h2.at_ h1.next 0 = some [AV.int .i64 0, .int .i64 0, .int .i64 0, .int .i64 0, .int .i64 0, .bool false, .bool false] := by rw [eh2]; exact at_new _
  obtain ⟨h3, eh3⟩ : ∃ h3, h3 = h2.upd h1.next 0 (pipe false t) := ⟨_, rfl⟩
  have t0 : aStore h2 7 (.ptr h1.next 0 0) (.agg (pipe false t)) = some ⟨.undef, h3, .write⟩ := by
    rw [eh3]; simp only [aStore, a2, Option.bind_some]; rfl
  have ho3 : HeapOk h3 := by rw [eh3]; exact ho2.upd (at_look.1 a2) _ _
  have a3 : h3.at_ h1.next 0 = some (pipe false t) := by rw [eh3]; exact at_upd
  have l0 : ∀ {h' : Heap}, h3.le h' → aLoad h' false 1 (.ptr h1.next 0 0) = some ⟨.int .i64 (t.u.length : Int), h', .read⟩ := by
    intro h' hl
    simp only [aLoad, hl.2 _ _ _ a3, Option.bind_some]; rfl
  have z0 : ((t.u.length : Int) == 4194304) = true := by rw [hM, hu]; simp
  by_cases c : n = 0
  · rw [if_pos c] at her
    subst her
    have g5' : σ.get 5 = .nili := g5
    have z1 : ((n : Int) == 0) = true := by simp [c]
    have l1 := l0 (Heap.le_refl h3)
    simp only [a5_6, a5_7, a5_8, wpc_skip, wpc_ops, wpc_draw, wpc_seq, wpc_cond, wpc_block, wpc_loop, wpc_exit, wpc_scope, wpc_ret, seqQ_norm, seqQ_ret, seqQ_exit, blockQ'_norm, blockQ'_ret, blockQ'_exit, roundQ_norm, roundQ_ret, roundQ_exit, condK_true, condK_false, wpo_nil', wpo_none, wpo_some, opsK_apply, guardK_tt, guardK_ff, guardK_tf, guardK_ft, wp1_call, callK_ret, wp1_mv', wp1_bin', wp1_un', wp1_eq', wp1_extract', wp1_pick', wp1_len', wp1_load', wp1_conv', wp1_store', wp1_idxAddr', wp1_append', wp1_mkIface', wp1_alloc', rd_t, rd_c, ok_t, ok_c, put_some, put_none, get_put, reduceIte, Nat.reduceEqDiff, AV.bool.injEq, Option.some.injEq, exists_eq_left', Option.map_some, Option.bind_some, opds_nil, opds_cons, opd_t, opd_c, aBin, aInt, decide_true, decide_false, negIf, wp1_nilCheck', wp1_fieldAddr', wp1_slice, op_slice, opdo_some, opdo_none, wp1_lit, op_lit, parts_nil, parts_cons, wp1_build, op_build, wp1_box, op_box, g3, g4, g5', wc_eq w1, aExtract, ex0, ex1, ← eh2, t0, z1, eq_nil, Bool.not_true, aFieldAddr, Nat.add_zero, l1, z0, aPick, wc_eq (alive_spec _)]
    exact hQ _ _ (by simp only [get_put, reduceIte, Nat.reduceEqDiff])
  · rw [if_neg c] at her
    subst her
    have g5' : σ.get 5 = refV 4 := g5
    have z1 : ((n : Int) == 0) = false := by simp; omega
    obtain ⟨x, ev2, h4, ho4, hl4, rfl⟩ := refused_ref (c := 4) ho3
    have w2 : WC env 16 [refV 4, linkV [115, 116, 114, 101, 97, 109] 0 4] h3 (fun o => o = _) := ⟨_, ev2, rfl⟩
    have l1 := l0 hl4
    simp only [a5_6, a5_7, a5_9, wpc_skip, wpc_ops, wpc_draw, wpc_seq, wpc_cond, wpc_block, wpc_loop, wpc_exit, wpc_scope, wpc_ret, seqQ_norm, seqQ_ret, seqQ_exit, blockQ'_norm, blockQ'_ret, blockQ'_exit, roundQ_norm, roundQ_ret, roundQ_exit, condK_true, condK_false, wpo_nil', wpo_none, wpo_some, opsK_apply, guardK_tt, guardK_ff, guardK_tf, guardK_ft, wp1_call, callK_ret, wp1_mv', wp1_bin', wp1_un', wp1_eq', wp1_extract', wp1_pick', wp1_len', wp1_load', wp1_conv', wp1_store', wp1_idxAddr', wp1_append', wp1_mkIface', wp1_alloc', rd_t, rd_c, ok_t, ok_c, put_some, put_none, get_put, reduceIte, Nat.reduceEqDiff, AV.bool.injEq, Option.some.injEq, exists_eq_left', Option.map_some, Option.bind_some, opds_nil, opds_cons, opd_t, opd_c, aBin, aInt, decide_true, decide_false, negIf, wp1_nilCheck', wp1_fieldAddr', wp1_slice, op_slice, opdo_some, opdo_none, wp1_lit, op_lit, parts_nil, parts_cons, wp1_build, op_build, wp1_box, op_box, g3, g4, g5', wc_eq w1, aExtract, ex0, ex1, ← eh2, t0, z1, wc_eq (one_spec _ _ _ _), wc_eq w2, aFieldAddr, Nat.add_zero, l1, z0, aPick, wc_eq (alive_spec _)]
    exact hQ _ _ (by simp only [get_put, reduceIte, Nat.reduceEqDiff])

theorem full_spec {x : Nat} (hx : x < 65536) : WC env 5 [.int .u16 x] .empty (fun o => ∃ h', o = .ret ⟨.bool true, h', .write⟩) := by
  obtain ⟨M, hM0⟩ : ∃ M : Nat, M = 4194304 := ⟨_, rfl⟩
  have hM : (4194304 : Int) = (M : Int) := by omega
  have w1 := new_spec .empty
  obtain ⟨h1, eh1⟩ : ∃ h, h = Heap.empty.new (SE 0 false .zero .zero .nils .nils .nils .nils) := ⟨_, rfl⟩
  rw [← eh1] at w1
  have ho1 : HeapOk h1 := by rw [eh1]; exact HeapOk.empty.new _
  have a1 : h1.at_ Heap.empty.next 0 = some (SE 0 false .zero .zero .nils .nils .nils .nils) := by rw [eh1]; exact at_new _
  have i1 : Heap.empty.next < h1.next := ho1.lt a1
  obtain ⟨h2, eh2⟩ : ∃ h, h = h1.new ((List.replicate M (0 : UInt8)).map byteAV) := ⟨_, rfl⟩
  have mk1 : aMakeSlice h1 1 1 [.int .u8 0] (.int .i64 4194304) (.int .i64 4194304) = some ⟨.sl h1.next 0 0 1 M (some M), h2, .write⟩ := by
    rw [hM, eh2]; exact make_spec (by omega)
  have ho2 : HeapOk h2 := by rw [eh2]; exact ho1.new _
  have hle2 : h1.le h2 := by rw [eh2]; exact le_new ho1 _
  have bb2 : Bytes h2 (.sl h1.next 0 0 1 M (some M)) (List.replicate M 0) := by rw [eh2]; exact make_bytes h1 M
  have k2 : Sr h2 Heap.empty.next 0 false .zero .zero .nils .nils .nils .nils := ⟨hle2.2 _ _ _ a1, .nils, .nils, .nils, .nils, by simp [AV.own], fun i => by simp [AV.own]⟩
  obtain ⟨o1, ev1, h3, tu3, ho3, k3, c3, own3, rfl⟩ := send_spec ho2 k2 (.inl rfl) bb2 (fun i e => by
    simp only [AV.own, Option.some.injEq] at e
    exact ⟨by omega, by simp [AV.own]⟩) (by simp [Sd.zero]) (by simp [Sd.zero]; omega)
  have hE1 : sendE false .zero (List.replicate M 0) = none := by simp only [sendE]; rw [if_neg (by simp), if_neg (by simp [Sd.zero]; omega)]
  have hS1 : sendS false .zero (List.replicate M 0) = { Sd.zero with u := List.replicate M 0, sent := M } := by
    simp only [sendS]; rw [if_neg (by simp), if_neg (by simp [Sd.zero]; omega)]; simp [Sd.zero]
  rw [hS1] at k3
  have w3 : WC env 12 [.ptr Heap.empty.next 0 0, .int .i64 0, .sl h1.next 0 0 1 M (some M)] h2 (fun o => o = .ret ⟨.nili, h3, .write⟩) := ⟨_, ev1, by rw [hE1]; rfl⟩
  obtain ⟨n, hn⟩ : ∃ n, n = x % 100 := ⟨_, rfl⟩
  have hn100 : n < 100 := by omega
  have e1 : IntKind.wrap .i64 (x : Int) = (x : Int) := wrap_nat rfl (by omega)
  have e2 : (x : Int).tmod 100 = (n : Int) := by rw [hn]; rfl
  have z100 : ((100 : Int) = 0) = False := eq_false (by decide)
  have cv : ∀ h, aConv h (.int .i64) (.int .u16 (x : Int)) = some ⟨.int .i64 (x : Int), h, .none⟩ := fun h => by simp [aConv, e1]
  obtain ⟨h4, eh4⟩ : ∃ h, h = h3.new ((List.replicate n (0 : UInt8)).map byteAV) := ⟨_, rfl⟩
  have mk2 : aMakeSlice h3 1 1 [.int .u8 0] (.int .i64 (n : Int)) (.int .i64 (n : Int)) = some ⟨.sl h3.next 0 0 1 n (some n), h4, .write⟩ := by
    rw [eh4]; exact make_spec (by omega)
  have ho4 : HeapOk h4 := by rw [eh4]; exact ho3.new _
  have hle4 : h3.le h4 := by rw [eh4]; exact le_new ho3 _
  have bb4 : Bytes h4 (.sl h3.next 0 0 1 n (some n)) (List.replicate n 0) := by rw [eh4]; exact make_bytes h3 n
  have k4 := k3.chg (S := fun i => False) hle4.chg (fun e => e) fun i _ e => e
  have i3 : Heap.empty.next < h3.next := ho3.lt k3.hat
  obtain ⟨o2, ev2, h5, tu5, ho5, k5, c5, own5, rfl⟩ := send_spec ho4 k4 (.inl rfl) bb4 (fun i e => by
    simp only [AV.own, Option.some.injEq] at e
    exact ⟨by omega, fun e2 => by have := k3.atu.ownLt ho3 e2; omega⟩) (by simp; omega) (by simp; omega)
  have hE2 : sendE false { Sd.zero with u := List.replicate M 0, sent := M } (List.replicate n 0) = if n = 0 then none else some 4 := by
    simp only [sendE]
    rw [if_neg (by simp)]
    by_cases c : n = 0
    · rw [if_pos c, if_neg (by simp; omega)]
    · rw [if_neg c, if_pos (by simp; omega)]
  have hU2 : (sendS false { Sd.zero with u := List.replicate M 0, sent := M } (List.replicate n 0)).u.length = M := by
    simp only [sendS]
    rw [if_neg (by simp)]
    by_cases c : n = 0
    · rw [if_neg (by simp; omega)]; simp [c]
    · rw [if_pos (by simp; omega)]; simp
  have w5 : WC env 12 [.ptr Heap.empty.next 0 0, .int .i64 0, .sl h3.next 0 0 1 n (some n)] h4 (fun o => o = _) := ⟨_, ev2, rfl⟩
  refine call_body rfl rfl (.inl rfl) ?_
  simp only [a5, a5_0, a5_1, a5_2, a5_4, a5_5, Slots.ofList, wpc_skip, wpc_ops, wpc_draw, wpc_seq, wpc_cond, wpc_block, wpc_loop, wpc_exit, wpc_scope, wpc_ret, seqQ_norm, seqQ_ret, seqQ_exit, blockQ'_norm, blockQ'_ret, blockQ'_exit, roundQ_norm, roundQ_ret, roundQ_exit, condK_true, condK_false, wpo_nil', wpo_none, wpo_some, opsK_apply, guardK_tt, guardK_ff, guardK_tf, guardK_ft, wp1_call, callK_ret, wp1_mv', wp1_bin', wp1_un', wp1_eq', wp1_extract', wp1_pick', wp1_len', wp1_load', wp1_conv', wp1_store', wp1_idxAddr', wp1_append', wp1_mkIface', wp1_alloc', rd_t, rd_c, ok_t, ok_c, put_some, put_none, get_put, reduceIte, Nat.reduceEqDiff, AV.bool.injEq, Option.some.injEq, exists_eq_left', Option.map_some, Option.bind_some, opds_nil, opds_cons, opd_t, opd_c, aBin, aInt, decide_true, decide_false, negIf, wp1_nilCheck', wp1_fieldAddr', wp1_slice, op_slice, opdo_some, opdo_none, wp1_lit, op_lit, parts_nil, parts_cons, wp1_build, op_build, wp1_box, op_box, wp1_makeSlice, op_makeSlice, wc_eq w1, aEq_ptr, mk1, wc_eq w3, eq_nil, Bool.not_true, aPick, cv, z100, e2, mk2, wc_eq w5]
  refine full_end (id := Heap.empty.next) (n := n) (M := M) (er := errV (sendE false { Sd.zero with u := List.replicate M 0, sent := M } (List.replicate n 0))) ho5 k5 hM hU2 (by rw [hE2]) ?_ ?_ ?_ fun σ' h' g => ⟨[.bool true], by simp only [Env.results, Option.map_some, g], h', rfl⟩
  · simp only [get_put, reduceIte, Nat.reduceEqDiff]
  · simp only [get_put, reduceIte, Nat.reduceEqDiff]
  · simp only [get_put, reduceIte, Nat.reduceEqDiff]
end Go.St
