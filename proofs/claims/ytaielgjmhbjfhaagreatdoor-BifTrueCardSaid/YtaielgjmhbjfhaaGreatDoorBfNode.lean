/-
  What Node answers: is a text a node's name?
-/
import Derived.Test.YtaielgjmhbjfhaaGreatDoorBfQuote3
set_option linter.unusedVariables false
set_option linter.unusedSimpArgs false
set_option maxRecDepth 20000
namespace Go.Bf
open Go.AM

theorem index_spec (s : List UInt8) (c : UInt8) (h : Heap) : WC env 169 [.str s, .str [c]] h (fun o => o = .ret ⟨.int .i64 (Lib.indexByte s c), h, .write⟩) :=
  ⟨_, ⟨1, fun m hm => by
    cases m with
    | zero => omega
    | succ m => rfl⟩, rfl⟩
theorem index_bounds (c : UInt8) : ∀ s : List UInt8, -1 ≤ Lib.indexByte s c ∧ (Lib.indexByte s c : Int) < s.length
  | [] => by simp [Lib.indexByte]
  | b :: l => by
    have := index_bounds c l
    simp only [Lib.indexByte, List.length_cons]
    split
    · omega
    split
    · omega
    · omega
theorem index2_spec (s : List UInt8) (h : Heap) : WC env 162 [.str s, .str [64]] h (fun o => o = .ret ⟨.int .i64 (Lib.indexByte s 64), h, .none⟩) := by
  refine call_pure rfl rfl rfl rfl ?_
  simp only [a162, a162_0, a162_1, Slots.ofList, wpc_skip, wpc_ops, wpc_draw, wpc_seq, wpc_cond, wpc_block, wpc_loop, wpc_exit, wpc_scope, wpc_ret, seqQ_norm, seqQ_ret, seqQ_exit, blockQ'_norm, blockQ'_ret, blockQ'_exit, roundQ_norm, roundQ_ret, roundQ_exit, condK_true, condK_false, wpo_nil', wpo_none, wpo_tt, wpo_ff, wpo_tf, wpo_ft, opsK_c, isC_none, isC_read, isC_write, wp1_call, callK_ret, wp1_mv', wp1_bin', wp1_un', wp1_eq', wp1_extract', wp1_pick', wp1_len', wp1_load', wp1_conv', wp1_store', wp1_idxAddr', wp1_append', wp1_mkIface', wp1_alloc', rd_t, rd_c, ok_t, ok_c, put_some, put_none, get_put, reduceIte, Nat.reduceEqDiff, AV.bool.injEq, Option.some.injEq, exists_eq_left', Option.map_some, Option.bind_some, opds_nil, opds_cons, opd_t, opd_c, aBin, aInt, decide_true, decide_false, negIf, wp1_nilCheck', wp1_fieldAddr', wp1_slice, op_slice, opdo_some, opdo_none, wp1_lit, op_lit, parts_nil, parts_cons, wp1_build, op_build, wp1_box, op_box, wc_eq (index_spec _ _ _)]
  exact ⟨[.int .i64 (Lib.indexByte s 64)], _, by simp only [Env.results, Option.map_some, get_put, reduceIte, Nat.reduceEqDiff], (frz_noRef (v := .int .i64 (Lib.indexByte s 64)) rfl).2 rfl, rfl⟩
def has64 (s : List UInt8) : Bool := decide (Lib.indexByte s 64 ≥ 0)
theorem contains_spec (s : List UInt8) (h : Heap) : WC env 152 [.str s, .str [64]] h (fun o => o = .ret ⟨.bool (has64 s), h, .none⟩) := by
  refine call_pure rfl rfl rfl rfl ?_
  cases c : has64 s with
  | true =>
    have z : (Lib.indexByte s 64 ≥ 0) = True := eq_true (by simpa [has64] using c)
    simp only [a152, a152_0, a152_1, Slots.ofList, wpc_skip, wpc_ops, wpc_draw, wpc_seq, wpc_cond, wpc_block, wpc_loop, wpc_exit, wpc_scope, wpc_ret, seqQ_norm, seqQ_ret, seqQ_exit, blockQ'_norm, blockQ'_ret, blockQ'_exit, roundQ_norm, roundQ_ret, roundQ_exit, condK_true, condK_false, wpo_nil', wpo_none, wpo_tt, wpo_ff, wpo_tf, wpo_ft, opsK_c, isC_none, isC_read, isC_write, wp1_call, callK_ret, wp1_mv', wp1_bin', wp1_un', wp1_eq', wp1_extract', wp1_pick', wp1_len', wp1_load', wp1_conv', wp1_store', wp1_idxAddr', wp1_append', wp1_mkIface', wp1_alloc', rd_t, rd_c, ok_t, ok_c, put_some, put_none, get_put, reduceIte, Nat.reduceEqDiff, AV.bool.injEq, Option.some.injEq, exists_eq_left', Option.map_some, Option.bind_some, opds_nil, opds_cons, opd_t, opd_c, aBin, aInt, decide_true, decide_false, negIf, wp1_nilCheck', wp1_fieldAddr', wp1_slice, op_slice, opdo_some, opdo_none, wp1_lit, op_lit, parts_nil, parts_cons, wp1_build, op_build, wp1_box, op_box, wc_eq (index2_spec _ _), z]
    exact ⟨[.bool true], _, by simp only [Env.results, Option.map_some, get_put, reduceIte, Nat.reduceEqDiff], (frz_noRef (v := .bool true) rfl).2 rfl, rfl⟩
  | false =>
    have z : (Lib.indexByte s 64 ≥ 0) = False := eq_false (by simpa [has64] using c)
    simp only [a152, a152_0, a152_1, Slots.ofList, wpc_skip, wpc_ops, wpc_draw, wpc_seq, wpc_cond, wpc_block, wpc_loop, wpc_exit, wpc_scope, wpc_ret, seqQ_norm, seqQ_ret, seqQ_exit, blockQ'_norm, blockQ'_ret, blockQ'_exit, roundQ_norm, roundQ_ret, roundQ_exit, condK_true, condK_false, wpo_nil', wpo_none, wpo_tt, wpo_ff, wpo_tf, wpo_ft, opsK_c, isC_none, isC_read, isC_write, wp1_call, callK_ret, wp1_mv', wp1_bin', wp1_un', wp1_eq', wp1_extract', wp1_pick', wp1_len', wp1_load', wp1_conv', wp1_store', wp1_idxAddr', wp1_append', wp1_mkIface', wp1_alloc', rd_t, rd_c, ok_t, ok_c, put_some, put_none, get_put, reduceIte, Nat.reduceEqDiff, AV.bool.injEq, Option.some.injEq, exists_eq_left', Option.map_some, Option.bind_some, opds_nil, opds_cons, opd_t, opd_c, aBin, aInt, decide_true, decide_false, negIf, wp1_nilCheck', wp1_fieldAddr', wp1_slice, op_slice, opdo_some, opdo_none, wp1_lit, op_lit, parts_nil, parts_cons, wp1_build, op_build, wp1_box, op_box, wc_eq (index2_spec _ _), z]
    exact ⟨[.bool false], _, by simp only [Env.results, Option.map_some, get_put, reduceIte, Nat.reduceEqDiff], (frz_noRef (v := .bool false) rfl).2 rfl, rfl⟩

theorem op_sliceStr {σ : Slots} {h : Heap} {x : Opd} {lo hi : Option Opd} : env.op σ h (.sliceStr x lo hi) = (env.opd σ x).bind fun v => (env.opdo σ lo).bind fun a => (env.opdo σ hi).bind fun b => (aSliceStr v a b).map fun v => ⟨v, h, .none⟩ := rfl
theorem sliceStr_to {s : List UInt8} {k : Nat} (h : k ≤ s.length) : aSliceStr (.str s) none (some (.int .i64 k)) = some (.str (s.take k)) := by
  simp [aSliceStr, bounds_to h]
theorem sliceStr_from {s : List UInt8} {k : Nat} (h : k ≤ s.length) : aSliceStr (.str s) (some (.int .i64 k)) none = some (.str (s.drop k)) := by
  have : (s.drop k).take (s.length - k) = s.drop k := List.take_of_length_le (by simp)
  simp [aSliceStr, bounds_from h, this]
def name64 (s : List UInt8) : List UInt8 := if has64 s then s.take (Lib.indexByte s 64).toNat else s
def host64 (s : List UInt8) : List UInt8 := if has64 s then s.drop ((Lib.indexByte s 64).toNat + 1) else []
theorem cut0_spec (s : List UInt8) (hs : s.length < 9223372036854775808) (h : Heap) : WC env 161 [.str s, .str [64]] h (fun o => o = .ret ⟨.tup [.str (name64 s), .str (host64 s), .bool (has64 s)], h, .write⟩) := by
  refine call_body rfl rfl (.inl rfl) ?_
  have hb := index_bounds 64 s
  cases c : has64 s with
  | true =>
    have c' : Lib.indexByte s 64 ≥ 0 := by simpa [has64] using c
    obtain ⟨k, hk⟩ : ∃ k : Nat, Lib.indexByte s 64 = (k : Int) := ⟨(Lib.indexByte s 64).toNat, by omega⟩
    have z : ((k : Int) ≥ 0) = True := eq_true (by omega)
    have z2 : IntKind.wrap .i64 ((k : Int) + 1) = ((k + 1 : Nat) : Int) := wrap_nat (by omega) (by omega)
    have en : ∀ h, aLenOp true h (.str [64]) = some ⟨.int .i64 1, h, .none⟩ := fun h => rfl
    have t1 := sliceStr_to (s := s) (k := k) (by omega)
    have t2 := sliceStr_from (s := s) (k := k + 1) (by omega)
    have w1 : ∀ h, WC env 169 [.str s, .str [64]] h (fun o => o = .ret ⟨.int .i64 (k : Int), h, .write⟩) := fun h => by rw [← hk]; exact index_spec s 64 h
    have e1 : name64 s = s.take k := by rw [name64, c, hk]; rfl
    have e2 : host64 s = s.drop (k + 1) := by rw [host64, c, hk]; rfl
    simp only [a161, a161_0, a161_1, a161_2, a161_3, Slots.ofList, wpc_skip, wpc_ops, wpc_seq, wpc_cond, wpc_block, wpc_loop, wpc_exit, wpc_scope, wpc_ret, seqQ_norm, seqQ_ret, seqQ_exit, blockQ'_norm, blockQ'_ret, blockQ'_exit, roundQ_norm, roundQ_ret, roundQ_exit, condK_true, condK_false, wpo_nil', wpo_none, wpo_tt, wpo_ff, wpo_tf, wpo_ft, opsK_c, isC_none, isC_read, isC_write, wp1_call, callK_ret, wp1_mv', wp1_bin', wp1_un', wp1_eq', wp1_extract', wp1_pick', wp1_len', wp1_load', wp1_conv', wp1_store', wp1_idxAddr', wp1_append', wp1_mkIface', wp1_alloc', rd_t, rd_c, ok_t, ok_c, put_some, put_none, get_put, reduceIte, Nat.reduceEqDiff, AV.bool.injEq, Option.some.injEq, exists_eq_left', Option.map_some, Option.bind_some, opds_nil, opds_cons, opd_t, opd_c, aBin, aInt, decide_true, decide_false, negIf, wp1_nilCheck', wp1_fieldAddr', wp1_slice, op_slice, opdo_some, opdo_none, wp1_lit, op_lit, parts_nil, parts_cons, wp1_build, op_build, wp1_box, op_box, wc_eq (w1 _), z]
    refine wpc_draw_k ?_
    simp only [wpc_skip, wpc_ops, wpc_seq, wpc_cond, wpc_block, wpc_loop, wpc_exit, wpc_scope, wpc_ret, seqQ_norm, seqQ_ret, seqQ_exit, blockQ'_norm, blockQ'_ret, blockQ'_exit, roundQ_norm, roundQ_ret, roundQ_exit, condK_true, condK_false, wpo_nil', wpo_none, wpo_tt, wpo_ff, wpo_tf, wpo_ft, opsK_c, isC_none, isC_read, isC_write, wp1_call, callK_ret, wp1_mv', wp1_bin', wp1_un', wp1_eq', wp1_extract', wp1_pick', wp1_len', wp1_load', wp1_conv', wp1_store', wp1_idxAddr', wp1_append', wp1_mkIface', wp1_alloc', rd_t, rd_c, ok_t, ok_c, put_some, put_none, get_put, reduceIte, Nat.reduceEqDiff, AV.bool.injEq, Option.some.injEq, exists_eq_left', Option.map_some, Option.bind_some, opds_nil, opds_cons, opd_t, opd_c, aBin, aInt, decide_true, decide_false, negIf, wp1_nilCheck', wp1_fieldAddr', wp1_slice, op_slice, opdo_some, opdo_none, wp1_lit, op_lit, parts_nil, parts_cons, wp1_build, op_build, wp1_box, op_box, wpk_nil, wpk_none, wpk_tt, wpk_ff, wpk_tf, wpk_ft, clsK_c, logC_apply, drawC_apply, wp1_sliceStr, op_sliceStr, en, z2, t1, t2]
    refine ⟨rfl, ?_⟩
    refine ⟨[.str (s.take k), .str (s.drop (k + 1)), .bool true], by simp only [Env.results, Option.map_some, get_put, reduceIte, Nat.reduceEqDiff], by rw [e1, e2]; rfl⟩
  | false =>
    have z : (Lib.indexByte s 64 ≥ 0) = False := eq_false (by simpa [has64] using c)
    have e1 : name64 s = s := by rw [name64, c]; rfl
    have e2 : host64 s = [] := by rw [host64, c]; rfl
    simp only [a161, a161_0, a161_1, a161_2, a161_4, Slots.ofList, wpc_skip, wpc_ops, wpc_draw, wpc_seq, wpc_cond, wpc_block, wpc_loop, wpc_exit, wpc_scope, wpc_ret, seqQ_norm, seqQ_ret, seqQ_exit, blockQ'_norm, blockQ'_ret, blockQ'_exit, roundQ_norm, roundQ_ret, roundQ_exit, condK_true, condK_false, wpo_nil', wpo_none, wpo_tt, wpo_ff, wpo_tf, wpo_ft, opsK_c, isC_none, isC_read, isC_write, wp1_call, callK_ret, wp1_mv', wp1_bin', wp1_un', wp1_eq', wp1_extract', wp1_pick', wp1_len', wp1_load', wp1_conv', wp1_store', wp1_idxAddr', wp1_append', wp1_mkIface', wp1_alloc', rd_t, rd_c, ok_t, ok_c, put_some, put_none, get_put, reduceIte, Nat.reduceEqDiff, AV.bool.injEq, Option.some.injEq, exists_eq_left', Option.map_some, Option.bind_some, opds_nil, opds_cons, opd_t, opd_c, aBin, aInt, decide_true, decide_false, negIf, wp1_nilCheck', wp1_fieldAddr', wp1_slice, op_slice, opdo_some, opdo_none, wp1_lit, op_lit, parts_nil, parts_cons, wp1_build, op_build, wp1_box, op_box, wc_eq (index_spec _ _ _), z]
    refine ⟨[.str s, .str [], .bool false], by simp only [Env.results, Option.map_some, get_put, reduceIte, Nat.reduceEqDiff], by rw [e1, e2]; rfl⟩
theorem x30 (a b c : AV) : ([a, b, c] : List AV)[0]? = some a := rfl
theorem x31 (a b c : AV) : ([a, b, c] : List AV)[1]? = some b := rfl
theorem x32 (a b c : AV) : ([a, b, c] : List AV)[2]? = some c := rfl
theorem cut_spec (s : List UInt8) (hs : s.length < 9223372036854775808) (h : Heap) : WC env 151 [.str s, .str [64]] h (fun o => o = .ret ⟨.tup [.str (name64 s), .str (host64 s), .bool (has64 s)], h, .none⟩) := by
  refine call_pure rfl rfl rfl rfl ?_
  simp only [a151, a151_0, a151_1, Slots.ofList, wpc_skip, wpc_ops, wpc_draw, wpc_seq, wpc_cond, wpc_block, wpc_loop, wpc_exit, wpc_scope, wpc_ret, seqQ_norm, seqQ_ret, seqQ_exit, blockQ'_norm, blockQ'_ret, blockQ'_exit, roundQ_norm, roundQ_ret, roundQ_exit, condK_true, condK_false, wpo_nil', wpo_none, wpo_tt, wpo_ff, wpo_tf, wpo_ft, opsK_c, isC_none, isC_read, isC_write, wp1_call, callK_ret, wp1_mv', wp1_bin', wp1_un', wp1_eq', wp1_extract', wp1_pick', wp1_len', wp1_load', wp1_conv', wp1_store', wp1_idxAddr', wp1_append', wp1_mkIface', wp1_alloc', rd_t, rd_c, ok_t, ok_c, put_some, put_none, get_put, reduceIte, Nat.reduceEqDiff, AV.bool.injEq, Option.some.injEq, exists_eq_left', Option.map_some, Option.bind_some, opds_nil, opds_cons, opd_t, opd_c, aBin, aInt, decide_true, decide_false, negIf, wp1_nilCheck', wp1_fieldAddr', wp1_slice, op_slice, opdo_some, opdo_none, wp1_lit, op_lit, parts_nil, parts_cons, wp1_build, op_build, wp1_box, op_box, wc_eq (cut0_spec s hs _), aExtract, x30, x31, x32]
  exact ⟨[.str (name64 s), .str (host64 s), .bool (has64 s)], _, by simp only [Env.results, Option.map_some, get_put, reduceIte, Nat.reduceEqDiff], (frz_noRef (v := .tup [.str (name64 s), .str (host64 s), .bool (has64 s)]) rfl).2 rfl, rfl⟩

def okName (c : UInt8) : Bool := kindF (c.toNat : Int) != 0 || (c.toNat : Int) == 45
def okHost (c : UInt8) : Bool := kindF (c.toNat : Int) != 0 || (c.toNat : Int) == 45 || (c.toNat : Int) == 46

theorem name_loop {s : List UInt8} {w : AV} {h : Heap} (hw : Bytes h w s) (hs : s.length < 9223372036854775808) {Q : AExit → St → Prop} : ∀ (f i : Nat) (σ : Slots) (g : Bool), s.length - i < f → i ≤ s.length → σ.get 8 = .bool g → σ.get 39 = w → σ.get 40 = .int .i64 s.length → σ.get 41 = .int .i64 i →
    (∀ σ', σ'.get 8 = .bool (g && (s.drop i).all okName) → (∀ n, n = 5 ∨ n = 6 → σ'.get n = σ.get n) → Q (.exit 0) ⟨σ', h⟩) → WPr env a141_l8 ⟨σ, h⟩ Q := by
  intro f
  induction f with
  | zero => intro i σ g h1; omega
  | succ f ih =>
    intro i σ g hf hi g8 gw gl gi hQ
    refine wpr_round' fun b hb => ?_
    by_cases c1 : i < s.length
    · have z0 : ((i : Int) < (s.length : Int)) = True := eq_true (by omega)
      have zi : IntKind.wrap .i64 ((i : Int) + 1) = ((i + 1 : Nat) : Int) := wrap_nat (by omega) (by omega)
      obtain ⟨p, kc, e1, e2, hkc⟩ := hw.elem (kd := .i64) c1
      obtain ⟨cb, hcb⟩ : ∃ cb : UInt8, cb = s.getD i 0 := ⟨_, rfl⟩
      have e2' : aLoad h false 1 p = some ⟨.int .u8 (cb.toNat : Int), h, kc⟩ := by rw [hcb]; exact e2
      have hd : s.drop i = cb :: s.drop (i + 1) := by
        rw [List.drop_eq_getElem_cons c1, hcb, List.getD_eq_getElem?_getD, List.getElem?_eq_getElem c1]; rfl
      have go : ∀ (σ2 : Slots), σ2.get 8 = .bool (g && okName cb) → (∀ n, n = 39 ∨ n = 40 ∨ n = 41 ∨ n = 5 ∨ n = 6 → σ2.get n = σ.get n) → wpo env a141_7 ⟨σ2, h⟩ (roundQ env b Q) := by
        intro σ2 p8 pk
        have pi : σ2.get 41 = .int .i64 i := by rw [pk 41 (by omega), gi]
        simp only [a141_7, wpo_u, wpc_skip, wpc_ops, wpc_draw, wpc_seq, wpc_cond, wpc_block, wpc_loop, wpc_exit, wpc_scope, wpc_ret, seqQ_norm, seqQ_ret, seqQ_exit, blockQ'_norm, blockQ'_ret, blockQ'_exit, roundQ_norm, roundQ_ret, roundQ_exit, condK_true, condK_false, wpo_nil', wpo_none, wpo_tt, wpo_ff, wpo_tf, wpo_ft, opsK_c, isC_none, isC_read, isC_write, wp1_call, callK_ret, wp1_mv', wp1_bin', wp1_un', wp1_eq', wp1_extract', wp1_pick', wp1_len', wp1_load', wp1_conv', wp1_store', wp1_idxAddr', wp1_append', wp1_mkIface', wp1_alloc', rd_t, rd_c, ok_t, ok_c, put_some, put_none, get_put, reduceIte, Nat.reduceEqDiff, AV.bool.injEq, Option.some.injEq, exists_eq_left', Option.map_some, Option.bind_some, opds_nil, opds_cons, opd_t, opd_c, aBin, aInt, decide_true, decide_false, negIf, wp1_nilCheck', wp1_fieldAddr', wp1_slice, op_slice, opdo_some, opdo_none, wp1_lit, op_lit, parts_nil, parts_cons, wp1_build, op_build, wp1_box, op_box, pi, zi]
        subst hb
        refine ih (i + 1) _ (g && okName cb) (by omega) (by omega) ?_ ?_ ?_ ?_ fun σ' s8 sk => hQ σ' ?_ ?_
        · simp only [get_put, reduceIte, Nat.reduceEqDiff, p8]
        · simp only [get_put, reduceIte, Nat.reduceEqDiff]; rw [pk 39 (by omega), gw]
        · simp only [get_put, reduceIte, Nat.reduceEqDiff]; rw [pk 40 (by omega), gl]
        · simp only [get_put, reduceIte, Nat.reduceEqDiff]
        · rw [s8, hd, List.all_cons, Bool.and_assoc]
        · intro n hn
          rw [sk n hn]
          simp only [get_put]
          repeat rw [if_neg (by omega)]
          exact pk n (by omega)
      have keep : ∀ {σ2 : Slots}, True := trivial
      have el : a141_l8 = (.seq (.ops a141_4) (.seq (.cond (.t 42) .skip (.exit 0)) (.seq (.block 1 (.seq (.ops a141_5) (.ops a141_6))) (.ops a141_7)))) := rfl
      cases g with
      | false =>
        rw [el, wpc_seq]
        simp only [a141_4, a141_5, a141_6, wpo_u, wpc_skip, wpc_ops, wpc_draw, wpc_seq, wpc_cond, wpc_block, wpc_loop, wpc_exit, wpc_scope, wpc_ret, seqQ_norm, seqQ_ret, seqQ_exit, blockQ'_norm, blockQ'_ret, blockQ'_exit, roundQ_norm, roundQ_ret, roundQ_exit, condK_true, condK_false, wpo_nil', wpo_none, wpo_tt, wpo_ff, wpo_tf, wpo_ft, opsK_c, isC_none, isC_read, isC_write, wp1_call, callK_ret, wp1_mv', wp1_bin', wp1_un', wp1_eq', wp1_extract', wp1_pick', wp1_len', wp1_load', wp1_conv', wp1_store', wp1_idxAddr', wp1_append', wp1_mkIface', wp1_alloc', rd_t, rd_c, ok_t, ok_c, put_some, put_none, get_put, reduceIte, Nat.reduceEqDiff, AV.bool.injEq, Option.some.injEq, exists_eq_left', Option.map_some, Option.bind_some, opds_nil, opds_cons, opd_t, opd_c, aBin, aInt, decide_true, decide_false, negIf, wp1_nilCheck', wp1_fieldAddr', wp1_slice, op_slice, opdo_some, opdo_none, wp1_lit, op_lit, parts_nil, parts_cons, wp1_build, op_build, wp1_box, op_box, isC kc, g8, gw, gl, gi, z0, e1, e2', aPick]
        refine go _ ?_ fun n hn => ?_
        · simp only [get_put, reduceIte, Nat.reduceEqDiff, Bool.false_and]
        · simp only [get_put]
          repeat rw [if_neg (by omega)]
      | true =>
        cases k1 : (kindF (cb.toNat : Int) != 0) with
        | true =>
          rw [el, wpc_seq]
          simp only [a141_4, a141_5, a141_6, wpo_u, wpc_skip, wpc_ops, wpc_draw, wpc_seq, wpc_cond, wpc_block, wpc_loop, wpc_exit, wpc_scope, wpc_ret, seqQ_norm, seqQ_ret, seqQ_exit, blockQ'_norm, blockQ'_ret, blockQ'_exit, roundQ_norm, roundQ_ret, roundQ_exit, condK_true, condK_false, wpo_nil', wpo_none, wpo_tt, wpo_ff, wpo_tf, wpo_ft, opsK_c, isC_none, isC_read, isC_write, wp1_call, callK_ret, wp1_mv', wp1_bin', wp1_un', wp1_eq', wp1_extract', wp1_pick', wp1_len', wp1_load', wp1_conv', wp1_store', wp1_idxAddr', wp1_append', wp1_mkIface', wp1_alloc', rd_t, rd_c, ok_t, ok_c, put_some, put_none, get_put, reduceIte, Nat.reduceEqDiff, AV.bool.injEq, Option.some.injEq, exists_eq_left', Option.map_some, Option.bind_some, opds_nil, opds_cons, opd_t, opd_c, aBin, aInt, decide_true, decide_false, negIf, wp1_nilCheck', wp1_fieldAddr', wp1_slice, op_slice, opdo_some, opdo_none, wp1_lit, op_lit, parts_nil, parts_cons, wp1_build, op_build, wp1_box, op_box, isC kc, g8, gw, gl, gi, z0, e1, e2', wc_eq (kind_spec _ _), k1, aPick]
          refine go _ ?_ fun n hn => ?_
          · simp only [get_put, reduceIte, Nat.reduceEqDiff, okName, k1, Bool.true_or, Bool.true_and]
          · simp only [get_put]
            repeat rw [if_neg (by omega)]
        | false =>
          cases k2 : ((cb.toNat : Int) == 45) with
          | true =>
            rw [el, wpc_seq]
            simp only [a141_4, a141_5, a141_6, wpo_u, wpc_skip, wpc_ops, wpc_draw, wpc_seq, wpc_cond, wpc_block, wpc_loop, wpc_exit, wpc_scope, wpc_ret, seqQ_norm, seqQ_ret, seqQ_exit, blockQ'_norm, blockQ'_ret, blockQ'_exit, roundQ_norm, roundQ_ret, roundQ_exit, condK_true, condK_false, wpo_nil', wpo_none, wpo_tt, wpo_ff, wpo_tf, wpo_ft, opsK_c, isC_none, isC_read, isC_write, wp1_call, callK_ret, wp1_mv', wp1_bin', wp1_un', wp1_eq', wp1_extract', wp1_pick', wp1_len', wp1_load', wp1_conv', wp1_store', wp1_idxAddr', wp1_append', wp1_mkIface', wp1_alloc', rd_t, rd_c, ok_t, ok_c, put_some, put_none, get_put, reduceIte, Nat.reduceEqDiff, AV.bool.injEq, Option.some.injEq, exists_eq_left', Option.map_some, Option.bind_some, opds_nil, opds_cons, opd_t, opd_c, aBin, aInt, decide_true, decide_false, negIf, wp1_nilCheck', wp1_fieldAddr', wp1_slice, op_slice, opdo_some, opdo_none, wp1_lit, op_lit, parts_nil, parts_cons, wp1_build, op_build, wp1_box, op_box, isC kc, g8, gw, gl, gi, z0, e1, e2', wc_eq (kind_spec _ _), k1, k2, aPick]
            refine go _ ?_ fun n hn => ?_
            · simp only [get_put, reduceIte, Nat.reduceEqDiff, okName, k1, k2, Bool.false_or, Bool.true_or, Bool.true_and]
            · simp only [get_put]
              repeat rw [if_neg (by omega)]
          | false =>
            rw [el, wpc_seq]
            simp only [a141_4, a141_5, a141_6, wpo_u, wpc_skip, wpc_ops, wpc_draw, wpc_seq, wpc_cond, wpc_block, wpc_loop, wpc_exit, wpc_scope, wpc_ret, seqQ_norm, seqQ_ret, seqQ_exit, blockQ'_norm, blockQ'_ret, blockQ'_exit, roundQ_norm, roundQ_ret, roundQ_exit, condK_true, condK_false, wpo_nil', wpo_none, wpo_tt, wpo_ff, wpo_tf, wpo_ft, opsK_c, isC_none, isC_read, isC_write, wp1_call, callK_ret, wp1_mv', wp1_bin', wp1_un', wp1_eq', wp1_extract', wp1_pick', wp1_len', wp1_load', wp1_conv', wp1_store', wp1_idxAddr', wp1_append', wp1_mkIface', wp1_alloc', rd_t, rd_c, ok_t, ok_c, put_some, put_none, get_put, reduceIte, Nat.reduceEqDiff, AV.bool.injEq, Option.some.injEq, exists_eq_left', Option.map_some, Option.bind_some, opds_nil, opds_cons, opd_t, opd_c, aBin, aInt, decide_true, decide_false, negIf, wp1_nilCheck', wp1_fieldAddr', wp1_slice, op_slice, opdo_some, opdo_none, wp1_lit, op_lit, parts_nil, parts_cons, wp1_build, op_build, wp1_box, op_box, isC kc, g8, gw, gl, gi, z0, e1, e2', wc_eq (kind_spec _ _), k1, k2, aPick]
            refine go _ ?_ fun n hn => ?_
            · simp only [get_put, reduceIte, Nat.reduceEqDiff, okName, k1, k2, Bool.false_or, Bool.true_and]
            · simp only [get_put]
              repeat rw [if_neg (by omega)]
    · have z0 : ((i : Int) < (s.length : Int)) = False := eq_false (by omega)
      have hd : s.drop i = [] := List.drop_of_length_le (by omega)
      simp only [a141_l8, a141_4, wpo_u, wpc_skip, wpc_ops, wpc_draw, wpc_seq, wpc_cond, wpc_block, wpc_loop, wpc_exit, wpc_scope, wpc_ret, seqQ_norm, seqQ_ret, seqQ_exit, blockQ'_norm, blockQ'_ret, blockQ'_exit, roundQ_norm, roundQ_ret, roundQ_exit, condK_true, condK_false, wpo_nil', wpo_none, wpo_tt, wpo_ff, wpo_tf, wpo_ft, opsK_c, isC_none, isC_read, isC_write, wp1_call, callK_ret, wp1_mv', wp1_bin', wp1_un', wp1_eq', wp1_extract', wp1_pick', wp1_len', wp1_load', wp1_conv', wp1_store', wp1_idxAddr', wp1_append', wp1_mkIface', wp1_alloc', rd_t, rd_c, ok_t, ok_c, put_some, put_none, get_put, reduceIte, Nat.reduceEqDiff, AV.bool.injEq, Option.some.injEq, exists_eq_left', Option.map_some, Option.bind_some, opds_nil, opds_cons, opd_t, opd_c, aBin, aInt, decide_true, decide_false, negIf, wp1_nilCheck', wp1_fieldAddr', wp1_slice, op_slice, opdo_some, opdo_none, wp1_lit, op_lit, parts_nil, parts_cons, wp1_build, op_build, wp1_box, op_box, gl, gi, z0]
      refine hQ _ ?_ fun n hn => ?_
      · simp only [get_put, reduceIte, Nat.reduceEqDiff, g8]
        rw [hd, List.all_nil, Bool.and_true]
      · simp only [get_put]
        repeat rw [if_neg (by omega)]

theorem host_loop {s : List UInt8} {w : AV} {h : Heap} (hw : Bytes h w s) (hs : s.length < 9223372036854775808) {Q : AExit → St → Prop} : ∀ (f i : Nat) (σ : Slots) (g : Bool), s.length - i < f → i ≤ s.length → σ.get 8 = .bool g → σ.get 57 = w → σ.get 58 = .int .i64 s.length → σ.get 59 = .int .i64 i →
    (∀ σ', σ'.get 8 = .bool (g && (s.drop i).all okHost) → (∀ n, n = 5 ∨ n = 6 → σ'.get n = σ.get n) → Q (.exit 2) ⟨σ', h⟩) → WPr env a141_l14 ⟨σ, h⟩ Q := by
  intro f
  induction f with
  | zero => intro i σ g h1; omega
  | succ f ih =>
    intro i σ g hf hi g8 gw gl gi hQ
    refine wpr_round' fun b hb => ?_
    by_cases c1 : i < s.length
    · have z0 : ((i : Int) < (s.length : Int)) = True := eq_true (by omega)
      have zi : IntKind.wrap .i64 ((i : Int) + 1) = ((i + 1 : Nat) : Int) := wrap_nat (by omega) (by omega)
      obtain ⟨p, kc, e1, e2, hkc⟩ := hw.elem (kd := .i64) c1
      obtain ⟨cb, hcb⟩ : ∃ cb : UInt8, cb = s.getD i 0 := ⟨_, rfl⟩
      have e2' : aLoad h false 1 p = some ⟨.int .u8 (cb.toNat : Int), h, kc⟩ := by rw [hcb]; exact e2
      have hd : s.drop i = cb :: s.drop (i + 1) := by
        rw [List.drop_eq_getElem_cons c1, hcb, List.getD_eq_getElem?_getD, List.getElem?_eq_getElem c1]; rfl
      have go : ∀ (σ2 : Slots), σ2.get 8 = .bool (g && okHost cb) → (∀ n, n = 57 ∨ n = 58 ∨ n = 59 ∨ n = 5 ∨ n = 6 → σ2.get n = σ.get n) → wpo env a141_13 ⟨σ2, h⟩ (roundQ env b Q) := by
        intro σ2 p8 pk
        have pi : σ2.get 59 = .int .i64 i := by rw [pk 59 (by omega), gi]
        simp only [a141_13, wpo_u, wpc_skip, wpc_ops, wpc_draw, wpc_seq, wpc_cond, wpc_block, wpc_loop, wpc_exit, wpc_scope, wpc_ret, seqQ_norm, seqQ_ret, seqQ_exit, blockQ'_norm, blockQ'_ret, blockQ'_exit, roundQ_norm, roundQ_ret, roundQ_exit, condK_true, condK_false, wpo_nil', wpo_none, wpo_tt, wpo_ff, wpo_tf, wpo_ft, opsK_c, isC_none, isC_read, isC_write, wp1_call, callK_ret, wp1_mv', wp1_bin', wp1_un', wp1_eq', wp1_extract', wp1_pick', wp1_len', wp1_load', wp1_conv', wp1_store', wp1_idxAddr', wp1_append', wp1_mkIface', wp1_alloc', rd_t, rd_c, ok_t, ok_c, put_some, put_none, get_put, reduceIte, Nat.reduceEqDiff, AV.bool.injEq, Option.some.injEq, exists_eq_left', Option.map_some, Option.bind_some, opds_nil, opds_cons, opd_t, opd_c, aBin, aInt, decide_true, decide_false, negIf, wp1_nilCheck', wp1_fieldAddr', wp1_slice, op_slice, opdo_some, opdo_none, wp1_lit, op_lit, parts_nil, parts_cons, wp1_build, op_build, wp1_box, op_box, pi, zi]
        subst hb
        refine ih (i + 1) _ (g && okHost cb) (by omega) (by omega) ?_ ?_ ?_ ?_ fun σ' s8 sk => hQ σ' ?_ ?_
        · simp only [get_put, reduceIte, Nat.reduceEqDiff, p8]
        · simp only [get_put, reduceIte, Nat.reduceEqDiff]; rw [pk 57 (by omega), gw]
        · simp only [get_put, reduceIte, Nat.reduceEqDiff]; rw [pk 58 (by omega), gl]
        · simp only [get_put, reduceIte, Nat.reduceEqDiff]
        · rw [s8, hd, List.all_cons, Bool.and_assoc]
        · intro n hn
          rw [sk n hn]
          simp only [get_put]
          repeat rw [if_neg (by omega)]
          exact pk n (by omega)
      have keep : ∀ {σ2 : Slots}, True := trivial
      have el : a141_l14 = (.seq (.ops a141_10) (.seq (.cond (.t 60) .skip (.exit 2)) (.seq (.block 3 (.seq (.ops a141_11) (.ops a141_12))) (.ops a141_13)))) := rfl
      cases g with
      | false =>
        rw [el, wpc_seq]
        simp only [a141_10, a141_11, a141_12, wpo_u, wpc_skip, wpc_ops, wpc_draw, wpc_seq, wpc_cond, wpc_block, wpc_loop, wpc_exit, wpc_scope, wpc_ret, seqQ_norm, seqQ_ret, seqQ_exit, blockQ'_norm, blockQ'_ret, blockQ'_exit, roundQ_norm, roundQ_ret, roundQ_exit, condK_true, condK_false, wpo_nil', wpo_none, wpo_tt, wpo_ff, wpo_tf, wpo_ft, opsK_c, isC_none, isC_read, isC_write, wp1_call, callK_ret, wp1_mv', wp1_bin', wp1_un', wp1_eq', wp1_extract', wp1_pick', wp1_len', wp1_load', wp1_conv', wp1_store', wp1_idxAddr', wp1_append', wp1_mkIface', wp1_alloc', rd_t, rd_c, ok_t, ok_c, put_some, put_none, get_put, reduceIte, Nat.reduceEqDiff, AV.bool.injEq, Option.some.injEq, exists_eq_left', Option.map_some, Option.bind_some, opds_nil, opds_cons, opd_t, opd_c, aBin, aInt, decide_true, decide_false, negIf, wp1_nilCheck', wp1_fieldAddr', wp1_slice, op_slice, opdo_some, opdo_none, wp1_lit, op_lit, parts_nil, parts_cons, wp1_build, op_build, wp1_box, op_box, isC kc, g8, gw, gl, gi, z0, e1, e2', aPick]
        refine go _ ?_ fun n hn => ?_
        · simp only [get_put, reduceIte, Nat.reduceEqDiff, Bool.false_and]
        · simp only [get_put]
          repeat rw [if_neg (by omega)]
      | true =>
        cases k1 : (kindF (cb.toNat : Int) != 0) with
        | true =>
          rw [el, wpc_seq]
          simp only [a141_10, a141_11, a141_12, wpo_u, wpc_skip, wpc_ops, wpc_draw, wpc_seq, wpc_cond, wpc_block, wpc_loop, wpc_exit, wpc_scope, wpc_ret, seqQ_norm, seqQ_ret, seqQ_exit, blockQ'_norm, blockQ'_ret, blockQ'_exit, roundQ_norm, roundQ_ret, roundQ_exit, condK_true, condK_false, wpo_nil', wpo_none, wpo_tt, wpo_ff, wpo_tf, wpo_ft, opsK_c, isC_none, isC_read, isC_write, wp1_call, callK_ret, wp1_mv', wp1_bin', wp1_un', wp1_eq', wp1_extract', wp1_pick', wp1_len', wp1_load', wp1_conv', wp1_store', wp1_idxAddr', wp1_append', wp1_mkIface', wp1_alloc', rd_t, rd_c, ok_t, ok_c, put_some, put_none, get_put, reduceIte, Nat.reduceEqDiff, AV.bool.injEq, Option.some.injEq, exists_eq_left', Option.map_some, Option.bind_some, opds_nil, opds_cons, opd_t, opd_c, aBin, aInt, decide_true, decide_false, negIf, wp1_nilCheck', wp1_fieldAddr', wp1_slice, op_slice, opdo_some, opdo_none, wp1_lit, op_lit, parts_nil, parts_cons, wp1_build, op_build, wp1_box, op_box, isC kc, g8, gw, gl, gi, z0, e1, e2', wc_eq (kind_spec _ _), k1, aPick]
          refine go _ ?_ fun n hn => ?_
          · simp only [get_put, reduceIte, Nat.reduceEqDiff, okHost, k1, Bool.true_or, Bool.true_and]
          · simp only [get_put]
            repeat rw [if_neg (by omega)]
        | false =>
          cases k2 : ((cb.toNat : Int) == 45) with
          | true =>
            rw [el, wpc_seq]
            simp only [a141_10, a141_11, a141_12, wpo_u, wpc_skip, wpc_ops, wpc_draw, wpc_seq, wpc_cond, wpc_block, wpc_loop, wpc_exit, wpc_scope, wpc_ret, seqQ_norm, seqQ_ret, seqQ_exit, blockQ'_norm, blockQ'_ret, blockQ'_exit, roundQ_norm, roundQ_ret, roundQ_exit, condK_true, condK_false, wpo_nil', wpo_none, wpo_tt, wpo_ff, wpo_tf, wpo_ft, opsK_c, isC_none, isC_read, isC_write, wp1_call, callK_ret, wp1_mv', wp1_bin', wp1_un', wp1_eq', wp1_extract', wp1_pick', wp1_len', wp1_load', wp1_conv', wp1_store', wp1_idxAddr', wp1_append', wp1_mkIface', wp1_alloc', rd_t, rd_c, ok_t, ok_c, put_some, put_none, get_put, reduceIte, Nat.reduceEqDiff, AV.bool.injEq, Option.some.injEq, exists_eq_left', Option.map_some, Option.bind_some, opds_nil, opds_cons, opd_t, opd_c, aBin, aInt, decide_true, decide_false, negIf, wp1_nilCheck', wp1_fieldAddr', wp1_slice, op_slice, opdo_some, opdo_none, wp1_lit, op_lit, parts_nil, parts_cons, wp1_build, op_build, wp1_box, op_box, isC kc, g8, gw, gl, gi, z0, e1, e2', wc_eq (kind_spec _ _), k1, k2, aPick]
            refine go _ ?_ fun n hn => ?_
            · simp only [get_put, reduceIte, Nat.reduceEqDiff, okHost, k1, k2, Bool.false_or, Bool.true_or, Bool.true_and]
            · simp only [get_put]
              repeat rw [if_neg (by omega)]
          | false =>
            cases k3 : ((cb.toNat : Int) == 46) with
            | true =>
              rw [el, wpc_seq]
              simp only [a141_10, a141_11, a141_12, wpo_u, wpc_skip, wpc_ops, wpc_draw, wpc_seq, wpc_cond, wpc_block, wpc_loop, wpc_exit, wpc_scope, wpc_ret, seqQ_norm, seqQ_ret, seqQ_exit, blockQ'_norm, blockQ'_ret, blockQ'_exit, roundQ_norm, roundQ_ret, roundQ_exit, condK_true, condK_false, wpo_nil', wpo_none, wpo_tt, wpo_ff, wpo_tf, wpo_ft, opsK_c, isC_none, isC_read, isC_write, wp1_call, callK_ret, wp1_mv', wp1_bin', wp1_un', wp1_eq', wp1_extract', wp1_pick', wp1_len', wp1_load', wp1_conv', wp1_store', wp1_idxAddr', wp1_append', wp1_mkIface', wp1_alloc', rd_t, rd_c, ok_t, ok_c, put_some, put_none, get_put, reduceIte, Nat.reduceEqDiff, AV.bool.injEq, Option.some.injEq, exists_eq_left', Option.map_some, Option.bind_some, opds_nil, opds_cons, opd_t, opd_c, aBin, aInt, decide_true, decide_false, negIf, wp1_nilCheck', wp1_fieldAddr', wp1_slice, op_slice, opdo_some, opdo_none, wp1_lit, op_lit, parts_nil, parts_cons, wp1_build, op_build, wp1_box, op_box, isC kc, g8, gw, gl, gi, z0, e1, e2', wc_eq (kind_spec _ _), k1, k2, k3, aPick]
              refine go _ ?_ fun n hn => ?_
              · simp only [get_put, reduceIte, Nat.reduceEqDiff, okHost, k1, k2, k3, Bool.false_or, Bool.true_and]
              · simp only [get_put]
                repeat rw [if_neg (by omega)]
            | false =>
              rw [el, wpc_seq]
              simp only [a141_10, a141_11, a141_12, wpo_u, wpc_skip, wpc_ops, wpc_draw, wpc_seq, wpc_cond, wpc_block, wpc_loop, wpc_exit, wpc_scope, wpc_ret, seqQ_norm, seqQ_ret, seqQ_exit, blockQ'_norm, blockQ'_ret, blockQ'_exit, roundQ_norm, roundQ_ret, roundQ_exit, condK_true, condK_false, wpo_nil', wpo_none, wpo_tt, wpo_ff, wpo_tf, wpo_ft, opsK_c, isC_none, isC_read, isC_write, wp1_call, callK_ret, wp1_mv', wp1_bin', wp1_un', wp1_eq', wp1_extract', wp1_pick', wp1_len', wp1_load', wp1_conv', wp1_store', wp1_idxAddr', wp1_append', wp1_mkIface', wp1_alloc', rd_t, rd_c, ok_t, ok_c, put_some, put_none, get_put, reduceIte, Nat.reduceEqDiff, AV.bool.injEq, Option.some.injEq, exists_eq_left', Option.map_some, Option.bind_some, opds_nil, opds_cons, opd_t, opd_c, aBin, aInt, decide_true, decide_false, negIf, wp1_nilCheck', wp1_fieldAddr', wp1_slice, op_slice, opdo_some, opdo_none, wp1_lit, op_lit, parts_nil, parts_cons, wp1_build, op_build, wp1_box, op_box, isC kc, g8, gw, gl, gi, z0, e1, e2', wc_eq (kind_spec _ _), k1, k2, k3, aPick]
              refine go _ ?_ fun n hn => ?_
              · simp only [get_put, reduceIte, Nat.reduceEqDiff, okHost, k1, k2, k3, Bool.false_or, Bool.true_and]
              · simp only [get_put]
                repeat rw [if_neg (by omega)]
    · have z0 : ((i : Int) < (s.length : Int)) = False := eq_false (by omega)
      have hd : s.drop i = [] := List.drop_of_length_le (by omega)
      simp only [a141_l14, a141_10, wpo_u, wpc_skip, wpc_ops, wpc_draw, wpc_seq, wpc_cond, wpc_block, wpc_loop, wpc_exit, wpc_scope, wpc_ret, seqQ_norm, seqQ_ret, seqQ_exit, blockQ'_norm, blockQ'_ret, blockQ'_exit, roundQ_norm, roundQ_ret, roundQ_exit, condK_true, condK_false, wpo_nil', wpo_none, wpo_tt, wpo_ff, wpo_tf, wpo_ft, opsK_c, isC_none, isC_read, isC_write, wp1_call, callK_ret, wp1_mv', wp1_bin', wp1_un', wp1_eq', wp1_extract', wp1_pick', wp1_len', wp1_load', wp1_conv', wp1_store', wp1_idxAddr', wp1_append', wp1_mkIface', wp1_alloc', rd_t, rd_c, ok_t, ok_c, put_some, put_none, get_put, reduceIte, Nat.reduceEqDiff, AV.bool.injEq, Option.some.injEq, exists_eq_left', Option.map_some, Option.bind_some, opds_nil, opds_cons, opd_t, opd_c, aBin, aInt, decide_true, decide_false, negIf, wp1_nilCheck', wp1_fieldAddr', wp1_slice, op_slice, opdo_some, opdo_none, wp1_lit, op_lit, parts_nil, parts_cons, wp1_build, op_build, wp1_box, op_box, gl, gi, z0]
      refine hQ _ ?_ fun n hn => ?_
      · simp only [get_put, reduceIte, Nat.reduceEqDiff, g8]
        rw [hd, List.all_nil, Bool.and_true]
      · simp only [get_put]
        repeat rw [if_neg (by omega)]

def nodeF (s : List UInt8) : Bool := has64 s && !(name64 s == []) && !(host64 s == []) && decide (s.length ≤ 64) && !has64 (host64 s) && (name64 s).all okName && (host64 s).all okHost
theorem node_spec (s : List UInt8) (hs : s.length < 9223372036854775808) (h : Heap) : WC env 141 [.str s] h (fun o => ∃ a b, o = .ret ⟨.tup [.str a, .str b, if nodeF s then .nili else errA 0 24], h, .none⟩) := by
  refine call_pure rfl rfl rfl rfl ?_
  obtain ⟨n, hn⟩ : ∃ n, n = name64 s := ⟨_, rfl⟩
  obtain ⟨o, ho⟩ : ∃ o, o = host64 s := ⟨_, rfl⟩
  have hnl : n.length ≤ s.length := by
    rw [hn, name64]; split
    · simp; omega
    · omega
  have hol : o.length ≤ s.length := by
    rw [ho, host64]; split
    · simp
    · simp
  have wcut : ∀ h, WC env 151 [.str s, .str [64]] h (fun r => r = .ret ⟨.tup [.str n, .str o, .bool (has64 s)], h, .none⟩) := fun h => by rw [hn, ho]; exact cut_spec s hs h
  have en : ∀ h, aLenOp true h (.str s) = some ⟨.int .i64 s.length, h, .none⟩ := fun h => rfl
  have ef : nodeF s = (has64 s && !(n == []) && !(o == []) && decide (s.length ≤ 64) && !has64 o && n.all okName && o.all okHost) := by rw [nodeF, ← hn, ← ho]
  obtain ⟨h1, eh1⟩ : ∃ h1, h1 = Heap.empty.new (n.map byteAV) := ⟨_, rfl⟩
  have ho1 : HeapOk h1 := by rw [eh1]; exact HeapOk.empty.new _
  have a1 : h1.at_ Heap.empty.next 0 = some (n.map byteAV) := by rw [eh1]; exact at_new _
  have conv1 : aConv .empty .s2b (.str n) = some ⟨.sl Heap.empty.next 0 0 1 n.length none, h1, .write⟩ := by rw [eh1]; rfl
  have hw1 : Bytes h1 (.sl Heap.empty.next 0 0 1 n.length none) n := .sl _ _ _ _ _ _ a1 (by simp) (by rw [List.drop_zero]; exact List.take_of_length_le (by simp)) (fun c h => by cases h)
  obtain ⟨h2, eh2⟩ : ∃ h2, h2 = h1.new (o.map byteAV) := ⟨_, rfl⟩
  have a2 : h2.at_ h1.next 0 = some (o.map byteAV) := by rw [eh2]; exact at_new _
  have conv2 : aConv h1 .s2b (.str o) = some ⟨.sl h1.next 0 0 1 o.length none, h2, .write⟩ := by rw [eh2]; rfl
  have hw2 : Bytes h2 (.sl h1.next 0 0 1 o.length none) o := .sl _ _ _ _ _ _ a2 (by simp) (by rw [List.drop_zero]; exact List.take_of_length_le (by simp)) (fun c h => by cases h)
  have en1 : ∀ h, aLenOp false h (.sl Heap.empty.next 0 0 1 n.length none) = some ⟨.int .i64 n.length, h, .none⟩ := fun h => rfl
  have en2 : ∀ h, aLenOp false h (.sl h1.next 0 0 1 o.length none) = some ⟨.int .i64 o.length, h, .none⟩ := fun h => rfl
  have rest : ∀ (σ : Slots) (g : Bool), σ.get 5 = .str n → σ.get 6 = .str o → σ.get 8 = .bool g → nodeF s = (g && n.all okName && o.all okHost) → wpc env (.seq (.seq (.ops a141_3) (.block 0 (.loop a141_l8))) (.seq (.seq (.ops a141_9) (.block 2 (.loop a141_l14))) (.seq (.seq (.ops a141_15) (.cond (.t 79) (.seq (.ops a141_16) .ret) .skip)) (.seq (.ops a141_17) .ret)))) ⟨σ, .empty⟩
      (pureQ env a141.results h (fun r => ∃ a b, r = .ret ⟨.tup [.str a, .str b, if nodeF s then .nili else errA 0 24], h, .none⟩)) := by
    intro σ g p5 p6 p8 e
    rw [wpc_seq]
    simp only [a141_3, wpc_skip, wpc_ops, wpc_draw, wpc_seq, wpc_cond, wpc_block, wpc_loop, wpc_exit, wpc_scope, wpc_ret, seqQ_norm, seqQ_ret, seqQ_exit, blockQ'_norm, blockQ'_ret, blockQ'_exit, roundQ_norm, roundQ_ret, roundQ_exit, condK_true, condK_false, wpo_nil', wpo_none, wpo_tt, wpo_ff, wpo_tf, wpo_ft, opsK_c, isC_none, isC_read, isC_write, wp1_call, callK_ret, wp1_mv', wp1_bin', wp1_un', wp1_eq', wp1_extract', wp1_pick', wp1_len', wp1_load', wp1_conv', wp1_store', wp1_idxAddr', wp1_append', wp1_mkIface', wp1_alloc', rd_t, rd_c, ok_t, ok_c, put_some, put_none, get_put, reduceIte, Nat.reduceEqDiff, AV.bool.injEq, Option.some.injEq, exists_eq_left', Option.map_some, Option.bind_some, opds_nil, opds_cons, opd_t, opd_c, aBin, aInt, decide_true, decide_false, negIf, wp1_nilCheck', wp1_fieldAddr', wp1_slice, op_slice, opdo_some, opdo_none, wp1_lit, op_lit, parts_nil, parts_cons, wp1_build, op_build, wp1_box, op_box, p5, p8, conv1, en1]
    refine name_loop hw1 (by omega) (n.length + 1) 0 _ g (by omega) (by omega) ?_ ?_ ?_ ?_ fun σ1 q8 q1 => ?_
    · simp only [get_put, reduceIte, Nat.reduceEqDiff, p8]
    · simp only [get_put, reduceIte, Nat.reduceEqDiff]
    · simp only [get_put, reduceIte, Nat.reduceEqDiff]
    · simp only [get_put, reduceIte, Nat.reduceEqDiff] <;> rfl
    have q5 : σ1.get 5 = .str n := by rw [q1 5 (by omega)]; simp only [get_put, reduceIte, Nat.reduceEqDiff, p5]
    have q6 : σ1.get 6 = .str o := by rw [q1 6 (by omega)]; simp only [get_put, reduceIte, Nat.reduceEqDiff, p6]
    rw [List.drop_zero] at q8
    simp only [a141_9, wpc_skip, wpc_ops, wpc_draw, wpc_seq, wpc_cond, wpc_block, wpc_loop, wpc_exit, wpc_scope, wpc_ret, seqQ_norm, seqQ_ret, seqQ_exit, blockQ'_norm, blockQ'_ret, blockQ'_exit, roundQ_norm, roundQ_ret, roundQ_exit, condK_true, condK_false, wpo_nil', wpo_none, wpo_tt, wpo_ff, wpo_tf, wpo_ft, opsK_c, isC_none, isC_read, isC_write, wp1_call, callK_ret, wp1_mv', wp1_bin', wp1_un', wp1_eq', wp1_extract', wp1_pick', wp1_len', wp1_load', wp1_conv', wp1_store', wp1_idxAddr', wp1_append', wp1_mkIface', wp1_alloc', rd_t, rd_c, ok_t, ok_c, put_some, put_none, get_put, reduceIte, Nat.reduceEqDiff, AV.bool.injEq, Option.some.injEq, exists_eq_left', Option.map_some, Option.bind_some, opds_nil, opds_cons, opd_t, opd_c, aBin, aInt, decide_true, decide_false, negIf, wp1_nilCheck', wp1_fieldAddr', wp1_slice, op_slice, opdo_some, opdo_none, wp1_lit, op_lit, parts_nil, parts_cons, wp1_build, op_build, wp1_box, op_box, q6, conv2, en2]
    refine host_loop hw2 (by omega) (o.length + 1) 0 _ (g && n.all okName) (by omega) (by omega) ?_ ?_ ?_ ?_ fun σ2 r8 r1 => ?_
    · simp only [get_put, reduceIte, Nat.reduceEqDiff, q8]
    · simp only [get_put, reduceIte, Nat.reduceEqDiff]
    · simp only [get_put, reduceIte, Nat.reduceEqDiff]
    · simp only [get_put, reduceIte, Nat.reduceEqDiff] <;> rfl
    have r5 : σ2.get 5 = .str n := by rw [r1 5 (by omega)]; simp only [get_put, reduceIte, Nat.reduceEqDiff, q5]
    have r6 : σ2.get 6 = .str o := by rw [r1 6 (by omega)]; simp only [get_put, reduceIte, Nat.reduceEqDiff, q6]
    rw [List.drop_zero, ← e] at r8
    cases hf : nodeF s with
    | true =>
      rw [hf] at r8
      simp only [a141_15, a141_17, wpc_skip, wpc_ops, wpc_draw, wpc_seq, wpc_cond, wpc_block, wpc_loop, wpc_exit, wpc_scope, wpc_ret, seqQ_norm, seqQ_ret, seqQ_exit, blockQ'_norm, blockQ'_ret, blockQ'_exit, roundQ_norm, roundQ_ret, roundQ_exit, condK_true, condK_false, wpo_nil', wpo_none, wpo_tt, wpo_ff, wpo_tf, wpo_ft, opsK_c, isC_none, isC_read, isC_write, wp1_call, callK_ret, wp1_mv', wp1_bin', wp1_un', wp1_eq', wp1_extract', wp1_pick', wp1_len', wp1_load', wp1_conv', wp1_store', wp1_idxAddr', wp1_append', wp1_mkIface', wp1_alloc', rd_t, rd_c, ok_t, ok_c, put_some, put_none, get_put, reduceIte, Nat.reduceEqDiff, AV.bool.injEq, Option.some.injEq, exists_eq_left', Option.map_some, Option.bind_some, opds_nil, opds_cons, opd_t, opd_c, aBin, aInt, decide_true, decide_false, negIf, wp1_nilCheck', wp1_fieldAddr', wp1_slice, op_slice, opdo_some, opdo_none, wp1_lit, op_lit, parts_nil, parts_cons, wp1_build, op_build, wp1_box, op_box, r5, r6, r8, aUn, Bool.not_true]
      exact ⟨[.str n, .str o, .nili], .tup [.str n, .str o, .nili], by simp only [a141, Env.results, Option.map_some, get_put, reduceIte, Nat.reduceEqDiff], (frz_noRef (v := .tup [.str n, .str o, .nili]) rfl).2 rfl, _, _, rfl⟩
    | false =>
      rw [hf] at r8
      simp only [a141_15, a141_16, wpc_skip, wpc_ops, wpc_draw, wpc_seq, wpc_cond, wpc_block, wpc_loop, wpc_exit, wpc_scope, wpc_ret, seqQ_norm, seqQ_ret, seqQ_exit, blockQ'_norm, blockQ'_ret, blockQ'_exit, roundQ_norm, roundQ_ret, roundQ_exit, condK_true, condK_false, wpo_nil', wpo_none, wpo_tt, wpo_ff, wpo_tf, wpo_ft, opsK_c, isC_none, isC_read, isC_write, wp1_call, callK_ret, wp1_mv', wp1_bin', wp1_un', wp1_eq', wp1_extract', wp1_pick', wp1_len', wp1_load', wp1_conv', wp1_store', wp1_idxAddr', wp1_append', wp1_mkIface', wp1_alloc', rd_t, rd_c, ok_t, ok_c, put_some, put_none, get_put, reduceIte, Nat.reduceEqDiff, AV.bool.injEq, Option.some.injEq, exists_eq_left', Option.map_some, Option.bind_some, opds_nil, opds_cons, opd_t, opd_c, aBin, aInt, decide_true, decide_false, negIf, wp1_nilCheck', wp1_fieldAddr', wp1_slice, op_slice, opdo_some, opdo_none, wp1_lit, op_lit, parts_nil, parts_cons, wp1_build, op_build, wp1_box, op_box, r5, r6, r8, aUn, Bool.not_false, wc_eq (atomRefused_spec _ _ _)]
      exact ⟨[.str [], .str [], errA 0 24], .tup [.str [], .str [], errA 0 24], by simp only [a141, Env.results, Option.map_some, get_put, reduceIte, Nat.reduceEqDiff], (frz_noRef (v := .tup [.str [], .str [], errA 0 24]) rfl).2 rfl, _, _, rfl⟩
  have eb : a141.body = (.seq (.ops a141_0) (.seq (.ops a141_1) (.seq (.ops a141_2) (.seq (.seq (.ops a141_3) (.block 0 (.loop a141_l8))) (.seq (.seq (.ops a141_9) (.block 2 (.loop a141_l14))) (.seq (.seq (.ops a141_15) (.cond (.t 79) (.seq (.ops a141_16) .ret) .skip)) (.seq (.ops a141_17) .ret))))))) := rfl
  rw [eb, wpc_seq]
  cases t1 : has64 s with
  | false =>
    have wcut : ∀ h, WC env 151 [.str s, .str [64]] h (fun r => r = .ret ⟨.tup [.str n, .str o, .bool false], h, .none⟩) := fun h => by rw [← t1]; exact wcut h
    simp only [a141_0, a141_1, a141_2, Slots.ofList, wpc_skip, wpc_ops, wpc_seq, wpc_cond, wpc_block, wpc_loop, wpc_exit, wpc_scope, wpc_ret, seqQ_norm, seqQ_ret, seqQ_exit, blockQ'_norm, blockQ'_ret, blockQ'_exit, roundQ_norm, roundQ_ret, roundQ_exit, condK_true, condK_false, wpo_nil', wpo_none, wpo_tt, wpo_ff, wpo_tf, wpo_ft, opsK_c, isC_none, isC_read, isC_write, wp1_call, callK_ret, wp1_mv', wp1_bin', wp1_un', wp1_eq', wp1_extract', wp1_pick', wp1_len', wp1_load', wp1_conv', wp1_store', wp1_idxAddr', wp1_append', wp1_mkIface', wp1_alloc', rd_t, rd_c, ok_t, ok_c, put_some, put_none, get_put, reduceIte, Nat.reduceEqDiff, AV.bool.injEq, Option.some.injEq, exists_eq_left', Option.map_some, Option.bind_some, opds_nil, opds_cons, opd_t, opd_c, aBin, aInt, decide_true, decide_false, negIf, wp1_nilCheck', wp1_fieldAddr', wp1_slice, op_slice, opdo_some, opdo_none, wp1_lit, op_lit, parts_nil, parts_cons, wp1_build, op_build, wp1_box, op_box, wc_eq (wcut _), aExtract, x30, x31, x32, en, aStr, aUn, aPick]
    refine rest _ false ?_ ?_ ?_ (by rw [ef]; simp [t1])
    · simp only [get_put, reduceIte, Nat.reduceEqDiff]
    · simp only [get_put, reduceIte, Nat.reduceEqDiff]
    · simp only [get_put, reduceIte, Nat.reduceEqDiff]
  | true =>
  have wcut : ∀ h, WC env 151 [.str s, .str [64]] h (fun r => r = .ret ⟨.tup [.str n, .str o, .bool true], h, .none⟩) := fun h => by rw [← t1]; exact wcut h
  cases t2 : (n == ([] : List UInt8)) with
  | true =>
    simp only [a141_0, a141_1, a141_2, Slots.ofList, wpc_skip, wpc_ops, wpc_seq, wpc_cond, wpc_block, wpc_loop, wpc_exit, wpc_scope, wpc_ret, seqQ_norm, seqQ_ret, seqQ_exit, blockQ'_norm, blockQ'_ret, blockQ'_exit, roundQ_norm, roundQ_ret, roundQ_exit, condK_true, condK_false, wpo_nil', wpo_none, wpo_tt, wpo_ff, wpo_tf, wpo_ft, opsK_c, isC_none, isC_read, isC_write, wp1_call, callK_ret, wp1_mv', wp1_bin', wp1_un', wp1_eq', wp1_extract', wp1_pick', wp1_len', wp1_load', wp1_conv', wp1_store', wp1_idxAddr', wp1_append', wp1_mkIface', wp1_alloc', rd_t, rd_c, ok_t, ok_c, put_some, put_none, get_put, reduceIte, Nat.reduceEqDiff, AV.bool.injEq, Option.some.injEq, exists_eq_left', Option.map_some, Option.bind_some, opds_nil, opds_cons, opd_t, opd_c, aBin, aInt, decide_true, decide_false, negIf, wp1_nilCheck', wp1_fieldAddr', wp1_slice, op_slice, opdo_some, opdo_none, wp1_lit, op_lit, parts_nil, parts_cons, wp1_build, op_build, wp1_box, op_box, wc_eq (wcut _), aExtract, x30, x31, x32, en, aStr, aUn, aPick, t2, Bool.not_true]
    refine rest _ false ?_ ?_ ?_ (by rw [ef]; simp [t1, t2])
    · simp only [get_put, reduceIte, Nat.reduceEqDiff]
    · simp only [get_put, reduceIte, Nat.reduceEqDiff]
    · simp only [get_put, reduceIte, Nat.reduceEqDiff]
  | false =>
  cases t3 : (o == ([] : List UInt8)) with
  | true =>
    simp only [a141_0, a141_1, a141_2, Slots.ofList, wpc_skip, wpc_ops, wpc_seq, wpc_cond, wpc_block, wpc_loop, wpc_exit, wpc_scope, wpc_ret, seqQ_norm, seqQ_ret, seqQ_exit, blockQ'_norm, blockQ'_ret, blockQ'_exit, roundQ_norm, roundQ_ret, roundQ_exit, condK_true, condK_false, wpo_nil', wpo_none, wpo_tt, wpo_ff, wpo_tf, wpo_ft, opsK_c, isC_none, isC_read, isC_write, wp1_call, callK_ret, wp1_mv', wp1_bin', wp1_un', wp1_eq', wp1_extract', wp1_pick', wp1_len', wp1_load', wp1_conv', wp1_store', wp1_idxAddr', wp1_append', wp1_mkIface', wp1_alloc', rd_t, rd_c, ok_t, ok_c, put_some, put_none, get_put, reduceIte, Nat.reduceEqDiff, AV.bool.injEq, Option.some.injEq, exists_eq_left', Option.map_some, Option.bind_some, opds_nil, opds_cons, opd_t, opd_c, aBin, aInt, decide_true, decide_false, negIf, wp1_nilCheck', wp1_fieldAddr', wp1_slice, op_slice, opdo_some, opdo_none, wp1_lit, op_lit, parts_nil, parts_cons, wp1_build, op_build, wp1_box, op_box, wc_eq (wcut _), aExtract, x30, x31, x32, en, aStr, aUn, aPick, t2, t3, Bool.not_true, Bool.not_false]
    refine rest _ false ?_ ?_ ?_ (by rw [ef]; simp [t1, t2, t3])
    · simp only [get_put, reduceIte, Nat.reduceEqDiff]
    · simp only [get_put, reduceIte, Nat.reduceEqDiff]
    · simp only [get_put, reduceIte, Nat.reduceEqDiff]
  | false =>
  by_cases t4 : s.length ≤ 64
  case neg =>
    have z4 : ((s.length : Int) ≤ 64) = False := eq_false (by omega)
    simp only [a141_0, a141_1, a141_2, Slots.ofList, wpc_skip, wpc_ops, wpc_seq, wpc_cond, wpc_block, wpc_loop, wpc_exit, wpc_scope, wpc_ret, seqQ_norm, seqQ_ret, seqQ_exit, blockQ'_norm, blockQ'_ret, blockQ'_exit, roundQ_norm, roundQ_ret, roundQ_exit, condK_true, condK_false, wpo_nil', wpo_none, wpo_tt, wpo_ff, wpo_tf, wpo_ft, opsK_c, isC_none, isC_read, isC_write, wp1_call, callK_ret, wp1_mv', wp1_bin', wp1_un', wp1_eq', wp1_extract', wp1_pick', wp1_len', wp1_load', wp1_conv', wp1_store', wp1_idxAddr', wp1_append', wp1_mkIface', wp1_alloc', rd_t, rd_c, ok_t, ok_c, put_some, put_none, get_put, reduceIte, Nat.reduceEqDiff, AV.bool.injEq, Option.some.injEq, exists_eq_left', Option.map_some, Option.bind_some, opds_nil, opds_cons, opd_t, opd_c, aBin, aInt, decide_true, decide_false, negIf, wp1_nilCheck', wp1_fieldAddr', wp1_slice, op_slice, opdo_some, opdo_none, wp1_lit, op_lit, parts_nil, parts_cons, wp1_build, op_build, wp1_box, op_box, wc_eq (wcut _), aExtract, x30, x31, x32, en, aStr, aUn, aPick, t2, t3, z4, Bool.not_false]
    refine rest _ false ?_ ?_ ?_ (by rw [ef]; simp [t1, t2, t3, t4])
    · simp only [get_put, reduceIte, Nat.reduceEqDiff]
    · simp only [get_put, reduceIte, Nat.reduceEqDiff]
    · simp only [get_put, reduceIte, Nat.reduceEqDiff]
  have z4 : ((s.length : Int) ≤ 64) = True := eq_true (by omega)
  cases t5 : has64 o with
  | true =>
    have wc5 : ∀ h, WC env 152 [.str o, .str [64]] h (fun r => r = .ret ⟨.bool true, h, .none⟩) := fun h => by rw [← t5]; exact contains_spec o h
    simp only [a141_0, a141_1, a141_2, Slots.ofList, wpc_skip, wpc_ops, wpc_seq, wpc_cond, wpc_block, wpc_loop, wpc_exit, wpc_scope, wpc_ret, seqQ_norm, seqQ_ret, seqQ_exit, blockQ'_norm, blockQ'_ret, blockQ'_exit, roundQ_norm, roundQ_ret, roundQ_exit, condK_true, condK_false, wpo_nil', wpo_none, wpo_tt, wpo_ff, wpo_tf, wpo_ft, opsK_c, isC_none, isC_read, isC_write, wp1_call, callK_ret, wp1_mv', wp1_bin', wp1_un', wp1_eq', wp1_extract', wp1_pick', wp1_len', wp1_load', wp1_conv', wp1_store', wp1_idxAddr', wp1_append', wp1_mkIface', wp1_alloc', rd_t, rd_c, ok_t, ok_c, put_some, put_none, get_put, reduceIte, Nat.reduceEqDiff, AV.bool.injEq, Option.some.injEq, exists_eq_left', Option.map_some, Option.bind_some, opds_nil, opds_cons, opd_t, opd_c, aBin, aInt, decide_true, decide_false, negIf, wp1_nilCheck', wp1_fieldAddr', wp1_slice, op_slice, opdo_some, opdo_none, wp1_lit, op_lit, parts_nil, parts_cons, wp1_build, op_build, wp1_box, op_box, wc_eq (wcut _), aExtract, x30, x31, x32, en, aStr, aUn, aPick, t2, t3, z4, Bool.not_true, Bool.not_false, wc_eq (wc5 _)]
    refine rest _ false ?_ ?_ ?_ (by rw [ef]; simp [t1, t2, t3, t4, t5])
    · simp only [get_put, reduceIte, Nat.reduceEqDiff]
    · simp only [get_put, reduceIte, Nat.reduceEqDiff]
    · simp only [get_put, reduceIte, Nat.reduceEqDiff]
  | false =>
    have wc5 : ∀ h, WC env 152 [.str o, .str [64]] h (fun r => r = .ret ⟨.bool false, h, .none⟩) := fun h => by rw [← t5]; exact contains_spec o h
    simp only [a141_0, a141_1, a141_2, Slots.ofList, wpc_skip, wpc_ops, wpc_seq, wpc_cond, wpc_block, wpc_loop, wpc_exit, wpc_scope, wpc_ret, seqQ_norm, seqQ_ret, seqQ_exit, blockQ'_norm, blockQ'_ret, blockQ'_exit, roundQ_norm, roundQ_ret, roundQ_exit, condK_true, condK_false, wpo_nil', wpo_none, wpo_tt, wpo_ff, wpo_tf, wpo_ft, opsK_c, isC_none, isC_read, isC_write, wp1_call, callK_ret, wp1_mv', wp1_bin', wp1_un', wp1_eq', wp1_extract', wp1_pick', wp1_len', wp1_load', wp1_conv', wp1_store', wp1_idxAddr', wp1_append', wp1_mkIface', wp1_alloc', rd_t, rd_c, ok_t, ok_c, put_some, put_none, get_put, reduceIte, Nat.reduceEqDiff, AV.bool.injEq, Option.some.injEq, exists_eq_left', Option.map_some, Option.bind_some, opds_nil, opds_cons, opd_t, opd_c, aBin, aInt, decide_true, decide_false, negIf, wp1_nilCheck', wp1_fieldAddr', wp1_slice, op_slice, opdo_some, opdo_none, wp1_lit, op_lit, parts_nil, parts_cons, wp1_build, op_build, wp1_box, op_box, wc_eq (wcut _), aExtract, x30, x31, x32, en, aStr, aUn, aPick, t2, t3, z4, Bool.not_false, wc_eq (wc5 _)]
    refine rest _ true ?_ ?_ ?_ (by rw [ef]; simp [t1, t2, t3, t4, t5])
    · simp only [get_put, reduceIte, Nat.reduceEqDiff]
    · simp only [get_put, reduceIte, Nat.reduceEqDiff]
    · simp only [get_put, reduceIte, Nat.reduceEqDiff]
end Go.Bf
