/-
  What Quote answers: the loop, and the whole.
-/
import Derived.Test.YtaielgjmhbjfhaaGreatDoorBfQuote
set_option linter.unusedVariables false
set_option linter.unusedSimpArgs false
set_option maxRecDepth 20000
namespace Go.Bf
open Go.AM

theorem plain_spec {s : List UInt8} (hs : s.length < 1000000) : ∃ b, ∀ h, WC env 150 [.str s] h (fun o => o = .ret ⟨.bool b, h, .none⟩) := by
  cases s with
  | nil => exact ⟨false, fun h => wc_run (n := 30) (by kernel_rfl)⟩
  | cons c r =>
    have z0 : (!((c :: r) == ([] : List UInt8))) = true := rfl
    have ix : idxS (.str (c :: r)) (.int .i64 0) = some (.int .u8 c.toNat) := idxS_at (s := c :: r) (i := 0) (by simp)
    obtain ⟨n, hn⟩ := word_spec hs ((c :: r).length + 1) 0 (by omega) (by omega)
    obtain ⟨b, hb⟩ := reserved_spec (c :: r)
    have hn' : ∀ h, WC env 159 [.str (c :: r), .int .i64 0] h (fun o => o = .ret ⟨.int .i64 n, h, .none⟩) := hn
    have en : ∀ h, aLenOp true h (.str (c :: r)) = some ⟨.int .i64 (c :: r).length, h, .none⟩ := fun h => rfl
    cases z1 : (kindF (c.toNat : Int) == 1) with
    | false =>
      refine ⟨false, fun h => call_pure rfl rfl rfl rfl ?_⟩
      simp only [a150, a150_0, a150_1, Slots.ofList, wpc_skip, wpc_ops, wpc_draw, wpc_seq, wpc_cond, wpc_block, wpc_loop, wpc_exit, wpc_scope, wpc_ret, seqQ_norm, seqQ_ret, seqQ_exit, blockQ'_norm, blockQ'_ret, blockQ'_exit, roundQ_norm, roundQ_ret, roundQ_exit, condK_true, condK_false, wpo_nil', wpo_none, wpo_tt, wpo_ff, wpo_tf, wpo_ft, opsK_c, isC_none, isC_read, isC_write, wp1_call, callK_ret, wp1_mv', wp1_bin', wp1_un', wp1_eq', wp1_extract', wp1_pick', wp1_len', wp1_load', wp1_conv', wp1_store', wp1_idxAddr', wp1_append', wp1_mkIface', wp1_alloc', rd_t, rd_c, ok_t, ok_c, put_some, put_none, get_put, reduceIte, Nat.reduceEqDiff, AV.bool.injEq, Option.some.injEq, exists_eq_left', Option.map_some, Option.bind_some, opds_nil, opds_cons, opd_t, opd_c, aBin, aInt, decide_true, decide_false, negIf, wp1_nilCheck', wp1_fieldAddr', wp1_slice, op_slice, opdo_some, opdo_none, wp1_lit, op_lit, parts_nil, parts_cons, wp1_build, op_build, wp1_box, op_box, wp1_idxStr, op_idxStr, aStr, z0, ix, wc_eq (kind_spec _ _), z1, aPick]
      exact ⟨[.bool false], _, by simp only [Env.results, Option.map_some, get_put, reduceIte, Nat.reduceEqDiff], (frz_noRef (v := .bool false) rfl).2 rfl, rfl⟩
    | true =>
      cases z2 : (n == ((c :: r).length : Int)) with
      | false =>
        refine ⟨false, fun h => call_pure rfl rfl rfl rfl ?_⟩
        simp only [a150, a150_0, a150_1, Slots.ofList, wpc_skip, wpc_ops, wpc_draw, wpc_seq, wpc_cond, wpc_block, wpc_loop, wpc_exit, wpc_scope, wpc_ret, seqQ_norm, seqQ_ret, seqQ_exit, blockQ'_norm, blockQ'_ret, blockQ'_exit, roundQ_norm, roundQ_ret, roundQ_exit, condK_true, condK_false, wpo_nil', wpo_none, wpo_tt, wpo_ff, wpo_tf, wpo_ft, opsK_c, isC_none, isC_read, isC_write, wp1_call, callK_ret, wp1_mv', wp1_bin', wp1_un', wp1_eq', wp1_extract', wp1_pick', wp1_len', wp1_load', wp1_conv', wp1_store', wp1_idxAddr', wp1_append', wp1_mkIface', wp1_alloc', rd_t, rd_c, ok_t, ok_c, put_some, put_none, get_put, reduceIte, Nat.reduceEqDiff, AV.bool.injEq, Option.some.injEq, exists_eq_left', Option.map_some, Option.bind_some, opds_nil, opds_cons, opd_t, opd_c, aBin, aInt, decide_true, decide_false, negIf, wp1_nilCheck', wp1_fieldAddr', wp1_slice, op_slice, opdo_some, opdo_none, wp1_lit, op_lit, parts_nil, parts_cons, wp1_build, op_build, wp1_box, op_box, wp1_idxStr, op_idxStr, aStr, z0, ix, wc_eq (kind_spec _ _), z1, aPick, wc_eq (hn' _), en, z2]
        exact ⟨[.bool false], _, by simp only [Env.results, Option.map_some, get_put, reduceIte, Nat.reduceEqDiff], (frz_noRef (v := .bool false) rfl).2 rfl, rfl⟩
      | true =>
        refine ⟨!b, fun h => call_pure rfl rfl rfl rfl ?_⟩
        simp only [a150, a150_0, a150_1, Slots.ofList, wpc_skip, wpc_ops, wpc_draw, wpc_seq, wpc_cond, wpc_block, wpc_loop, wpc_exit, wpc_scope, wpc_ret, seqQ_norm, seqQ_ret, seqQ_exit, blockQ'_norm, blockQ'_ret, blockQ'_exit, roundQ_norm, roundQ_ret, roundQ_exit, condK_true, condK_false, wpo_nil', wpo_none, wpo_tt, wpo_ff, wpo_tf, wpo_ft, opsK_c, isC_none, isC_read, isC_write, wp1_call, callK_ret, wp1_mv', wp1_bin', wp1_un', wp1_eq', wp1_extract', wp1_pick', wp1_len', wp1_load', wp1_conv', wp1_store', wp1_idxAddr', wp1_append', wp1_mkIface', wp1_alloc', rd_t, rd_c, ok_t, ok_c, put_some, put_none, get_put, reduceIte, Nat.reduceEqDiff, AV.bool.injEq, Option.some.injEq, exists_eq_left', Option.map_some, Option.bind_some, opds_nil, opds_cons, opd_t, opd_c, aBin, aInt, decide_true, decide_false, negIf, wp1_nilCheck', wp1_fieldAddr', wp1_slice, op_slice, opdo_some, opdo_none, wp1_lit, op_lit, parts_nil, parts_cons, wp1_build, op_build, wp1_box, op_box, wp1_idxStr, op_idxStr, aStr, z0, ix, wc_eq (kind_spec _ _), z1, aPick, wc_eq (hn' _), en, z2, wc_eq (hb _), aUn]
        exact ⟨[.bool (!b)], _, by simp only [Env.results, Option.map_some, get_put, reduceIte, Nat.reduceEqDiff], (frz_noRef (v := .bool (!b)) rfl).2 rfl, rfl⟩

/-- a fault of the layer below -/
def errA (p c : Int) : AV := .ifc 69 (.fp [.str [97, 116, 111, 109], .int .i64 p, .int .i64 c, .nili])
theorem atomRefused_spec (p c : Int) (h : Heap) : WC env 148 [.int .i64 p, .int .i64 c] h (fun o => o = .ret ⟨errA p c, h, .none⟩) := wc_run (n := 30) (by kernel_rfl)

theorem acc_len {h : Heap} {v : AV} {bs : List UInt8} (k : Acc h 1 v (bs.map byteAV)) : aLen v = some bs.length := by
  obtain ⟨n, h1, h2⟩ := k.len
  rw [h1]
  simp at h2
  rw [h2]
theorem grow {h : Heap} (ho : HeapOk h) {v x w : AV} {bs nb s : List UInt8} {c0 : Cls} (k : Acc h 1 v (bs.map byteAV)) (hx : aLen x = some nb.length) (hc : sliceCells h 1 nb.length x = some (nb.map byteAV, c0)) (hw : Bytes h w s) (hne : ∀ id, v.own = some id → w.own ≠ some id) (hb : bs.length + nb.length ≤ 1000000) :
    ∃ v2 h2 c2, aAppend h 1 1 v x = some ⟨v2, h2, c2⟩ ∧ HeapOk h2 ∧ Acc h2 1 v2 ((bs ++ nb).map byteAV) ∧ Bytes h2 w s ∧ (∀ id, v2.own = some id → w.own ≠ some id) := by
  obtain ⟨v2, h2, c2, g1, g2, g3, g4, g5, g6⟩ := k.append ho (bt := 1) (by omega) (acc_len k) hx hc (by simp) (by omega) (by omega)
  rw [← List.map_append] at g2
  refine ⟨v2, h2, c2, g1, g4, g2, hw.leBut g3 fun id e x => hne id x e, fun id e e2 => ?_⟩
  rcases g5 id e with e | e
  · exact hne id e e2
  · have := hw.ownLt ho e2; omega

def hexS : List UInt8 := [48, 49, 50, 51, 52, 53, 54, 55, 56, 57, 97, 98, 99, 100, 101, 102]
def hexAt (i : Nat) : UInt8 := hexS.getD i 0
def shrOk (c : Nat) : Bool := match aBin .shr (.int .u8 c) (.int .u64 4) with
  | some (.int .u8 j) => j == (c / 16 : Nat)
  | _ => false
def andOk (c : Nat) : Bool := match aBin .and (.int .u8 c) (.int .u8 15) with
  | some (.int .u8 j) => j == (c % 16 : Nat)
  | _ => false
theorem shr_all : (List.range 256).all shrOk = true := by kernel_rfl
theorem and_all : (List.range 256).all andOk = true := by kernel_rfl
theorem shr_at {c : Nat} (h : c < 256) : aBin .shr (.int .u8 c) (.int .u64 4) = some (.int .u8 ((c / 16 : Nat) : Int)) := by
  have := List.all_eq_true.1 shr_all c (List.mem_range.2 h)
  unfold shrOk at this
  split at this
  · rename_i j e; rw [e]; have : j = ((c / 16 : Nat) : Int) := by simpa using this
    rw [this]
  · cases this
theorem and_at {c : Nat} (h : c < 256) : aBin .and (.int .u8 c) (.int .u8 15) = some (.int .u8 ((c % 16 : Nat) : Int)) := by
  have := List.all_eq_true.1 and_all c (List.mem_range.2 h)
  unfold andOk at this
  split at this
  · rename_i j e; rw [e]; have : j = ((c % 16 : Nat) : Int) := by simpa using this
    rw [this]
  · cases this
theorem hex_idx {i : Nat} (hi : i < 16) : idxS (.str [48, 49, 50, 51, 52, 53, 54, 55, 56, 57, 97, 98, 99, 100, 101, 102]) (.int .u8 ((i : Nat) : Int)) = some (.int .u8 (hexAt i).toNat) := by
  have hidx : aIndex 16 (.int .u8 ((i : Nat) : Int)) = some i := by
    have h0 : (0 : Int) ≤ i := Int.natCast_nonneg i
    have h2 : (i : Int) < 16 := by exact_mod_cast hi
    simp [aIndex, h0, h2]
  have e : idxS (.str hexS) (.int .u8 ((i : Nat) : Int)) = (aIndex 16 (.int .u8 ((i : Nat) : Int))).bind fun j => (hexS[j]?).map byteAV := rfl
  show idxS (.str hexS) _ = _
  rw [e, hidx, Option.bind_some]
  have hl : hexS.length = 16 := rfl
  have : hexS[i]? = some (hexAt i) := by
    rw [hexAt, List.getD_eq_getElem?_getD, List.getElem?_eq_getElem (by omega)]
    rfl
  rw [this]; rfl

section
variable {s : List UInt8} {w : AV} {Q : AExit → St → Prop}
theorem quote_round {h : Heap} {σ : Slots} {v : AV} {bs : List UInt8} {i : Nat} (hi : i < s.length) (hs : s.length ≤ 255) (ho : HeapOk h) (k : Acc h 1 v (bs.map byteAV)) (hl : bs.length ≤ 1 + 4 * i) (hw : Bytes h w s) (hne : ∀ id, v.own = some id → w.own ≠ some id)
    (g5 : σ.get 5 = v) (g23 : σ.get 23 = w) (g24 : σ.get 24 = .int .i64 s.length) (g25 : σ.get 25 = .int .i64 i)
    (hQ : ∀ (σ' : Slots) (h' : Heap) (v' : AV) (bs' : List UInt8), HeapOk h' → Acc h' 1 v' (bs'.map byteAV) → bs'.length ≤ 1 + 4 * (i + 1) → Bytes h' w s → (∀ id, v'.own = some id → w.own ≠ some id) → σ'.get 5 = v' → σ'.get 23 = w → σ'.get 24 = .int .i64 s.length → σ'.get 25 = .int .i64 ((i + 1 : Nat) : Int) → Q .norm ⟨σ', h'⟩) : wpc env a140_l26 ⟨σ, h⟩ Q := by
  have z0 : ((i : Int) < (s.length : Int)) = True := eq_true (by omega)
  have zi : IntKind.wrap .i64 ((i : Int) + 1) = ((i + 1 : Nat) : Int) := wrap_nat (by omega) (by omega)
  obtain ⟨p, kc, e1, e2, hkc⟩ := hw.elem (kd := .i64) hi
  obtain ⟨cb, hcb⟩ : ∃ cb : UInt8, cb = s.getD i 0 := ⟨_, rfl⟩
  obtain ⟨c, hc⟩ : ∃ c, c = cb.toNat := ⟨_, rfl⟩
  have hc8 : c < 256 := by rw [hc]; exact cb.toNat_lt
  have e2' : aLoad h false 1 p = some ⟨.int .u8 c, h, kc⟩ := by rw [hc, hcb]; exact e2
  have el : a140_l26 = (.seq (.ops a140_10) (.seq (.cond (.t 26) .skip (.exit 0)) (.seq (.block 1 (.seq (.ops a140_11) (.seq (.ops a140_12) (.block 2 (.seq (.seq (.ops a140_13) (.cond (.t 49) .skip (.ops a140_14))) (.cond (.t 49) (.ops a140_15) (.seq (.ops a140_16) (.cond (.t 56) (.ops a140_17) (.seq (.ops a140_18) (.cond (.t 60) (.ops a140_19) (.seq (.ops a140_20) (.cond (.t 64) (.ops a140_21) (.seq (.ops a140_22) (.cond (.t 35) (.draw a140_23 a140_23b) (.ops a140_24))))))))))))))) (.ops a140_25)))) := rfl
  have fin : ∀ (σ2 : Slots) (h2 : Heap) (v2 : AV) (nb : List UInt8), nb.length ≤ 4 → HeapOk h2 → Acc h2 1 v2 ((bs ++ nb).map byteAV) → Bytes h2 w s → (∀ id, v2.own = some id → w.own ≠ some id) → σ2.get 5 = v2 → (∀ n, n = 23 ∨ n = 24 ∨ n = 25 → σ2.get n = σ.get n) → wpo env a140_25 ⟨σ2, h2⟩ Q := by
    intro σ2 h2 v2 nb hnb ho2 k2 hw2 hne2 p5 pk
    have p25 : σ2.get 25 = .int .i64 i := by rw [pk 25 (by omega), g25]
    simp only [a140_25, wpc_skip, wpc_ops, wpc_draw, wpc_seq, wpc_cond, wpc_block, wpc_loop, wpc_exit, wpc_scope, wpc_ret, seqQ_norm, seqQ_ret, seqQ_exit, blockQ'_norm, blockQ'_ret, blockQ'_exit, roundQ_norm, roundQ_ret, roundQ_exit, condK_true, condK_false, wpo_nil', wpo_none, wpo_tt, wpo_ff, wpo_tf, wpo_ft, opsK_c, isC_none, isC_read, isC_write, wp1_call, callK_ret, wp1_mv', wp1_bin', wp1_un', wp1_eq', wp1_extract', wp1_pick', wp1_len', wp1_load', wp1_conv', wp1_store', wp1_idxAddr', wp1_append', wp1_mkIface', wp1_alloc', rd_t, rd_c, ok_t, ok_c, put_some, put_none, get_put, reduceIte, Nat.reduceEqDiff, AV.bool.injEq, Option.some.injEq, exists_eq_left', Option.map_some, Option.bind_some, opds_nil, opds_cons, opd_t, opd_c, aBin, aInt, decide_true, decide_false, negIf, wp1_nilCheck', wp1_fieldAddr', wp1_slice, op_slice, opdo_some, opdo_none, wp1_lit, op_lit, parts_nil, parts_cons, wp1_build, op_build, wp1_box, op_box, p25, zi]
    refine hQ _ h2 v2 (bs ++ nb) ho2 k2 (by simp; omega) hw2 hne2 ?_ ?_ ?_ ?_
    · simp only [get_put, reduceIte, Nat.reduceEqDiff, p5]
    · simp only [get_put, reduceIte, Nat.reduceEqDiff]; rw [pk 23 (by omega), g23]
    · simp only [get_put, reduceIte, Nat.reduceEqDiff]; rw [pk 24 (by omega), g24]
    · simp only [get_put, reduceIte, Nat.reduceEqDiff]
  have gr := fun (x : AV) (nb : List UInt8) (h1 : aLen x = some nb.length) (h2 : sliceCells h 1 nb.length x = some (nb.map byteAV, .none)) (h3 : nb.length ≤ 4) => grow ho k h1 h2 hw hne (by omega)
  by_cases q39 : c = 39
  · have z39 : ((c : Int) == 39) = true := by simp [q39]
    obtain ⟨v2, h2, c2, w1, ho2, k2, hw2, hne2⟩ := gr (.fs true 2 [.int .u8 92, .int .u8 (c : Int)]) [92, cb] rfl (by rw [hc]; rfl) (by simp)
    have y1 : aFill [.int .u8 0, .int .u8 0] [(0, 1, .int .u8 92), (1, 1, .int .u8 (c : Int))] = some [.int .u8 92, .int .u8 (c : Int)] := rfl
    have y2 : ([AV.int .u8 92, .int .u8 (c : Int)] : List AV).length = 2 := rfl
    rw [el, wpc_seq]
    simp only [a140_10, a140_11, a140_12, a140_13, a140_15, wpc_skip, wpc_ops, wpc_draw, wpc_seq, wpc_cond, wpc_block, wpc_loop, wpc_exit, wpc_scope, wpc_ret, seqQ_norm, seqQ_ret, seqQ_exit, blockQ'_norm, blockQ'_ret, blockQ'_exit, roundQ_norm, roundQ_ret, roundQ_exit, condK_true, condK_false, wpo_nil', wpo_none, wpo_tt, wpo_ff, wpo_tf, wpo_ft, opsK_c, isC_none, isC_read, isC_write, wp1_call, callK_ret, wp1_mv', wp1_bin', wp1_un', wp1_eq', wp1_extract', wp1_pick', wp1_len', wp1_load', wp1_conv', wp1_store', wp1_idxAddr', wp1_append', wp1_mkIface', wp1_alloc', rd_t, rd_c, ok_t, ok_c, put_some, put_none, get_put, reduceIte, Nat.reduceEqDiff, AV.bool.injEq, Option.some.injEq, exists_eq_left', Option.map_some, Option.bind_some, opds_nil, opds_cons, opd_t, opd_c, aBin, aInt, decide_true, decide_false, negIf, wp1_nilCheck', wp1_fieldAddr', wp1_slice, op_slice, opdo_some, opdo_none, wp1_lit, op_lit, parts_nil, parts_cons, wp1_build, op_build, wp1_box, op_box, isC kc, isC c2, g5, g23, g24, g25, z0, e1, e2', z39, y1, y2, w1]
    refine fin _ h2 v2 [92, cb] (by simp) ho2 k2 hw2 hne2 (by simp only [get_put, reduceIte, Nat.reduceEqDiff]) fun n hn => ?_
    simp only [get_put]
    repeat rw [if_neg (by omega)]
  by_cases q92 : c = 92
  · have z39 : ((c : Int) == 39) = false := by simp; omega
    have z92 : ((c : Int) == 92) = true := by simp [q92]
    obtain ⟨v2, h2, c2, w1, ho2, k2, hw2, hne2⟩ := gr (.fs true 2 [.int .u8 92, .int .u8 (c : Int)]) [92, cb] rfl (by rw [hc]; rfl) (by simp)
    have y1 : aFill [.int .u8 0, .int .u8 0] [(0, 1, .int .u8 92), (1, 1, .int .u8 (c : Int))] = some [.int .u8 92, .int .u8 (c : Int)] := rfl
    have y2 : ([AV.int .u8 92, .int .u8 (c : Int)] : List AV).length = 2 := rfl
    rw [el, wpc_seq]
    simp only [a140_10, a140_11, a140_12, a140_13, a140_14, a140_15, wpc_skip, wpc_ops, wpc_draw, wpc_seq, wpc_cond, wpc_block, wpc_loop, wpc_exit, wpc_scope, wpc_ret, seqQ_norm, seqQ_ret, seqQ_exit, blockQ'_norm, blockQ'_ret, blockQ'_exit, roundQ_norm, roundQ_ret, roundQ_exit, condK_true, condK_false, wpo_nil', wpo_none, wpo_tt, wpo_ff, wpo_tf, wpo_ft, opsK_c, isC_none, isC_read, isC_write, wp1_call, callK_ret, wp1_mv', wp1_bin', wp1_un', wp1_eq', wp1_extract', wp1_pick', wp1_len', wp1_load', wp1_conv', wp1_store', wp1_idxAddr', wp1_append', wp1_mkIface', wp1_alloc', rd_t, rd_c, ok_t, ok_c, put_some, put_none, get_put, reduceIte, Nat.reduceEqDiff, AV.bool.injEq, Option.some.injEq, exists_eq_left', Option.map_some, Option.bind_some, opds_nil, opds_cons, opd_t, opd_c, aBin, aInt, decide_true, decide_false, negIf, wp1_nilCheck', wp1_fieldAddr', wp1_slice, op_slice, opdo_some, opdo_none, wp1_lit, op_lit, parts_nil, parts_cons, wp1_build, op_build, wp1_box, op_box, isC kc, isC c2, g5, g23, g24, g25, z0, e1, e2', z39, z92, y1, y2, w1]
    refine fin _ h2 v2 [92, cb] (by simp) ho2 k2 hw2 hne2 (by simp only [get_put, reduceIte, Nat.reduceEqDiff]) fun n hn => ?_
    simp only [get_put]
    repeat rw [if_neg (by omega)]
  have z39 : ((c : Int) == 39) = false := by simp; omega
  have z92 : ((c : Int) == 92) = false := by simp; omega
  by_cases q10 : c = 10
  · have z10 : ((c : Int) == 10) = true := by simp [q10]
    obtain ⟨v2, h2, c2, w1, ho2, k2, hw2, hne2⟩ := gr (.str [92, 110]) [92, 110] rfl rfl (by decide)
    rw [el, wpc_seq]
    simp only [a140_10, a140_11, a140_12, a140_13, a140_14, a140_16, a140_17, wpc_skip, wpc_ops, wpc_draw, wpc_seq, wpc_cond, wpc_block, wpc_loop, wpc_exit, wpc_scope, wpc_ret, seqQ_norm, seqQ_ret, seqQ_exit, blockQ'_norm, blockQ'_ret, blockQ'_exit, roundQ_norm, roundQ_ret, roundQ_exit, condK_true, condK_false, wpo_nil', wpo_none, wpo_tt, wpo_ff, wpo_tf, wpo_ft, opsK_c, isC_none, isC_read, isC_write, wp1_call, callK_ret, wp1_mv', wp1_bin', wp1_un', wp1_eq', wp1_extract', wp1_pick', wp1_len', wp1_load', wp1_conv', wp1_store', wp1_idxAddr', wp1_append', wp1_mkIface', wp1_alloc', rd_t, rd_c, ok_t, ok_c, put_some, put_none, get_put, reduceIte, Nat.reduceEqDiff, AV.bool.injEq, Option.some.injEq, exists_eq_left', Option.map_some, Option.bind_some, opds_nil, opds_cons, opd_t, opd_c, aBin, aInt, decide_true, decide_false, negIf, wp1_nilCheck', wp1_fieldAddr', wp1_slice, op_slice, opdo_some, opdo_none, wp1_lit, op_lit, parts_nil, parts_cons, wp1_build, op_build, wp1_box, op_box, isC kc, isC c2, g5, g23, g24, g25, z0, e1, e2', z39, z92, z10, w1]
    refine fin _ h2 v2 [92, 110] (by decide) ho2 k2 hw2 hne2 (by simp only [get_put, reduceIte, Nat.reduceEqDiff]) fun n hn => ?_
    simp only [get_put]
    repeat rw [if_neg (by omega)]
  have z10 : ((c : Int) == 10) = false := by simp; omega
  by_cases q9 : c = 9
  · have z9 : ((c : Int) == 9) = true := by simp [q9]
    obtain ⟨v2, h2, c2, w1, ho2, k2, hw2, hne2⟩ := gr (.str [92, 116]) [92, 116] rfl rfl (by decide)
    rw [el, wpc_seq]
    simp only [a140_10, a140_11, a140_12, a140_13, a140_14, a140_16, a140_18, a140_19, wpc_skip, wpc_ops, wpc_draw, wpc_seq, wpc_cond, wpc_block, wpc_loop, wpc_exit, wpc_scope, wpc_ret, seqQ_norm, seqQ_ret, seqQ_exit, blockQ'_norm, blockQ'_ret, blockQ'_exit, roundQ_norm, roundQ_ret, roundQ_exit, condK_true, condK_false, wpo_nil', wpo_none, wpo_tt, wpo_ff, wpo_tf, wpo_ft, opsK_c, isC_none, isC_read, isC_write, wp1_call, callK_ret, wp1_mv', wp1_bin', wp1_un', wp1_eq', wp1_extract', wp1_pick', wp1_len', wp1_load', wp1_conv', wp1_store', wp1_idxAddr', wp1_append', wp1_mkIface', wp1_alloc', rd_t, rd_c, ok_t, ok_c, put_some, put_none, get_put, reduceIte, Nat.reduceEqDiff, AV.bool.injEq, Option.some.injEq, exists_eq_left', Option.map_some, Option.bind_some, opds_nil, opds_cons, opd_t, opd_c, aBin, aInt, decide_true, decide_false, negIf, wp1_nilCheck', wp1_fieldAddr', wp1_slice, op_slice, opdo_some, opdo_none, wp1_lit, op_lit, parts_nil, parts_cons, wp1_build, op_build, wp1_box, op_box, isC kc, isC c2, g5, g23, g24, g25, z0, e1, e2', z39, z92, z10, z9, w1]
    refine fin _ h2 v2 [92, 116] (by decide) ho2 k2 hw2 hne2 (by simp only [get_put, reduceIte, Nat.reduceEqDiff]) fun n hn => ?_
    simp only [get_put]
    repeat rw [if_neg (by omega)]
  have z9 : ((c : Int) == 9) = false := by simp; omega
  by_cases q13 : c = 13
  · have z13 : ((c : Int) == 13) = true := by simp [q13]
    obtain ⟨v2, h2, c2, w1, ho2, k2, hw2, hne2⟩ := gr (.str [92, 114]) [92, 114] rfl rfl (by decide)
    rw [el, wpc_seq]
    simp only [a140_10, a140_11, a140_12, a140_13, a140_14, a140_16, a140_18, a140_20, a140_21, wpc_skip, wpc_ops, wpc_draw, wpc_seq, wpc_cond, wpc_block, wpc_loop, wpc_exit, wpc_scope, wpc_ret, seqQ_norm, seqQ_ret, seqQ_exit, blockQ'_norm, blockQ'_ret, blockQ'_exit, roundQ_norm, roundQ_ret, roundQ_exit, condK_true, condK_false, wpo_nil', wpo_none, wpo_tt, wpo_ff, wpo_tf, wpo_ft, opsK_c, isC_none, isC_read, isC_write, wp1_call, callK_ret, wp1_mv', wp1_bin', wp1_un', wp1_eq', wp1_extract', wp1_pick', wp1_len', wp1_load', wp1_conv', wp1_store', wp1_idxAddr', wp1_append', wp1_mkIface', wp1_alloc', rd_t, rd_c, ok_t, ok_c, put_some, put_none, get_put, reduceIte, Nat.reduceEqDiff, AV.bool.injEq, Option.some.injEq, exists_eq_left', Option.map_some, Option.bind_some, opds_nil, opds_cons, opd_t, opd_c, aBin, aInt, decide_true, decide_false, negIf, wp1_nilCheck', wp1_fieldAddr', wp1_slice, op_slice, opdo_some, opdo_none, wp1_lit, op_lit, parts_nil, parts_cons, wp1_build, op_build, wp1_box, op_box, isC kc, isC c2, g5, g23, g24, g25, z0, e1, e2', z39, z92, z10, z9, z13, w1]
    refine fin _ h2 v2 [92, 114] (by decide) ho2 k2 hw2 hne2 (by simp only [get_put, reduceIte, Nat.reduceEqDiff]) fun n hn => ?_
    simp only [get_put]
    repeat rw [if_neg (by omega)]
  have z13 : ((c : Int) == 13) = false := by simp; omega
  have hex : ∀ {σ2 : Slots}, σ2.get 5 = v → σ2.get 7 = .int .u8 (c : Int) → (∀ n, n = 23 ∨ n = 24 ∨ n = 25 → σ2.get n = σ.get n) → wpc env (.draw a140_23 a140_23b) ⟨σ2, h⟩ (blockQ' 2 (blockQ' 1 (seqQ env (.ops a140_25) Q))) := by
    intro σ2 p5 p7 pk
    obtain ⟨v2, h2, c2, w1, ho2, k2, hw2, hne2⟩ := gr (.fs true 4 [.int .u8 92, .int .u8 120, .int .u8 (hexAt (c / 16)).toNat, .int .u8 (hexAt (c % 16)).toNat]) [92, 120, hexAt (c / 16), hexAt (c % 16)] rfl rfl (by simp)
    have f1 := shr_at hc8
    have f2 := and_at hc8
    have f3 := hex_idx (i := c / 16) (by omega)
    have f4 := hex_idx (i := c % 16) (by omega)
    have y1 : aFill [.int .u8 0, .int .u8 0, .int .u8 0, .int .u8 0] [(0, 1, .int .u8 92), (1, 1, .int .u8 120), (2, 1, .int .u8 (hexAt (c / 16)).toNat), (3, 1, .int .u8 (hexAt (c % 16)).toNat)] = some [.int .u8 92, .int .u8 120, .int .u8 (hexAt (c / 16)).toNat, .int .u8 (hexAt (c % 16)).toNat] := rfl
    have y2 : ([AV.int .u8 92, .int .u8 120, .int .u8 (hexAt (c / 16)).toNat, .int .u8 (hexAt (c % 16)).toNat] : List AV).length = 4 := rfl
    refine wpc_draw_k ?_
    simp only [a140_23, wpc_skip, wpc_ops, wpc_seq, wpc_cond, wpc_block, wpc_loop, wpc_exit, wpc_scope, wpc_ret, seqQ_norm, seqQ_ret, seqQ_exit, blockQ'_norm, blockQ'_ret, blockQ'_exit, roundQ_norm, roundQ_ret, roundQ_exit, condK_true, condK_false, wpo_nil', wpo_none, wpo_tt, wpo_ff, wpo_tf, wpo_ft, opsK_c, isC_none, isC_read, isC_write, wp1_call, callK_ret, wp1_mv', wp1_bin', wp1_un', wp1_eq', wp1_extract', wp1_pick', wp1_len', wp1_load', wp1_conv', wp1_store', wp1_idxAddr', wp1_append', wp1_mkIface', wp1_alloc', rd_t, rd_c, ok_t, ok_c, put_some, put_none, get_put, reduceIte, Nat.reduceEqDiff, AV.bool.injEq, Option.some.injEq, exists_eq_left', Option.map_some, Option.bind_some, opds_nil, opds_cons, opd_t, opd_c, decide_true, decide_false, negIf, wp1_nilCheck', wp1_fieldAddr', wp1_slice, op_slice, opdo_some, opdo_none, wp1_lit, op_lit, parts_nil, parts_cons, wp1_build, op_build, wp1_box, op_box, wpk_nil, wpk_none, wpk_tt, wpk_ff, wpk_tf, wpk_ft, clsK_c, logC_apply, drawC_apply, isC c2, wp1_idxStr, op_idxStr, p5, p7, f1, f2, f3, f4, y1, y2, w1]
    refine ⟨by cases c2 <;> rfl, ?_⟩
    refine fin _ h2 v2 [92, 120, hexAt (c / 16), hexAt (c % 16)] (by simp) ho2 k2 hw2 hne2 (by simp only [get_put, reduceIte, Nat.reduceEqDiff]) fun n hn => ?_
    simp only [get_put]
    repeat rw [if_neg (by omega)]
    exact pk n hn
  by_cases q32 : (c : Int) < 32
  · have z32 : ((c : Int) < 32) = True := eq_true q32
    rw [el, wpc_seq]
    simp only [a140_10, a140_11, a140_12, a140_13, a140_14, a140_16, a140_18, a140_20, a140_22, wpc_skip, wpc_ops, wpc_seq, wpc_cond, wpc_block, wpc_loop, wpc_exit, wpc_scope, wpc_ret, seqQ_norm, seqQ_ret, seqQ_exit, blockQ'_norm, blockQ'_ret, blockQ'_exit, roundQ_norm, roundQ_ret, roundQ_exit, condK_true, condK_false, wpo_nil', wpo_none, wpo_tt, wpo_ff, wpo_tf, wpo_ft, opsK_c, isC_none, isC_read, isC_write, wp1_call, callK_ret, wp1_mv', wp1_bin', wp1_un', wp1_eq', wp1_extract', wp1_pick', wp1_len', wp1_load', wp1_conv', wp1_store', wp1_idxAddr', wp1_append', wp1_mkIface', wp1_alloc', rd_t, rd_c, ok_t, ok_c, put_some, put_none, get_put, reduceIte, Nat.reduceEqDiff, AV.bool.injEq, Option.some.injEq, exists_eq_left', Option.map_some, Option.bind_some, opds_nil, opds_cons, opd_t, opd_c, aBin, aInt, decide_true, decide_false, negIf, wp1_nilCheck', wp1_fieldAddr', wp1_slice, op_slice, opdo_some, opdo_none, wp1_lit, op_lit, parts_nil, parts_cons, wp1_build, op_build, wp1_box, op_box, isC kc, g5, g23, g24, g25, z0, e1, e2', z39, z92, z10, z9, z13, z32, aPick]
    refine hex ?_ ?_ fun n hn => ?_
    · simp only [get_put, reduceIte, Nat.reduceEqDiff, g5]
    · simp only [get_put, reduceIte, Nat.reduceEqDiff]
    · simp only [get_put]
      repeat rw [if_neg (by omega)]
  have z32 : ((c : Int) < 32) = False := eq_false q32
  by_cases q127 : c = 127
  · have z127 : ((c : Int) == 127) = true := by simp [q127]
    rw [el, wpc_seq]
    simp only [a140_10, a140_11, a140_12, a140_13, a140_14, a140_16, a140_18, a140_20, a140_22, wpc_skip, wpc_ops, wpc_seq, wpc_cond, wpc_block, wpc_loop, wpc_exit, wpc_scope, wpc_ret, seqQ_norm, seqQ_ret, seqQ_exit, blockQ'_norm, blockQ'_ret, blockQ'_exit, roundQ_norm, roundQ_ret, roundQ_exit, condK_true, condK_false, wpo_nil', wpo_none, wpo_tt, wpo_ff, wpo_tf, wpo_ft, opsK_c, isC_none, isC_read, isC_write, wp1_call, callK_ret, wp1_mv', wp1_bin', wp1_un', wp1_eq', wp1_extract', wp1_pick', wp1_len', wp1_load', wp1_conv', wp1_store', wp1_idxAddr', wp1_append', wp1_mkIface', wp1_alloc', rd_t, rd_c, ok_t, ok_c, put_some, put_none, get_put, reduceIte, Nat.reduceEqDiff, AV.bool.injEq, Option.some.injEq, exists_eq_left', Option.map_some, Option.bind_some, opds_nil, opds_cons, opd_t, opd_c, aBin, aInt, decide_true, decide_false, negIf, wp1_nilCheck', wp1_fieldAddr', wp1_slice, op_slice, opdo_some, opdo_none, wp1_lit, op_lit, parts_nil, parts_cons, wp1_build, op_build, wp1_box, op_box, isC kc, g5, g23, g24, g25, z0, e1, e2', z39, z92, z10, z9, z13, z32, z127, aPick]
    refine hex ?_ ?_ fun n hn => ?_
    · simp only [get_put, reduceIte, Nat.reduceEqDiff, g5]
    · simp only [get_put, reduceIte, Nat.reduceEqDiff]
    · simp only [get_put]
      repeat rw [if_neg (by omega)]
  have z127 : ((c : Int) == 127) = false := by simp; omega
  obtain ⟨v2, h2, c2, w1, ho2, k2, hw2, hne2⟩ := gr (.fs true 1 [.int .u8 (c : Int)]) [cb] rfl (by rw [hc]; rfl) (by simp)
  have y1 : aFill [.int .u8 0] [(0, 1, .int .u8 (c : Int))] = some [.int .u8 (c : Int)] := rfl
  have y2 : ([AV.int .u8 (c : Int)] : List AV).length = 1 := rfl
  rw [el, wpc_seq]
  simp only [a140_10, a140_11, a140_12, a140_13, a140_14, a140_16, a140_18, a140_20, a140_22, a140_24, wpc_skip, wpc_ops, wpc_draw, wpc_seq, wpc_cond, wpc_block, wpc_loop, wpc_exit, wpc_scope, wpc_ret, seqQ_norm, seqQ_ret, seqQ_exit, blockQ'_norm, blockQ'_ret, blockQ'_exit, roundQ_norm, roundQ_ret, roundQ_exit, condK_true, condK_false, wpo_nil', wpo_none, wpo_tt, wpo_ff, wpo_tf, wpo_ft, opsK_c, isC_none, isC_read, isC_write, wp1_call, callK_ret, wp1_mv', wp1_bin', wp1_un', wp1_eq', wp1_extract', wp1_pick', wp1_len', wp1_load', wp1_conv', wp1_store', wp1_idxAddr', wp1_append', wp1_mkIface', wp1_alloc', rd_t, rd_c, ok_t, ok_c, put_some, put_none, get_put, reduceIte, Nat.reduceEqDiff, AV.bool.injEq, Option.some.injEq, exists_eq_left', Option.map_some, Option.bind_some, opds_nil, opds_cons, opd_t, opd_c, aBin, aInt, decide_true, decide_false, negIf, wp1_nilCheck', wp1_fieldAddr', wp1_slice, op_slice, opdo_some, opdo_none, wp1_lit, op_lit, parts_nil, parts_cons, wp1_build, op_build, wp1_box, op_box, isC kc, isC c2, g5, g23, g24, g25, z0, e1, e2', z39, z92, z10, z9, z13, z32, z127, aPick, y1, y2, w1]
  refine fin _ h2 v2 [cb] (by simp) ho2 k2 hw2 hne2 (by simp only [get_put, reduceIte, Nat.reduceEqDiff]) fun n hn => ?_
  simp only [get_put]
  repeat rw [if_neg (by omega)]

theorem quote_loop (hs : s.length ≤ 255) : ∀ (f i : Nat) (h : Heap) (σ : Slots) (v : AV) (bs : List UInt8), s.length - i < f → i ≤ s.length → HeapOk h → Acc h 1 v (bs.map byteAV) → bs.length ≤ 1 + 4 * i → Bytes h w s → (∀ id, v.own = some id → w.own ≠ some id) →
    σ.get 5 = v → σ.get 23 = w → σ.get 24 = .int .i64 s.length → σ.get 25 = .int .i64 i →
    (∀ (σ' : Slots) (h' : Heap) (v' : AV) (bs' : List UInt8), HeapOk h' → Acc h' 1 v' (bs'.map byteAV) → bs'.length ≤ 1 + 4 * s.length → σ'.get 5 = v' → Q (.exit 0) ⟨σ', h'⟩) → WPr env a140_l26 ⟨σ, h⟩ Q := by
  intro f
  induction f with
  | zero => intro i h σ v bs h1; omega
  | succ f ih =>
    intro i h σ v bs hf hi ho k hl hw hne g5 g23 g24 g25 hQ
    by_cases c1 : i < s.length
    · refine wpr_round' fun b hb => quote_round c1 hs ho k hl hw hne g5 g23 g24 g25 fun σ' h' v' bs' ho' k' hl' hw' hne' p5 p23 p24 p25 => ?_
      subst hb
      exact ih (i + 1) h' σ' v' bs' (by omega) (by omega) ho' k' hl' hw' hne' p5 p23 p24 p25 hQ
    · refine wpr_round' fun b hb => ?_
      have z0 : ((i : Int) < (s.length : Int)) = False := eq_false (by omega)
      simp only [a140_l26, a140_10, wpc_skip, wpc_ops, wpc_draw, wpc_seq, wpc_cond, wpc_block, wpc_loop, wpc_exit, wpc_scope, wpc_ret, seqQ_norm, seqQ_ret, seqQ_exit, blockQ'_norm, blockQ'_ret, blockQ'_exit, roundQ_norm, roundQ_ret, roundQ_exit, condK_true, condK_false, wpo_nil', wpo_none, wpo_tt, wpo_ff, wpo_tf, wpo_ft, opsK_c, isC_none, isC_read, isC_write, wp1_call, callK_ret, wp1_mv', wp1_bin', wp1_un', wp1_eq', wp1_extract', wp1_pick', wp1_len', wp1_load', wp1_conv', wp1_store', wp1_idxAddr', wp1_append', wp1_mkIface', wp1_alloc', rd_t, rd_c, ok_t, ok_c, put_some, put_none, get_put, reduceIte, Nat.reduceEqDiff, AV.bool.injEq, Option.some.injEq, exists_eq_left', Option.map_some, Option.bind_some, opds_nil, opds_cons, opd_t, opd_c, aBin, aInt, decide_true, decide_false, negIf, wp1_nilCheck', wp1_fieldAddr', wp1_slice, op_slice, opdo_some, opdo_none, wp1_lit, op_lit, parts_nil, parts_cons, wp1_build, op_build, wp1_box, op_box, g24, g25, z0]
      refine hQ _ h v bs ho k (by omega) ?_
      simp only [get_put, reduceIte, Nat.reduceEqDiff, g5]
end

def quoteErr (s : List UInt8) : Option (Int × Int) :=
  if 255 < s.length then some (0, 4) else if 0 ≤ strangeF s (s.length + 1) 0 then some (strangeF s (s.length + 1) 0, 23) else none
def errAV : Option (Int × Int) → AV
  | some (p, c) => errA p c
  | none => .nili

theorem strange_spec (s : List UInt8) (h : Heap) : WC env 149 [.str s] h (fun o => o = .ret ⟨.int .i64 (strangeF s (s.length + 1) 0), h, .write⟩) :=
  ⟨_, ⟨1, fun m hm => by
    cases m with
    | zero => omega
    | succ m => rfl⟩, rfl⟩

theorem quote_spec (s : List UInt8) (h : Heap) : WC env 140 [.str s] h (fun o => ∃ q, o = .ret ⟨.tup [.str q, errAV (quoteErr s)], h, .none⟩) := by
  refine call_pure rfl rfl rfl rfl ?_
  have en : ∀ h, aLenOp true h (.str s) = some ⟨.int .i64 s.length, h, .none⟩ := fun h => rfl
  by_cases c1 : 255 < s.length
  · have z1 : ((s.length : Int) > 255) = True := eq_true (by omega)
    have e : quoteErr s = some (0, 4) := by rw [quoteErr, if_pos c1]
    simp only [a140, a140_0, a140_1, a140_2, Slots.ofList, wpc_skip, wpc_ops, wpc_draw, wpc_seq, wpc_cond, wpc_block, wpc_loop, wpc_exit, wpc_scope, wpc_ret, seqQ_norm, seqQ_ret, seqQ_exit, blockQ'_norm, blockQ'_ret, blockQ'_exit, roundQ_norm, roundQ_ret, roundQ_exit, condK_true, condK_false, wpo_nil', wpo_none, wpo_tt, wpo_ff, wpo_tf, wpo_ft, opsK_c, isC_none, isC_read, isC_write, wp1_call, callK_ret, wp1_mv', wp1_bin', wp1_un', wp1_eq', wp1_extract', wp1_pick', wp1_len', wp1_load', wp1_conv', wp1_store', wp1_idxAddr', wp1_append', wp1_mkIface', wp1_alloc', rd_t, rd_c, ok_t, ok_c, put_some, put_none, get_put, reduceIte, Nat.reduceEqDiff, AV.bool.injEq, Option.some.injEq, exists_eq_left', Option.map_some, Option.bind_some, opds_nil, opds_cons, opd_t, opd_c, aBin, aInt, decide_true, decide_false, negIf, wp1_nilCheck', wp1_fieldAddr', wp1_slice, op_slice, opdo_some, opdo_none, wp1_lit, op_lit, parts_nil, parts_cons, wp1_build, op_build, wp1_box, op_box, en, z1, wc_eq (atomRefused_spec _ _ _)]
    refine ⟨[.str [], errA 0 4], .tup [.str [], errA 0 4], by simp only [Env.results, Option.map_some, get_put, reduceIte, Nat.reduceEqDiff], (frz_noRef (v := .tup [.str [], errA 0 4]) rfl).2 rfl, _, by rw [e]; rfl⟩
  have z1 : ((s.length : Int) > 255) = False := eq_false (by omega)
  by_cases c2 : 0 ≤ strangeF s (s.length + 1) 0
  · have z2 : (strangeF s (s.length + 1) 0 ≥ 0) = True := eq_true c2
    have e : quoteErr s = some (strangeF s (s.length + 1) 0, 23) := by rw [quoteErr, if_neg c1, if_pos c2]
    simp only [a140, a140_0, a140_1, a140_3, a140_4, a140_5, Slots.ofList, wpc_skip, wpc_ops, wpc_draw, wpc_seq, wpc_cond, wpc_block, wpc_loop, wpc_exit, wpc_scope, wpc_ret, seqQ_norm, seqQ_ret, seqQ_exit, blockQ'_norm, blockQ'_ret, blockQ'_exit, roundQ_norm, roundQ_ret, roundQ_exit, condK_true, condK_false, wpo_nil', wpo_none, wpo_tt, wpo_ff, wpo_tf, wpo_ft, opsK_c, isC_none, isC_read, isC_write, wp1_call, callK_ret, wp1_mv', wp1_bin', wp1_un', wp1_eq', wp1_extract', wp1_pick', wp1_len', wp1_load', wp1_conv', wp1_store', wp1_idxAddr', wp1_append', wp1_mkIface', wp1_alloc', rd_t, rd_c, ok_t, ok_c, put_some, put_none, get_put, reduceIte, Nat.reduceEqDiff, AV.bool.injEq, Option.some.injEq, exists_eq_left', Option.map_some, Option.bind_some, opds_nil, opds_cons, opd_t, opd_c, aBin, aInt, decide_true, decide_false, negIf, wp1_nilCheck', wp1_fieldAddr', wp1_slice, op_slice, opdo_some, opdo_none, wp1_lit, op_lit, parts_nil, parts_cons, wp1_build, op_build, wp1_box, op_box, en, z1, wc_eq (strange_spec _ _), z2, wc_eq (atomRefused_spec _ _ _)]
    refine ⟨[.str [], errA (strangeF s (s.length + 1) 0) 23], .tup [.str [], errA (strangeF s (s.length + 1) 0) 23], by simp only [Env.results, Option.map_some, get_put, reduceIte, Nat.reduceEqDiff], (frz_noRef (v := .tup [.str [], errA (strangeF s (s.length + 1) 0) 23]) rfl).2 rfl, _, by rw [e]; rfl⟩
  have z2 : (strangeF s (s.length + 1) 0 ≥ 0) = False := eq_false c2
  have e : quoteErr s = none := by rw [quoteErr, if_neg c1, if_neg c2]
  obtain ⟨b, hb⟩ := plain_spec (s := s) (by omega)
  cases b with
  | true =>
    simp only [a140, a140_0, a140_1, a140_3, a140_4, a140_6, a140_7, Slots.ofList, wpc_skip, wpc_ops, wpc_draw, wpc_seq, wpc_cond, wpc_block, wpc_loop, wpc_exit, wpc_scope, wpc_ret, seqQ_norm, seqQ_ret, seqQ_exit, blockQ'_norm, blockQ'_ret, blockQ'_exit, roundQ_norm, roundQ_ret, roundQ_exit, condK_true, condK_false, wpo_nil', wpo_none, wpo_tt, wpo_ff, wpo_tf, wpo_ft, opsK_c, isC_none, isC_read, isC_write, wp1_call, callK_ret, wp1_mv', wp1_bin', wp1_un', wp1_eq', wp1_extract', wp1_pick', wp1_len', wp1_load', wp1_conv', wp1_store', wp1_idxAddr', wp1_append', wp1_mkIface', wp1_alloc', rd_t, rd_c, ok_t, ok_c, put_some, put_none, get_put, reduceIte, Nat.reduceEqDiff, AV.bool.injEq, Option.some.injEq, exists_eq_left', Option.map_some, Option.bind_some, opds_nil, opds_cons, opd_t, opd_c, aBin, aInt, decide_true, decide_false, negIf, wp1_nilCheck', wp1_fieldAddr', wp1_slice, op_slice, opdo_some, opdo_none, wp1_lit, op_lit, parts_nil, parts_cons, wp1_build, op_build, wp1_box, op_box, en, z1, wc_eq (strange_spec _ _), z2, wc_eq (hb _)]
    refine ⟨[.str s, .nili], .tup [.str s, .nili], by simp only [Env.results, Option.map_some, get_put, reduceIte, Nat.reduceEqDiff], (frz_noRef (v := .tup [.str s, .nili]) rfl).2 rfl, _, by rw [e]; rfl⟩
  | false =>
    obtain ⟨h1, eh1⟩ : ∃ h1, h1 = Heap.empty.new (s.map byteAV) := ⟨_, rfl⟩
    have ho1 : HeapOk h1 := by rw [eh1]; exact HeapOk.empty.new _
    have a1 : h1.at_ Heap.empty.next 0 = some (s.map byteAV) := by rw [eh1]; exact at_new _
    have conv : aConv .empty .s2b (.str s) = some ⟨.sl Heap.empty.next 0 0 1 s.length none, h1, .write⟩ := by rw [eh1]; rfl
    have hw : Bytes h1 (.sl Heap.empty.next 0 0 1 s.length none) s := .sl _ _ _ _ _ _ a1 (by simp) (by rw [List.drop_zero]; exact List.take_of_length_le (by simp)) (fun c h => by cases h)
    have y1 : aFill [.int .u8 0] [(0, 1, .int .u8 39)] = some [.int .u8 39] := rfl
    have y2 : ([AV.int .u8 39] : List AV).length = 1 := rfl
    have en2 : ∀ h, aLenOp false h (.sl Heap.empty.next 0 0 1 s.length none) = some ⟨.int .i64 s.length, h, .none⟩ := fun h => rfl
    have k0 : Acc h1 1 (.fs true 1 [.int .u8 39]) (([39] : List UInt8).map byteAV) := .full 1 _ rfl
    simp only [a140, a140_0, a140_1, a140_3, a140_4, a140_6, a140_8, a140_9, Slots.ofList, wpc_skip, wpc_ops, wpc_draw, wpc_seq, wpc_cond, wpc_block, wpc_loop, wpc_exit, wpc_scope, wpc_ret, seqQ_norm, seqQ_ret, seqQ_exit, blockQ'_norm, blockQ'_ret, blockQ'_exit, roundQ_norm, roundQ_ret, roundQ_exit, condK_true, condK_false, wpo_nil', wpo_none, wpo_tt, wpo_ff, wpo_tf, wpo_ft, opsK_c, isC_none, isC_read, isC_write, wp1_call, callK_ret, wp1_mv', wp1_bin', wp1_un', wp1_eq', wp1_extract', wp1_pick', wp1_len', wp1_load', wp1_conv', wp1_store', wp1_idxAddr', wp1_append', wp1_mkIface', wp1_alloc', rd_t, rd_c, ok_t, ok_c, put_some, put_none, get_put, reduceIte, Nat.reduceEqDiff, AV.bool.injEq, Option.some.injEq, exists_eq_left', Option.map_some, Option.bind_some, opds_nil, opds_cons, opd_t, opd_c, aBin, aInt, decide_true, decide_false, negIf, wp1_nilCheck', wp1_fieldAddr', wp1_slice, op_slice, opdo_some, opdo_none, wp1_lit, op_lit, parts_nil, parts_cons, wp1_build, op_build, wp1_box, op_box, en, z1, wc_eq (strange_spec _ _), z2, wc_eq (hb _), y1, y2, conv, en2]
    refine quote_loop (s := s) (w := .sl Heap.empty.next 0 0 1 s.length none) (by omega) (s.length + 1) 0 h1 _ (.fs true 1 [.int .u8 39]) [39] (by omega) (by omega) ho1 k0 (by simp) hw (fun id e => by cases e) ?_ ?_ ?_ ?_ fun σ' h' v' bs' ho' k' hl' g5 => ?_
    · simp only [get_put, reduceIte, Nat.reduceEqDiff]
    · simp only [get_put, reduceIte, Nat.reduceEqDiff]
    · simp only [get_put, reduceIte, Nat.reduceEqDiff]
    · simp only [get_put, reduceIte, Nat.reduceEqDiff] <;> rfl
    obtain ⟨v2, h2, c2, w1, ho2, k2, hw2, hne2⟩ := grow ho' (x := .fs true 1 [.int .u8 39]) (w := .nils) (s := []) (nb := [39]) (c0 := .none) k' rfl rfl .nils (fun id e => by simp [AV.own]) (by simp; omega)
    obtain ⟨c3, hc3, b2⟩ := k2.toBytes.b2s
    simp only [a140_27, wpc_skip, wpc_ops, wpc_draw, wpc_seq, wpc_cond, wpc_block, wpc_loop, wpc_exit, wpc_scope, wpc_ret, seqQ_norm, seqQ_ret, seqQ_exit, blockQ'_norm, blockQ'_ret, blockQ'_exit, roundQ_norm, roundQ_ret, roundQ_exit, condK_true, condK_false, wpo_nil', wpo_none, wpo_tt, wpo_ff, wpo_tf, wpo_ft, opsK_c, isC_none, isC_read, isC_write, wp1_call, callK_ret, wp1_mv', wp1_bin', wp1_un', wp1_eq', wp1_extract', wp1_pick', wp1_len', wp1_load', wp1_conv', wp1_store', wp1_idxAddr', wp1_append', wp1_mkIface', wp1_alloc', rd_t, rd_c, ok_t, ok_c, put_some, put_none, get_put, reduceIte, Nat.reduceEqDiff, AV.bool.injEq, Option.some.injEq, exists_eq_left', Option.map_some, Option.bind_some, opds_nil, opds_cons, opd_t, opd_c, aBin, aInt, decide_true, decide_false, negIf, wp1_nilCheck', wp1_fieldAddr', wp1_slice, op_slice, opdo_some, opdo_none, wp1_lit, op_lit, parts_nil, parts_cons, wp1_build, op_build, wp1_box, op_box, isC c2, isC c3, g5, y1, y2, w1, b2]
    refine ⟨[.str (bs' ++ [39]), .nili], .tup [.str (bs' ++ [39]), .nili], by simp only [Env.results, Option.map_some, get_put, reduceIte, Nat.reduceEqDiff], (frz_noRef (v := .tup [.str (bs' ++ [39]), .nili]) rfl).2 rfl, _, by rw [e]; rfl⟩
end Go.Bf
