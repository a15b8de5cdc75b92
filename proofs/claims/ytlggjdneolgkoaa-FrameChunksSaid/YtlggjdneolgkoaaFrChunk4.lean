/-
  FrameChunks: the outer loop.
-/
import Derived.Test.YtlggjdneolgkoaaFrChunk3
set_option linter.unusedVariables false
set_option linter.unusedSimpArgs false
set_option maxRecDepth 20000
namespace Go.Fr
open Go.AM

/-- a slice of numbers that was handed in -/
def IntsV (v : AV) (l : List Int) : Prop := (v = .nils ∧ l = []) ∨ ∃ full, v = .fs full l.length (l.map (AV.int .i64))

theorem IntsV.len {v : AV} {l : List Int} (k : IntsV v l) (h : Heap) : aLenOp false h v = some ⟨.int .i64 l.length, h, .none⟩ := by
  rcases k with ⟨rfl, rfl⟩ | ⟨full, rfl⟩ <;> rfl

theorem IntsV.elem {v : AV} {l : List Int} (k : IntsV v l) {i : Nat} (hi : i < l.length) : ∃ p x, aIdxAddr 1 v (.int .i64 i) = some p ∧ ∀ h, aLoad h false 1 p = some ⟨.int .i64 x, h, .none⟩ := by
  rcases k with ⟨rfl, rfl⟩ | ⟨full, rfl⟩
  · simp at hi
  have hidx : aIndex l.length (.int .i64 i) = some i := by
    have h0 : (0 : Int) ≤ i := Int.natCast_nonneg i
    have h2 : (i : Int) < l.length := by exact_mod_cast hi
    simp [aIndex, h0, h2]
  cases hl : l.map (AV.int .i64) with
  | nil => simp at hl; subst hl; simp at hi
  | cons a t =>
    refine ⟨.fp ((l.map (AV.int .i64)).drop (i * 1)), l[i], by simp only [aIdxAddr, hidx, Option.map_some, hl], fun h => ?_⟩
    simp only [aLoad, ldCells, Nat.mul_one, List.head?_drop, List.getElem?_map, List.getElem?_eq_getElem hi, Option.map_some]

theorem wrap_u64 (x : Int) : ∃ u : Nat, IntKind.wrap .u64 x = u := by
  refine ⟨(IntKind.wrap .u64 x).toNat, (Int.toNat_of_nonneg ?_).symm⟩
  unfold IntKind.wrap
  simp only [IntKind.signed, IntKind.bits, Bool.false_and, Bool.false_eq_true, if_false]
  exact Int.emod_nonneg _ (by decide)
theorem wrap_u64_nat {n : Nat} (h : n < 9223372036854775808) : IntKind.wrap .u64 (n : Int) = n := by
  unfold IntKind.wrap
  simp [IntKind.signed, IntKind.bits]
  omega
theorem conv_int {h : Heap} {k k' : IntKind} {x : Int} : aConv h (.int k) (.int k' x) = some ⟨.int k (IntKind.wrap k x), h, .none⟩ := by
  simp [aConv]

theorem chunk_to {σ : Slots} {h : Heap} {fed i : Nat} {bv atv : AV} {b : List UInt8} {l : List Int} (hbv : ∀ h, Bytes h bv b) (hl : IntsV atv l) (hsm : b.length ≤ 16777216) (hfed : fed ≤ b.length)
    (g4 : σ.get 4 = bv) (g5 : σ.get 5 = atv) (g14 : σ.get 14 = .int .i64 fed) (g15 : σ.get 15 = .int .i64 i) (g16 : σ.get 16 = .int .i64 b.length) {Q : AExit → St → Prop}
    (hQ : ∀ σ' to_, fed ≤ to_ → to_ ≤ b.length → (¬ (i < l.length ∧ i < 199) → to_ = b.length) → σ'.get 16 = .int .i64 (to_ : Nat) → (∀ n, n < 16 → σ'.get n = σ.get n) → Q .norm ⟨σ', h⟩) :
    wpc env (.seq (.ops a3_16) (.cond (.t 83) (.ops a3_17) .skip)) ⟨σ, h⟩ Q := by
  have e0 := hl.len h
  have e4 := (hbv h).lenOp
  by_cases c1 : i < l.length
  · have z1 : ((i : Int) < (l.length : Int)) = True := eq_true (by omega)
    by_cases c2 : i < 199
    · have z2 : ((i : Int) < 199) = True := eq_true (by omega)
      obtain ⟨p, x, e1, e2⟩ := hl.elem c1
      obtain ⟨u, e3⟩ := wrap_u64 x
      obtain ⟨d, hd⟩ : ∃ d, d = b.length - fed := ⟨_, rfl⟩
      obtain ⟨D, hD⟩ : ∃ D, D = d + 1 := ⟨_, rfl⟩
      have e5 : IntKind.wrap .i64 ((b.length : Int) - (fed : Int)) = (d : Int) := wrap_nat (by omega) (by omega)
      have e6 : IntKind.wrap .i64 ((d : Int) + 1) = (D : Int) := wrap_nat (by omega) (by omega)
      have e7 : IntKind.wrap .u64 (D : Int) = (D : Int) := wrap_u64_nat (by omega)
      have z3 : ((D : Int) = 0) = False := eq_false (by omega)
      obtain ⟨r, hr⟩ : ∃ r, r = u % D := ⟨_, rfl⟩
      have hrd : r < D := by rw [hr]; exact Nat.mod_lt _ (by omega)
      have e8 : (u : Int).tmod (D : Int) = (r : Int) := by rw [hr]; rfl
      have e9 : IntKind.wrap .i64 (r : Int) = (r : Int) := wrap_nat rfl (by omega)
      have e10 : IntKind.wrap .i64 ((fed : Int) + (r : Int)) = ((fed + r : Nat) : Int) := wrap_nat (by omega) (by omega)
      simp only [a3_16, a3_17, wpc_skip, wpc_ops, wpc_draw, wpc_seq, wpc_cond, wpc_block, wpc_loop, wpc_exit, wpc_scope, wpc_ret, seqQ_norm, seqQ_ret, seqQ_exit, blockQ'_norm, blockQ'_ret, blockQ'_exit, roundQ_norm, roundQ_ret, roundQ_exit, condK_true, condK_false, wpo_nil', wpo_none, wpo_some, opsK_apply, guardK_tt, guardK_ff, guardK_tf, guardK_ft, wp1_call, callK_ret, wp1_mv', wp1_bin', wp1_un', wp1_eq', wp1_extract', wp1_pick', wp1_len', wp1_load', wp1_conv', wp1_store', wp1_idxAddr', wp1_append', wp1_mkIface', wp1_alloc', rd_t, rd_c, ok_t, ok_c, put_some, put_none, get_put, reduceIte, Nat.reduceEqDiff, AV.bool.injEq, Option.some.injEq, exists_eq_left', Option.map_some, Option.bind_some, opds_nil, opds_cons, opd_t, opd_c, aBin, aInt, decide_true, decide_false, negIf, wp1_nilCheck', wp1_fieldAddr', wp1_slice, op_slice, opdo_some, opdo_none, wp1_lit, op_lit, parts_nil, parts_cons, wp1_build, op_build, wp1_box, op_box, g4, g5, g14, g15, e0, e4, z1, z2, aPick, e1, e2, conv_int, e3, e5, e6, e7, z3, e8, e9, e10]
      refine hQ _ (fed + r) (by omega) (by omega) (fun e => absurd ⟨c1, c2⟩ e) (by simp only [get_put, reduceIte, Nat.reduceEqDiff]) fun n hn => ?_
      simp only [get_put]
      repeat rw [if_neg (by omega)]
    · have z2 : ((i : Int) < 199) = False := eq_false (by omega)
      simp only [a3_16, wpc_skip, wpc_ops, wpc_draw, wpc_seq, wpc_cond, wpc_block, wpc_loop, wpc_exit, wpc_scope, wpc_ret, seqQ_norm, seqQ_ret, seqQ_exit, blockQ'_norm, blockQ'_ret, blockQ'_exit, roundQ_norm, roundQ_ret, roundQ_exit, condK_true, condK_false, wpo_nil', wpo_none, wpo_some, opsK_apply, guardK_tt, guardK_ff, guardK_tf, guardK_ft, wp1_call, callK_ret, wp1_mv', wp1_bin', wp1_un', wp1_eq', wp1_extract', wp1_pick', wp1_len', wp1_load', wp1_conv', wp1_store', wp1_idxAddr', wp1_append', wp1_mkIface', wp1_alloc', rd_t, rd_c, ok_t, ok_c, put_some, put_none, get_put, reduceIte, Nat.reduceEqDiff, AV.bool.injEq, Option.some.injEq, exists_eq_left', Option.map_some, Option.bind_some, opds_nil, opds_cons, opd_t, opd_c, aBin, aInt, decide_true, decide_false, negIf, wp1_nilCheck', wp1_fieldAddr', wp1_slice, op_slice, opdo_some, opdo_none, wp1_lit, op_lit, parts_nil, parts_cons, wp1_build, op_build, wp1_box, op_box, g4, g5, g14, g15, e0, z1, z2, aPick]
      refine hQ _ b.length (by omega) (Nat.le_refl _) (fun _ => rfl) (by simp only [get_put, reduceIte, Nat.reduceEqDiff, g16]) fun n hn => ?_
      simp only [get_put]
      repeat rw [if_neg (by omega)]
  · have z1 : ((i : Int) < (l.length : Int)) = False := eq_false (by omega)
    simp only [a3_16, wpc_skip, wpc_ops, wpc_draw, wpc_seq, wpc_cond, wpc_block, wpc_loop, wpc_exit, wpc_scope, wpc_ret, seqQ_norm, seqQ_ret, seqQ_exit, blockQ'_norm, blockQ'_ret, blockQ'_exit, roundQ_norm, roundQ_ret, roundQ_exit, condK_true, condK_false, wpo_nil', wpo_none, wpo_some, opsK_apply, guardK_tt, guardK_ff, guardK_tf, guardK_ft, wp1_call, callK_ret, wp1_mv', wp1_bin', wp1_un', wp1_eq', wp1_extract', wp1_pick', wp1_len', wp1_load', wp1_conv', wp1_store', wp1_idxAddr', wp1_append', wp1_mkIface', wp1_alloc', rd_t, rd_c, ok_t, ok_c, put_some, put_none, get_put, reduceIte, Nat.reduceEqDiff, AV.bool.injEq, Option.some.injEq, exists_eq_left', Option.map_some, Option.bind_some, opds_nil, opds_cons, opd_t, opd_c, aBin, aInt, decide_true, decide_false, negIf, wp1_nilCheck', wp1_fieldAddr', wp1_slice, op_slice, opdo_some, opdo_none, wp1_lit, op_lit, parts_nil, parts_cons, wp1_build, op_build, wp1_box, op_box, g4, g5, g14, g15, e0, z1, aPick]
    refine hQ _ b.length (by omega) (Nat.le_refl _) (fun _ => rfl) (by simp only [get_put, reduceIte, Nat.reduceEqDiff, g16]) fun n hn => ?_
    simp only [get_put]
    repeat rw [if_neg (by omega)]

theorem frozen_mid {bv : AV} {b : List UInt8} (hbv : ∀ h, Bytes h bv b) {l u : Nat} (h1 : l ≤ u) (h2 : u ≤ b.length) : ∃ v, aSlice 1 bv (some (.int .i64 l)) (some (.int .i64 u)) none = some v ∧ ∀ h, Bytes h v ((b.drop l).take (u - l)) := by
  obtain ⟨v, g1, g2⟩ := (hbv .empty).mid (k1 := .i64) (k2 := .i64) h1 h2
  refine ⟨v, g1, fun h => ?_⟩
  obtain ⟨v2, g3, g4⟩ := (hbv h).mid (k1 := .i64) (k2 := .i64) h1 h2
  rw [g1] at g3; cases g3
  exact g4

theorem chunk_feed {w id b0 : Nat} {b : List UInt8} {bv : AV} {fed to_ : Nat} (hw : w = 2 ∨ w = 4) (hbv : ∀ h, Bytes h bv b) (hsm : b.length ≤ 16777216) (hid : id < b0) (h1 : fed ≤ to_) (h2 : to_ ≤ b.length) {s : Rs} {bs : List UInt8} {got : List (List UInt8)} {hv lv : AV} {cells : List AV} {h : Heap} {σ : Slots}
    (ho : HeapOk h) (hb0 : b0 ≤ h.next) (kr : Rd h id s bs hv) (hsw : s.w = w) (hok : s.ok bs) (hgl : got.length ≤ s.bytes) (hinv : Inv w b fed s bs got) (hgt : Gt h lv cells got b0 hv)
    (g4 : σ.get 4 = bv) (g7 : σ.get 7 = .ptr id 0 0) (g13 : σ.get 13 = .bool s.dead) (g14 : σ.get 14 = .int .i64 fed) (g16 : σ.get 16 = .int .i64 to_) {Q : AExit → St → Prop}
    (hQ : ∀ σ' h' s' bs' hv', HeapOk h' → b0 ≤ h'.next → Rd h' id s' bs' hv' → s'.w = w → s'.ok bs' → got.length ≤ s'.bytes → Inv w b to_ s' bs' got → Gt h' lv cells got b0 hv' → s'.dead = s.dead → Chg (fun i => i = id ∨ b0 ≤ i) h h' → (∀ n, n < 17 → σ'.get n = σ.get n) → Q .norm ⟨σ', h'⟩) :
    wpc env (.seq (.ops a3_18) (.cond (.t 109) (.seq (.ops a3_19) .ret) .skip)) ⟨σ, h⟩ Q := by
  obtain ⟨v, e1, hv1⟩ := frozen_mid hbv h1 h2
  cases hd : s.dead with
  | true =>
    rw [hd] at g13
    have w1 := feed_dead kr (v := v) (by omega) hd
    simp only [a3_18, wpc_skip, wpc_ops, wpc_draw, wpc_seq, wpc_cond, wpc_block, wpc_loop, wpc_exit, wpc_scope, wpc_ret, seqQ_norm, seqQ_ret, seqQ_exit, blockQ'_norm, blockQ'_ret, blockQ'_exit, roundQ_norm, roundQ_ret, roundQ_exit, condK_true, condK_false, wpo_nil', wpo_none, wpo_some, opsK_apply, guardK_tt, guardK_ff, guardK_tf, guardK_ft, wp1_call, callK_ret, wp1_mv', wp1_bin', wp1_un', wp1_eq', wp1_extract', wp1_pick', wp1_len', wp1_load', wp1_conv', wp1_store', wp1_idxAddr', wp1_append', wp1_mkIface', wp1_alloc', rd_t, rd_c, ok_t, ok_c, put_some, put_none, get_put, reduceIte, Nat.reduceEqDiff, AV.bool.injEq, Option.some.injEq, exists_eq_left', Option.map_some, Option.bind_some, opds_nil, opds_cons, opd_t, opd_c, aBin, aInt, decide_true, decide_false, negIf, wp1_nilCheck', wp1_fieldAddr', wp1_slice, op_slice, opdo_some, opdo_none, wp1_lit, op_lit, parts_nil, parts_cons, wp1_build, op_build, wp1_box, op_box, g4, g7, g13, g14, g16, e1, wc_eq w1, eq_fault, Bool.not_false, aUn, Bool.not_true, aPick]
    refine hQ _ h s bs hv ho hb0 kr hsw hok hgl (inv_dead hinv hd) hgt rfl .refl fun n hn => ?_
    simp only [get_put]
    repeat rw [if_neg (by omega)]
  | false =>
    rw [hd] at g13
    have hl : s.bytes + bs.length = fed := by
      rcases hinv with ⟨k1, k2, k3, k4, k5⟩ | ⟨k1, k2⟩
      · rw [k4]; simp; omega
      · rw [hd] at k1; cases k1
    have hvn := own_none hv1
    have hvl : ((b.drop fed).take (to_ - fed)).length = to_ - fed := by simp; omega
    obtain ⟨o, ev, h', hv', ho', kr', c', hown, rfl⟩ := feed_spec ho kr (hv1 h) (by rw [hvn]; simp) (by rw [hvn]; simp) (by omega) hd (by rw [hvl]; omega)
    have w1 : WC env 9 [.ptr id 0 0, v] h (fun o => o = _) := ⟨_, ev, rfl⟩
    simp only [a3_18, wpc_skip, wpc_ops, wpc_draw, wpc_seq, wpc_cond, wpc_block, wpc_loop, wpc_exit, wpc_scope, wpc_ret, seqQ_norm, seqQ_ret, seqQ_exit, blockQ'_norm, blockQ'_ret, blockQ'_exit, roundQ_norm, roundQ_ret, roundQ_exit, condK_true, condK_false, wpo_nil', wpo_none, wpo_some, opsK_apply, guardK_tt, guardK_ff, guardK_tf, guardK_ft, wp1_call, callK_ret, wp1_mv', wp1_bin', wp1_un', wp1_eq', wp1_extract', wp1_pick', wp1_len', wp1_load', wp1_conv', wp1_store', wp1_idxAddr', wp1_append', wp1_mkIface', wp1_alloc', rd_t, rd_c, ok_t, ok_c, put_some, put_none, get_put, reduceIte, Nat.reduceEqDiff, AV.bool.injEq, Option.some.injEq, exists_eq_left', Option.map_some, Option.bind_some, opds_nil, opds_cons, opd_t, opd_c, aBin, aInt, decide_true, decide_false, negIf, wp1_nilCheck', wp1_fieldAddr', wp1_slice, op_slice, opdo_some, opdo_none, wp1_lit, op_lit, parts_nil, parts_cons, wp1_build, op_build, wp1_box, op_box, g4, g7, g13, g14, g16, e1, wc_eq w1, eq_nil, Bool.not_false, aUn, Bool.not_true, aPick]
    refine hQ _ h' _ _ hv' ho' (Nat.le_trans hb0 c'.1) kr' hsw ⟨hok.1, hok.2.1, ?_⟩ hgl (inv_feed hinv hd h1 h2 _) (hgt.chg ho hb0 hid c' (fun i e => e) hown) rfl (c'.mono fun i e => e.elim .inl fun e => .inr (hgt.low i e)) fun n hn => ?_
    · dsimp only; rw [List.length_append, hvl]; omega
    · simp only [get_put]
      repeat rw [if_neg (by omega)]

theorem chunk_outer {w id b0 : Nat} {b : List UInt8} {bv atv : AV} {l : List Int} {asks : Int} (hw : w = 2 ∨ w = 4) (hbv : ∀ h, Bytes h bv b) (hl : IntsV atv l) (hsm : b.length ≤ 16777216) (hid : id < b0) {Q : AExit → St → Prop} :
    ∀ (f i fed : Nat) (s : Rs) (bs : List UInt8) (got : List (List UInt8)) (hv lv : AV) (cells : List AV) (h : Heap) (σ : Slots), 200 - i < f → i ≤ 200 → fed ≤ b.length → HeapOk h → b0 ≤ h.next → Rd h id s bs hv → s.w = w → s.ok bs → got.length ≤ s.bytes →
      Inv w b fed s bs got → Gt h lv cells got b0 hv → (¬ (i ≤ l.length ∧ i < 200) → fed = b.length ∧ Exh s bs) → σ.get 4 = bv → σ.get 5 = atv → σ.get 6 = .int .u64 asks → σ.get 7 = .ptr id 0 0 → σ.get 12 = lv → σ.get 13 = .bool s.dead → σ.get 14 = .int .i64 fed → σ.get 15 = .int .i64 i →
      (∀ σ' h' s' bs' got' hv' lv' cells', HeapOk h' → Rd h' id s' bs' hv' → s'.w = w → s'.ok bs' → got'.length ≤ s'.bytes → Inv w b b.length s' bs' got' → Gt h' lv' cells' got' b0 hv' → Exh s' bs' → σ'.get 12 = lv' → σ'.get 13 = .bool s'.dead → Chg (fun i => i = id ∨ b0 ≤ i) h h' →
        (∀ n, n < 12 → σ'.get n = σ.get n) → Q (.exit 0) ⟨σ', h'⟩) →
      WPr env a3_l30 ⟨σ, h⟩ Q := by
  intro f
  induction f with
  | zero => intro i fed s bs got hv lv cells h σ h1; omega
  | succ f ih =>
    intro i fed s bs got hv lv cells h σ hf hi200 hfed ho hb0 kr hsw hok hgl hinv hgt hend g4 g5 g6 g7 g12 g13 g14 g15 hQ
    refine wpr_round' fun bb hb' => ?_
    have e0 := hl.len h
    by_cases c1 : i ≤ l.length
    case neg =>
      obtain ⟨rfl, hex⟩ := hend (fun e => c1 e.1)
      have z1 : ((i : Int) ≤ (l.length : Int)) = False := eq_false (by omega)
      simp only [a3_l30, a3_14, wpc_skip, wpc_ops, wpc_draw, wpc_seq, wpc_cond, wpc_block, wpc_loop, wpc_exit, wpc_scope, wpc_ret, seqQ_norm, seqQ_ret, seqQ_exit, blockQ'_norm, blockQ'_ret, blockQ'_exit, roundQ_norm, roundQ_ret, roundQ_exit, condK_true, condK_false, wpo_nil', wpo_none, wpo_some, opsK_apply, guardK_tt, guardK_ff, guardK_tf, guardK_ft, wp1_call, callK_ret, wp1_mv', wp1_bin', wp1_un', wp1_eq', wp1_extract', wp1_pick', wp1_len', wp1_load', wp1_conv', wp1_store', wp1_idxAddr', wp1_append', wp1_mkIface', wp1_alloc', rd_t, rd_c, ok_t, ok_c, put_some, put_none, get_put, reduceIte, Nat.reduceEqDiff, AV.bool.injEq, Option.some.injEq, exists_eq_left', Option.map_some, Option.bind_some, opds_nil, opds_cons, opd_t, opd_c, aBin, aInt, decide_true, decide_false, negIf, wp1_nilCheck', wp1_fieldAddr', wp1_slice, op_slice, opdo_some, opdo_none, wp1_lit, op_lit, parts_nil, parts_cons, wp1_build, op_build, wp1_box, op_box, g5, g15, e0, z1, aPick]
      refine hQ _ h s bs got hv lv cells ho kr hsw hok hgl hinv hgt hex ?_ ?_ .refl fun n hn => ?_
      · simp only [get_put, reduceIte, Nat.reduceEqDiff, g12]
      · simp only [get_put, reduceIte, Nat.reduceEqDiff, g13]
      · simp only [get_put]
        repeat rw [if_neg (by omega)]
    have z1 : ((i : Int) ≤ (l.length : Int)) = True := eq_true (by omega)
    by_cases c2 : i < 200
    case neg =>
      obtain ⟨rfl, hex⟩ := hend (fun e => c2 e.2)
      have z2 : ((i : Int) < 200) = False := eq_false (by omega)
      simp only [a3_l30, a3_14, wpc_skip, wpc_ops, wpc_draw, wpc_seq, wpc_cond, wpc_block, wpc_loop, wpc_exit, wpc_scope, wpc_ret, seqQ_norm, seqQ_ret, seqQ_exit, blockQ'_norm, blockQ'_ret, blockQ'_exit, roundQ_norm, roundQ_ret, roundQ_exit, condK_true, condK_false, wpo_nil', wpo_none, wpo_some, opsK_apply, guardK_tt, guardK_ff, guardK_tf, guardK_ft, wp1_call, callK_ret, wp1_mv', wp1_bin', wp1_un', wp1_eq', wp1_extract', wp1_pick', wp1_len', wp1_load', wp1_conv', wp1_store', wp1_idxAddr', wp1_append', wp1_mkIface', wp1_alloc', rd_t, rd_c, ok_t, ok_c, put_some, put_none, get_put, reduceIte, Nat.reduceEqDiff, AV.bool.injEq, Option.some.injEq, exists_eq_left', Option.map_some, Option.bind_some, opds_nil, opds_cons, opd_t, opd_c, aBin, aInt, decide_true, decide_false, negIf, wp1_nilCheck', wp1_fieldAddr', wp1_slice, op_slice, opdo_some, opdo_none, wp1_lit, op_lit, parts_nil, parts_cons, wp1_build, op_build, wp1_box, op_box, g5, g15, e0, z1, z2, aPick]
      refine hQ _ h s bs got hv lv cells ho kr hsw hok hgl hinv hgt hex ?_ ?_ .refl fun n hn => ?_
      · simp only [get_put, reduceIte, Nat.reduceEqDiff, g12]
      · simp only [get_put, reduceIte, Nat.reduceEqDiff, g13]
      · simp only [get_put]
        repeat rw [if_neg (by omega)]
    have z2 : ((i : Int) < 200) = True := eq_true (by omega)
    have e4 := (hbv h).lenOp
    have z9 : IntKind.wrap .i64 ((i : Int) + 1) = ((i + 1 : Nat) : Int) := wrap_nat (by omega) (by omega)
    simp only [a3_l30, a3_14, a3_15, wpc_skip, wpc_ops, wpc_draw, wpc_seq, wpc_cond, wpc_block, wpc_loop, wpc_exit, wpc_scope, wpc_ret, seqQ_norm, seqQ_ret, seqQ_exit, blockQ'_norm, blockQ'_ret, blockQ'_exit, roundQ_norm, roundQ_ret, roundQ_exit, condK_true, condK_false, wpo_nil', wpo_none, wpo_some, opsK_apply, guardK_tt, guardK_ff, guardK_tf, guardK_ft, wp1_call, callK_ret, wp1_mv', wp1_bin', wp1_un', wp1_eq', wp1_extract', wp1_pick', wp1_len', wp1_load', wp1_conv', wp1_store', wp1_idxAddr', wp1_append', wp1_mkIface', wp1_alloc', rd_t, rd_c, ok_t, ok_c, put_some, put_none, get_put, reduceIte, Nat.reduceEqDiff, AV.bool.injEq, Option.some.injEq, exists_eq_left', Option.map_some, Option.bind_some, opds_nil, opds_cons, opd_t, opd_c, aBin, aInt, decide_true, decide_false, negIf, wp1_nilCheck', wp1_fieldAddr', wp1_slice, op_slice, opdo_some, opdo_none, wp1_lit, op_lit, parts_nil, parts_cons, wp1_build, op_build, wp1_box, op_box, g4, g5, g15, e0, e4, z1, z2, aPick]
    refine chunk_to hbv hl hsm hfed (i := i) (fed := fed) ?_ ?_ ?_ ?_ ?_ fun σ1 to_ t1 t2 t3 t4 t5 => ?_
    · simp only [get_put, reduceIte, Nat.reduceEqDiff, g4]
    · simp only [get_put, reduceIte, Nat.reduceEqDiff, g5]
    · simp only [get_put, reduceIte, Nat.reduceEqDiff, g14]
    · simp only [get_put, reduceIte, Nat.reduceEqDiff, g15]
    · simp only [get_put, reduceIte, Nat.reduceEqDiff]
    have k1 : ∀ n, n < 16 → σ1.get n = σ.get n := by
      intro n hn
      rw [t5 n hn]
      simp only [get_put]
      repeat rw [if_neg (by omega)]
    simp only [seqQ_norm, wpc_seq]
    refine chunk_feed hw hbv hsm hid t1 t2 ho hb0 kr hsw hok hgl hinv hgt (by rw [k1 4 (by omega), g4]) (by rw [k1 7 (by omega), g7]) (by rw [k1 13 (by omega), g13]) (by rw [k1 14 (by omega), g14]) t4 fun σ2 h2 s2 bs2 hv2 a1 a2 a3 a4 a5 a6 a7 a8 a9 a10 a11 => ?_
    have k2 : ∀ n, n < 16 → σ2.get n = σ.get n := fun n hn => by rw [a11 n (by omega), k1 n hn]
    have q16 : σ2.get 16 = .int .i64 (to_ : Nat) := by rw [a11 16 (by omega), t4]
    simp only [a3_20, a3_21, wpc_skip, wpc_ops, wpc_draw, wpc_seq, wpc_cond, wpc_block, wpc_loop, wpc_exit, wpc_scope, wpc_ret, seqQ_norm, seqQ_ret, seqQ_exit, blockQ'_norm, blockQ'_ret, blockQ'_exit, roundQ_norm, roundQ_ret, roundQ_exit, condK_true, condK_false, wpo_nil', wpo_none, wpo_some, opsK_apply, guardK_tt, guardK_ff, guardK_tf, guardK_ft, wp1_call, callK_ret, wp1_mv', wp1_bin', wp1_un', wp1_eq', wp1_extract', wp1_pick', wp1_len', wp1_load', wp1_conv', wp1_store', wp1_idxAddr', wp1_append', wp1_mkIface', wp1_alloc', rd_t, rd_c, ok_t, ok_c, put_some, put_none, get_put, reduceIte, Nat.reduceEqDiff, AV.bool.injEq, Option.some.injEq, exists_eq_left', Option.map_some, Option.bind_some, opds_nil, opds_cons, opd_t, opd_c, aBin, aInt, decide_true, decide_false, negIf, wp1_nilCheck', wp1_fieldAddr', wp1_slice, op_slice, opdo_some, opdo_none, wp1_lit, op_lit, parts_nil, parts_cons, wp1_build, op_build, wp1_box, op_box, q16]
    refine chunk_inner (asks := asks) (fed := to_) (i := i) hw hbv hsm c2 hid (bs2.length + 1) 0 s2 bs2 got hv2 lv cells h2 _ (by omega) (by have := a5.2.2; omega) a1 a2 a3 a4 a5 a6 a7 a8 ?_ ?_ ?_ ?_ ?_ ?_ ?_ ?_ fun σ3 h3 s3 bs3 got3 hv3 lv3 cells3 d1 d2 d3 d4 d5 d6 d7 d8 d9 d10 d11 d12 d13 => ?_
    · simp only [get_put, reduceIte, Nat.reduceEqDiff]; rw [k2 4 (by omega), g4]
    · simp only [get_put, reduceIte, Nat.reduceEqDiff]; rw [k2 6 (by omega), g6]
    · simp only [get_put, reduceIte, Nat.reduceEqDiff]; rw [k2 7 (by omega), g7]
    · simp only [get_put, reduceIte, Nat.reduceEqDiff]; rw [k2 12 (by omega), g12]
    · simp only [get_put, reduceIte, Nat.reduceEqDiff]; rw [k2 13 (by omega), g13, a9]
    · simp only [get_put, reduceIte, Nat.reduceEqDiff]
    · simp only [get_put, reduceIte, Nat.reduceEqDiff]; rw [k2 15 (by omega), g15]
    · simp only [get_put, reduceIte, Nat.reduceEqDiff]; rfl
    have q15 : σ3.get 15 = .int .i64 i := by
      rw [d13 15 (by omega)]
      simp only [get_put, reduceIte, Nat.reduceEqDiff]; rw [k2 15 (by omega), g15]
    have k3 : ∀ n, n < 12 → σ3.get n = σ.get n := by
      intro n hn
      rw [d13 n (by omega)]
      simp only [get_put]
      repeat rw [if_neg (by omega)]
      exact k2 n (by omega)
    simp only [a3_29, wpc_skip, wpc_ops, wpc_draw, wpc_seq, wpc_cond, wpc_block, wpc_loop, wpc_exit, wpc_scope, wpc_ret, seqQ_norm, seqQ_ret, seqQ_exit, blockQ'_norm, blockQ'_ret, blockQ'_exit, roundQ_norm, roundQ_ret, roundQ_exit, condK_true, condK_false, wpo_nil', wpo_none, wpo_some, opsK_apply, guardK_tt, guardK_ff, guardK_tf, guardK_ft, wp1_call, callK_ret, wp1_mv', wp1_bin', wp1_un', wp1_eq', wp1_extract', wp1_pick', wp1_len', wp1_load', wp1_conv', wp1_store', wp1_idxAddr', wp1_append', wp1_mkIface', wp1_alloc', rd_t, rd_c, ok_t, ok_c, put_some, put_none, get_put, reduceIte, Nat.reduceEqDiff, AV.bool.injEq, Option.some.injEq, exists_eq_left', Option.map_some, Option.bind_some, opds_nil, opds_cons, opd_t, opd_c, aBin, aInt, decide_true, decide_false, negIf, wp1_nilCheck', wp1_fieldAddr', wp1_slice, op_slice, opdo_some, opdo_none, wp1_lit, op_lit, parts_nil, parts_cons, wp1_build, op_build, wp1_box, op_box, q15, z9]
    subst hb'
    refine ih (i + 1) to_ s3 bs3 got3 hv3 lv3 cells3 h3 _ (by omega) (by omega) t2 d1 d2 d3 d4 d5 d6 d7 d8 (fun e => ?_) ?_ ?_ ?_ ?_ ?_ ?_ ?_ ?_ fun σ4 h4 s4 bs4 got4 hv4 lv4 cells4 e1 e2 e3 e4 e5 e6 e7 e8 e9 e10 e11 e12 =>
      hQ σ4 h4 s4 bs4 got4 hv4 lv4 cells4 e1 e2 e3 e4 e5 e6 e7 e8 e9 e10 ((a10.trans d12).trans e11) fun n hn => ?_
    · have := t3 (by omega)
      exact ⟨this, d9 this⟩
    · simp only [get_put, reduceIte, Nat.reduceEqDiff]; rw [k3 4 (by omega), g4]
    · simp only [get_put, reduceIte, Nat.reduceEqDiff]; rw [k3 5 (by omega), g5]
    · simp only [get_put, reduceIte, Nat.reduceEqDiff]; rw [k3 6 (by omega), g6]
    · simp only [get_put, reduceIte, Nat.reduceEqDiff]; rw [k3 7 (by omega), g7]
    · simp only [get_put, reduceIte, Nat.reduceEqDiff, d10]
    · simp only [get_put, reduceIte, Nat.reduceEqDiff, d11]
    · simp only [get_put, reduceIte, Nat.reduceEqDiff]
      rw [d13 14 (by omega)]
      simp only [get_put, reduceIte, Nat.reduceEqDiff]
    · simp only [get_put, reduceIte, Nat.reduceEqDiff]
    · rw [e12 n hn, ← k3 n hn]
      simp only [get_put]
      repeat rw [if_neg (by omega)]
end Go.Fr
