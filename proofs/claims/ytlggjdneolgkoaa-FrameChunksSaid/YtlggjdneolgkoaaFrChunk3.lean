/-
  FrameChunks: the inner loop, the whole.
-/
import Derived.Test.YtlggjdneolgkoaaFrChunk2
set_option linter.unusedVariables false
set_option linter.unusedSimpArgs false
set_option maxRecDepth 20000
namespace Go.Fr
open Go.AM

theorem eq_faultIf (a c : Int) (bad : Bool) : aEq (.iface true) (if bad = true then faultV a c else .nili) .nili = some (!bad) := by
  cases bad <;> rfl

theorem chunk_flag {σ : Slots} {h : Heap} {d bad : Bool} {F : AV} (g13 : σ.get 13 = .bool d) (g20 : σ.get 20 = F) (hF : aEq (.iface true) F .nili = some (!bad)) {Q : AExit → St → Prop}
    (hQ : ∀ σ', σ'.get 13 = .bool (d || bad) → (∀ n, n < 132 → n ≠ 13 → σ'.get n = σ.get n) → Q .norm ⟨σ', h⟩) : wpc env (.ops a3_24) ⟨σ, h⟩ Q := by
  cases d
  · simp only [a3_24, wpc_skip, wpc_ops, wpc_draw, wpc_seq, wpc_cond, wpc_block, wpc_loop, wpc_exit, wpc_scope, wpc_ret, seqQ_norm, seqQ_ret, seqQ_exit, blockQ'_norm, blockQ'_ret, blockQ'_exit, roundQ_norm, roundQ_ret, roundQ_exit, condK_true, condK_false, wpo_nil', wpo_none, wpo_some, opsK_apply, guardK_tt, guardK_ff, guardK_tf, guardK_ft, wp1_call, callK_ret, wp1_mv', wp1_bin', wp1_un', wp1_eq', wp1_extract', wp1_pick', wp1_len', wp1_load', wp1_conv', wp1_store', wp1_idxAddr', wp1_append', wp1_mkIface', wp1_alloc', rd_t, rd_c, ok_t, ok_c, put_some, put_none, get_put, reduceIte, Nat.reduceEqDiff, AV.bool.injEq, Option.some.injEq, exists_eq_left', Option.map_some, Option.bind_some, opds_nil, opds_cons, opd_t, opd_c, aBin, aInt, decide_true, decide_false, negIf, wp1_nilCheck', wp1_fieldAddr', wp1_slice, op_slice, opdo_some, opdo_none, wp1_lit, op_lit, parts_nil, parts_cons, wp1_build, op_build, wp1_box, op_box, g13, g20, hF, aPick, Bool.not_not]
    refine hQ _ (by simp only [get_put, reduceIte, Bool.false_or]) fun n hn hne => ?_
    simp only [get_put]
    repeat rw [if_neg (by omega)]
  · simp only [a3_24, wpc_skip, wpc_ops, wpc_draw, wpc_seq, wpc_cond, wpc_block, wpc_loop, wpc_exit, wpc_scope, wpc_ret, seqQ_norm, seqQ_ret, seqQ_exit, blockQ'_norm, blockQ'_ret, blockQ'_exit, roundQ_norm, roundQ_ret, roundQ_exit, condK_true, condK_false, wpo_nil', wpo_none, wpo_some, opsK_apply, guardK_tt, guardK_ff, guardK_tf, guardK_ft, wp1_call, callK_ret, wp1_mv', wp1_bin', wp1_un', wp1_eq', wp1_extract', wp1_pick', wp1_len', wp1_load', wp1_conv', wp1_store', wp1_idxAddr', wp1_append', wp1_mkIface', wp1_alloc', rd_t, rd_c, ok_t, ok_c, put_some, put_none, get_put, reduceIte, Nat.reduceEqDiff, AV.bool.injEq, Option.some.injEq, exists_eq_left', Option.map_some, Option.bind_some, opds_nil, opds_cons, opd_t, opd_c, aBin, aInt, decide_true, decide_false, negIf, wp1_nilCheck', wp1_fieldAddr', wp1_slice, op_slice, opdo_some, opdo_none, wp1_lit, op_lit, parts_nil, parts_cons, wp1_build, op_build, wp1_box, op_box, g13, g20, hF, aPick, Bool.not_not]
    refine hQ _ (by simp only [get_put, reduceIte, Bool.true_or]) fun n hn hne => ?_
    simp only [get_put]
    repeat rw [if_neg (by omega)]

theorem chunk_inner {w id b0 : Nat} {b : List UInt8} {bv : AV} {asks : Int} {fed i : Nat} (hw : w = 2 ∨ w = 4) (hbv : ∀ h, Bytes h bv b) (hsm : b.length ≤ 16777216) (hi : i < 200) (hid : id < b0) {Q : AExit → St → Prop} :
    ∀ (f k : Nat) (s : Rs) (bs : List UInt8) (got : List (List UInt8)) (hv lv : AV) (cells : List AV) (h : Heap) (σ : Slots), bs.length < f → k + bs.length ≤ 1000000000000 → HeapOk h → b0 ≤ h.next → Rd h id s bs hv → s.w = w → s.ok bs → got.length ≤ s.bytes →
      Inv w b fed s bs got → Gt h lv cells got b0 hv → σ.get 4 = bv → σ.get 6 = .int .u64 asks → σ.get 7 = .ptr id 0 0 → σ.get 12 = lv → σ.get 13 = .bool s.dead → σ.get 14 = .int .i64 fed → σ.get 15 = .int .i64 i → σ.get 17 = .int .i64 k →
      (∀ σ' h' s' bs' got' hv' lv' cells', HeapOk h' → b0 ≤ h'.next → Rd h' id s' bs' hv' → s'.w = w → s'.ok bs' → got'.length ≤ s'.bytes → Inv w b fed s' bs' got' → Gt h' lv' cells' got' b0 hv' → (fed = b.length → Exh s' bs') → σ'.get 12 = lv' → σ'.get 13 = .bool s'.dead → Chg (fun i => i = id ∨ b0 ≤ i) h h' →
        (∀ n, n < 12 ∨ n = 14 ∨ n = 15 → σ'.get n = σ.get n) → Q (.exit 2) ⟨σ', h'⟩) →
      WPr env a3_l28 ⟨σ, h⟩ Q := by
  intro f
  induction f with
  | zero => intro k s bs got hv lv cells h σ h1; omega
  | succ f ih =>
    intro k s bs got hv lv cells h σ hf hk ho hb0 kr hsw hok hgl hinv hgt g4 g6 g7 g12 g13 g14 g15 g17 hQ
    refine wpr_round' fun bb hb' => ?_
    rw [a3_l28, wpc_seq]
    refine chunk_cond hbv hi g4 g6 g14 g15 (fun σ1 s1 => ?_) fun hne σ1 s1 => ?_
    · have hws : s.w = 2 ∨ s.w = 4 := by rw [hsw]; exact hw
      obtain ⟨o, ev, h1, hv1, x, ho1, kr1, c1, hown, hx, xown, xmut, rfl⟩ := next_spec ho kr hws hok
      have w1 : WC env 10 [.ptr id 0 0] h (fun o => o = _) := ⟨_, ev, rfl⟩
      have hF := eq_faultIf s.bytes 120 (nextF s bs).2.2.2
      obtain ⟨i1, i2, i3, i4, i5⟩ := inv_next hw hsw hinv
      have hno := nextF_ok hws hok
      have gt1 : Gt h1 lv cells got b0 hv1 := hgt.chg ho hb0 hid c1 (fun i e => .inl e) hown
      have hb1 : b0 ≤ h1.next := Nat.le_trans hb0 c1.1
      generalize hNN : nextF s bs = N at *
      obtain ⟨s', bs', body, bad⟩ := N
      dsimp only at i1 i2 i3 i4 i5 hno kr1 hx xmut hF w1
      have q7 : σ1.get 7 = .ptr id 0 0 := by rw [s1 7 (by omega), g7]
      have q12 : σ1.get 12 = lv := by rw [s1 12 (by omega), g12]
      have q13 : σ1.get 13 = .bool s.dead := by rw [s1 13 (by omega), g13]
      have q17 : σ1.get 17 = .int .i64 k := by rw [s1 17 (by omega), g17]
      simp only [seqQ_norm, wpc_seq, wpc_block, wpc_ops, a3_23, wpc_skip, wpc_ops, wpc_draw, wpc_seq, wpc_cond, wpc_block, wpc_loop, wpc_exit, wpc_scope, wpc_ret, seqQ_norm, seqQ_ret, seqQ_exit, blockQ'_norm, blockQ'_ret, blockQ'_exit, roundQ_norm, roundQ_ret, roundQ_exit, condK_true, condK_false, wpo_nil', wpo_none, wpo_some, opsK_apply, guardK_tt, guardK_ff, guardK_tf, guardK_ft, wp1_call, callK_ret, wp1_mv', wp1_bin', wp1_un', wp1_eq', wp1_extract', wp1_pick', wp1_len', wp1_load', wp1_conv', wp1_store', wp1_idxAddr', wp1_append', wp1_mkIface', wp1_alloc', rd_t, rd_c, ok_t, ok_c, put_some, put_none, get_put, reduceIte, Nat.reduceEqDiff, AV.bool.injEq, Option.some.injEq, exists_eq_left', Option.map_some, Option.bind_some, opds_nil, opds_cons, opd_t, opd_c, aBin, aInt, decide_true, decide_false, negIf, wp1_nilCheck', wp1_fieldAddr', wp1_slice, op_slice, opdo_some, opdo_none, wp1_lit, op_lit, parts_nil, parts_cons, wp1_build, op_build, wp1_box, op_box, q7, wc_eq w1, aExtract, ex20, ex21, ex22]
      refine chunk_flag (d := s.dead) (bad := bad) (by simp only [get_put, reduceIte, Nat.reduceEqDiff, q13]) (by simp only [get_put, reduceIte, Nat.reduceEqDiff]) hF fun σ2 p13 s2 => ?_
      have p18 : σ2.get 18 = x := by rw [s2 18 (by omega) (by omega)]; simp only [get_put, reduceIte, Nat.reduceEqDiff]
      have p19 : σ2.get 19 = .bool body.isSome := by rw [s2 19 (by omega) (by omega)]; simp only [get_put, reduceIte, Nat.reduceEqDiff]
      have p12 : σ2.get 12 = lv := by rw [s2 12 (by omega) (by omega)]; simp only [get_put, reduceIte, Nat.reduceEqDiff, q12]
      have p17 : σ2.get 17 = .int .i64 k := by rw [s2 17 (by omega) (by omega)]; simp only [get_put, reduceIte, Nat.reduceEqDiff, q17]
      have keep : ∀ n, n < 12 ∨ n = 14 ∨ n = 15 → σ2.get n = σ.get n := by
        intro n hn
        rw [s2 n (by omega) (by omega)]
        simp only [get_put]
        repeat rw [if_neg (by omega)]
        exact s1 n (by omega)
      rw [i2] at p13
      cases body with
      | none =>
        simp only [a3_25, wpc_skip, wpc_ops, wpc_draw, wpc_seq, wpc_cond, wpc_block, wpc_loop, wpc_exit, wpc_scope, wpc_ret, seqQ_norm, seqQ_ret, seqQ_exit, blockQ'_norm, blockQ'_ret, blockQ'_exit, roundQ_norm, roundQ_ret, roundQ_exit, condK_true, condK_false, wpo_nil', wpo_none, wpo_some, opsK_apply, guardK_tt, guardK_ff, guardK_tf, guardK_ft, wp1_call, callK_ret, wp1_mv', wp1_bin', wp1_un', wp1_eq', wp1_extract', wp1_pick', wp1_len', wp1_load', wp1_conv', wp1_store', wp1_idxAddr', wp1_append', wp1_mkIface', wp1_alloc', rd_t, rd_c, ok_t, ok_c, put_some, put_none, get_put, reduceIte, Nat.reduceEqDiff, AV.bool.injEq, Option.some.injEq, exists_eq_left', Option.map_some, Option.bind_some, opds_nil, opds_cons, opd_t, opd_c, aBin, aInt, decide_true, decide_false, negIf, wp1_nilCheck', wp1_fieldAddr', wp1_slice, op_slice, opdo_some, opdo_none, wp1_lit, op_lit, parts_nil, parts_cons, wp1_build, op_build, wp1_box, op_box, p19, Option.isSome_none, aUn, Bool.not_false]
        refine hQ _ h1 s' bs' got hv1 lv cells ho1 hb1 kr1 (by rw [hno.2]; exact hsw) hno.1 (by omega) (by simpa using i1) gt1 (fun _ => i3 rfl) ?_ ?_ (c1.mono fun i e => .inl e) fun n hn => ?_
        · simp only [get_put, reduceIte, Nat.reduceEqDiff, p12]
        · simp only [get_put, reduceIte, Nat.reduceEqDiff, p13]
        · rw [← keep n hn]
          simp only [get_put]
          repeat rw [if_neg (by omega)]
      | some y =>
        obtain ⟨j1, j2⟩ := i4 y rfl
        simp only [Option.getD_some] at hx
        have xb : ∀ j, x.own = some j → b0 ≤ j ∧ lv.own ≠ some j := by
          intro j e
          have := (xown j e).1
          exact ⟨by omega, fun e2 => by have := hgt.ls.grown.ownLt ho e2; omega⟩
        have hlt : got.length < 1000000000000 := by have := hok.2.2; omega
        obtain ⟨lv2, h2, cc, ha, hL2, ho2, hlb, hown2⟩ := gt1.ls.snoc2 ho1 hx xb hb1 hlt
        have hxr := hx.row
        have y1 : aFill [AV.nils] [(0, 1, x)] = some [x] := by simp only [aFill, hxr, Option.bind_some]; rfl
        have y2 : [x].length = 1 * 1 := rfl
        have z1 : IntKind.wrap .i64 ((k : Int) + 1) = ((k + 1 : Nat) : Int) := wrap_nat (by omega) (by omega)
        simp only [a3_25, a3_26, a3_27, wpc_skip, wpc_ops, wpc_draw, wpc_seq, wpc_cond, wpc_block, wpc_loop, wpc_exit, wpc_scope, wpc_ret, seqQ_norm, seqQ_ret, seqQ_exit, blockQ'_norm, blockQ'_ret, blockQ'_exit, roundQ_norm, roundQ_ret, roundQ_exit, condK_true, condK_false, wpo_nil', wpo_none, wpo_some, opsK_apply, guardK_tt, guardK_ff, guardK_tf, guardK_ft, wp1_call, callK_ret, wp1_mv', wp1_bin', wp1_un', wp1_eq', wp1_extract', wp1_pick', wp1_len', wp1_load', wp1_conv', wp1_store', wp1_idxAddr', wp1_append', wp1_mkIface', wp1_alloc', rd_t, rd_c, ok_t, ok_c, put_some, put_none, get_put, reduceIte, Nat.reduceEqDiff, AV.bool.injEq, Option.some.injEq, exists_eq_left', Option.map_some, Option.bind_some, opds_nil, opds_cons, opd_t, opd_c, aBin, aInt, decide_true, decide_false, negIf, wp1_nilCheck', wp1_fieldAddr', wp1_slice, op_slice, opdo_some, opdo_none, wp1_lit, op_lit, parts_nil, parts_cons, wp1_build, op_build, wp1_box, op_box, p12, p17, p18, p19, Option.isSome_some, aUn, Bool.not_true, y1, if_pos y2, ha, z1]
        subst hb'
        have hg2 : Gt h2 lv2 (cells ++ [x]) (got ++ [y]) b0 hv1 := by
          refine ⟨hL2, fun j e => ⟨fun e2 => ?_, fun z hz e2 => ?_⟩, gt1.low⟩
          · rcases hown2 j e2 with e3 | e3
            · exact (gt1.dis j e).1 e3
            · have := kr1.acc.ownLt ho1 e; omega
          · simp only [List.mem_append, List.mem_singleton] at hz
            rcases hz with hz | rfl
            · exact (gt1.dis j e).2 z hz e2
            · exact (xown j e2).2 e
        have kr2 : Rd h2 id s' bs' hv1 := kr1.chg (hlb.chg (S := fun i => lv.own = some i) fun i e => e) (fun e => by have := (gt1.ls.new _ e).1; omega) fun i e e2 => (gt1.dis i e).1 e2
        refine ih (k + 1) s' bs' (got ++ [y]) hv1 lv2 (cells ++ [x]) h2 _ (by omega) (by omega) ho2 (Nat.le_trans hb1 hlb.1) kr2 (by rw [hno.2]; exact hsw) hno.1 (by simp; omega) i1 hg2 ?_ ?_ ?_ ?_ ?_ ?_ ?_ ?_ fun σ' h' s3 bs3 got3 hv3 lv3 cells3 a1 a2 a3 a4 a5 a6 a7 a8 a9 a10 a11 ac a12 =>
          hQ σ' h' s3 bs3 got3 hv3 lv3 cells3 a1 a2 a3 a4 a5 a6 a7 a8 a9 a10 a11 (((c1.mono fun i e => .inl e).trans (hlb.chg fun i e => .inr (gt1.ls.new i e).1)).trans ac) fun n hn => ?_
        · simp only [get_put, reduceIte, Nat.reduceEqDiff]; rw [keep 4 (by omega), g4]
        · simp only [get_put, reduceIte, Nat.reduceEqDiff]; rw [keep 6 (by omega), g6]
        · simp only [get_put, reduceIte, Nat.reduceEqDiff]; rw [keep 7 (by omega), g7]
        · simp only [get_put, reduceIte, Nat.reduceEqDiff]
        · simp only [get_put, reduceIte, Nat.reduceEqDiff, p13]
        · simp only [get_put, reduceIte, Nat.reduceEqDiff]; rw [keep 14 (by omega), g14]
        · simp only [get_put, reduceIte, Nat.reduceEqDiff]; rw [keep 15 (by omega), g15]
        · simp only [get_put, reduceIte, Nat.reduceEqDiff]
        · rw [a12 n hn, ← keep n hn]
          simp only [get_put]
          repeat rw [if_neg (by omega)]
    · simp only [seqQ_exit, roundQ_exit]
      exact hQ σ1 h s bs got hv lv cells ho hb0 kr hsw hok hgl hinv hgt (fun e => absurd e hne) (by rw [s1 12 (by omega), g12]) (by rw [s1 13 (by omega), g13]) .refl fun n hn => s1 n (by omega)
end Go.Fr
