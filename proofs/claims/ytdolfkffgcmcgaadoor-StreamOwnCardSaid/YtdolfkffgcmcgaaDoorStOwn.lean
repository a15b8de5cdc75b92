/-
  StreamOwn answers true.
-/
import Derived.Test.YtdolfkffgcmcgaaDoorStCalls2
set_option linter.unusedVariables false
set_option linter.unusedSimpArgs false
set_option maxRecDepth 20000
namespace Go.St
open Go.AM

theorem xor_byte : ∀ n : Nat, n < 256 → IntKind.wrap .u8 ((BitVec.ofInt 8 (n : Int) ^^^ BitVec.ofInt 8 255).toNat : Int) = ((UInt8.ofNat n ^^^ 255).toNat : Int) := by decide +kernel

/-- a slice that is written over: its own object alone changes -/
theorem own_loop1 {v : AV} {n : Nat} (hsm : n < 1000000000000) (hne : n ≠ 0 → v.own ≠ none) {Q : AExit → St → Prop} :
    ∀ (f i : Nat) (bs : List UInt8) (h : Heap) (σ : Slots), n - i < f → i ≤ n → HeapOk h → Bytes h v bs → bs.length = n → σ.get 4 = v → σ.get 39 = .int .i64 n → σ.get 40 = .int .i64 i →
      (∀ σ' h', HeapOk h' → Chg (fun j => v.own = some j) h h' → (∀ k, k < 5 → σ'.get k = σ.get k) → Q (.exit 0) ⟨σ', h'⟩) → WPr env a4_l12 ⟨σ, h⟩ Q := by
  intro f
  induction f with
  | zero => intro i bs h σ h1; omega
  | succ f ih =>
    intro i bs h σ hf hi ho hb hl g5 g80 g81 hQ
    refine wpr_round' fun b hb' => ?_
    by_cases c1 : i < n
    · obtain ⟨p, cc, x1, x2, _⟩ := hb.elem (kd := .i64) (i := i) (by omega)
      obtain ⟨d, hd⟩ : ∃ d, d = bs.getD i 0 := ⟨_, rfl⟩
      rw [← hd] at x2
      obtain ⟨p', h', e1, e2, ho', hb2, hc⟩ := hb.set ho (i := i) (by omega) (hne (by omega)) (d ^^^ 255)
      rw [x1] at e1
      cases e1
      have hx : aBin .xor (byteAV d) (.int .u8 255) = some (byteAV (d ^^^ 255)) := by
        simp only [aBin, byteAV, if_pos, aInt, IntKind.bits]
        congr 2
        have := xor_byte d.toNat d.toNat_lt
        rw [UInt8.ofNat_toNat] at this
        exact this
      have x2' : aLoad h false 1 p = some ⟨.int .u8 (d.toNat : Int), h, cc⟩ := x2
      have z0 : ((i : Int) < (n : Int)) = True := eq_true (by omega)
      have z1 : IntKind.wrap .i64 ((i : Int) + 1) = ((i + 1 : Nat) : Int) := wrap_nat (by omega) (by omega)
      have hx' : AV.int .u8 (IntKind.wrap .u8 ((BitVec.ofInt IntKind.u8.bits (d.toNat : Int) ^^^ BitVec.ofInt IntKind.u8.bits 255).toNat : Int)) = byteAV (d ^^^ 255) := by
        simp only [aBin, byteAV, if_pos, aInt, Option.some.injEq] at hx
        exact hx
      simp only [a4_l12, a4_8, a4_9, a4_10, a4_11, wpc_skip, wpc_ops, wpc_draw, wpc_seq, wpc_cond, wpc_block, wpc_loop, wpc_exit, wpc_scope, wpc_ret, seqQ_norm, seqQ_ret, seqQ_exit, blockQ'_norm, blockQ'_ret, blockQ'_exit, roundQ_norm, roundQ_ret, roundQ_exit, condK_true, condK_false, wpo_nil', wpo_none, wpo_some, opsK_apply, guardK_tt, guardK_ff, guardK_tf, guardK_ft, wp1_call, callK_ret, wp1_mv', wp1_bin', wp1_un', wp1_eq', wp1_extract', wp1_pick', wp1_len', wp1_load', wp1_conv', wp1_store', wp1_idxAddr', wp1_append', wp1_mkIface', wp1_alloc', rd_t, rd_c, ok_t, ok_c, put_some, put_none, get_put, reduceIte, Nat.reduceEqDiff, AV.bool.injEq, Option.some.injEq, exists_eq_left', Option.map_some, Option.bind_some, opds_nil, opds_cons, opd_t, opd_c, aBin, aInt, decide_true, decide_false, negIf, wp1_nilCheck', wp1_fieldAddr', wp1_slice, op_slice, opdo_some, opdo_none, wp1_lit, op_lit, parts_nil, parts_cons, wp1_build, op_build, wp1_box, op_box, g5, g80, g81, z0, x1, x2', hx', e2, z1]
      subst hb'
      refine ih (i + 1) _ h' _ (by omega) (by omega) ho' hb2 (by simpa using hl) ?_ ?_ ?_ ?_
      · simp only [get_put, reduceIte, Nat.reduceEqDiff, g5]
      · simp only [get_put, reduceIte, Nat.reduceEqDiff, g80]
      · simp only [get_put, reduceIte, Nat.reduceEqDiff]
      · intro σ' h2 o2 c2 s2
        refine hQ σ' h2 o2 (hc.trans c2) fun k hk => ?_
        rw [s2 k hk]
        simp only [get_put]
        repeat rw [if_neg (by omega)]
    · have z0 : ((i : Int) < (n : Int)) = False := eq_false (by omega)
      simp only [a4_l12, a4_8, wpc_skip, wpc_ops, wpc_draw, wpc_seq, wpc_cond, wpc_block, wpc_loop, wpc_exit, wpc_scope, wpc_ret, seqQ_norm, seqQ_ret, seqQ_exit, blockQ'_norm, blockQ'_ret, blockQ'_exit, roundQ_norm, roundQ_ret, roundQ_exit, condK_true, condK_false, wpo_nil', wpo_none, wpo_some, opsK_apply, guardK_tt, guardK_ff, guardK_tf, guardK_ft, wp1_call, callK_ret, wp1_mv', wp1_bin', wp1_un', wp1_eq', wp1_extract', wp1_pick', wp1_len', wp1_load', wp1_conv', wp1_store', wp1_idxAddr', wp1_append', wp1_mkIface', wp1_alloc', rd_t, rd_c, ok_t, ok_c, put_some, put_none, get_put, reduceIte, Nat.reduceEqDiff, AV.bool.injEq, Option.some.injEq, exists_eq_left', Option.map_some, Option.bind_some, opds_nil, opds_cons, opd_t, opd_c, aBin, aInt, decide_true, decide_false, negIf, wp1_nilCheck', wp1_fieldAddr', wp1_slice, op_slice, opdo_some, opdo_none, wp1_lit, op_lit, parts_nil, parts_cons, wp1_build, op_build, wp1_box, op_box, g5, g80, g81, z0]
      refine hQ _ h ho .refl fun k hk => ?_
      simp only [get_put]
      rw [if_neg (by omega)]

theorem own_loop2 {v : AV} {n : Nat} (hsm : n < 1000000000000) (hne : n ≠ 0 → v.own ≠ none) {Q : AExit → St → Prop} :
    ∀ (f i : Nat) (bs : List UInt8) (h : Heap) (σ : Slots), n - i < f → i ≤ n → HeapOk h → Bytes h v bs → bs.length = n → σ.get 6 = v → σ.get 68 = .int .i64 n → σ.get 69 = .int .i64 i →
      (∀ σ' h', HeapOk h' → Chg (fun j => v.own = some j) h h' → (∀ k, k < 9 → σ'.get k = σ.get k) → Q (.exit 2) ⟨σ', h'⟩) → WPr env a4_l22 ⟨σ, h⟩ Q := by
  intro f
  induction f with
  | zero => intro i bs h σ h1; omega
  | succ f ih =>
    intro i bs h σ hf hi ho hb hl g5 g80 g81 hQ
    refine wpr_round' fun b hb' => ?_
    by_cases c1 : i < n
    · obtain ⟨p, h', e1, e2, ho', hb2, hc⟩ := hb.set ho (i := i) (by omega) (hne (by omega)) 7
      have e2' : aStore h 1 p (.int .u8 7) = some ⟨.undef, h', .write⟩ := e2
      have z0 : ((i : Int) < (n : Int)) = True := eq_true (by omega)
      have z1 : IntKind.wrap .i64 ((i : Int) + 1) = ((i + 1 : Nat) : Int) := wrap_nat (by omega) (by omega)
      simp only [a4_l22, a4_18, a4_19, a4_20, a4_21, wpc_skip, wpc_ops, wpc_draw, wpc_seq, wpc_cond, wpc_block, wpc_loop, wpc_exit, wpc_scope, wpc_ret, seqQ_norm, seqQ_ret, seqQ_exit, blockQ'_norm, blockQ'_ret, blockQ'_exit, roundQ_norm, roundQ_ret, roundQ_exit, condK_true, condK_false, wpo_nil', wpo_none, wpo_some, opsK_apply, guardK_tt, guardK_ff, guardK_tf, guardK_ft, wp1_call, callK_ret, wp1_mv', wp1_bin', wp1_un', wp1_eq', wp1_extract', wp1_pick', wp1_len', wp1_load', wp1_conv', wp1_store', wp1_idxAddr', wp1_append', wp1_mkIface', wp1_alloc', rd_t, rd_c, ok_t, ok_c, put_some, put_none, get_put, reduceIte, Nat.reduceEqDiff, AV.bool.injEq, Option.some.injEq, exists_eq_left', Option.map_some, Option.bind_some, opds_nil, opds_cons, opd_t, opd_c, aBin, aInt, decide_true, decide_false, negIf, wp1_nilCheck', wp1_fieldAddr', wp1_slice, op_slice, opdo_some, opdo_none, wp1_lit, op_lit, parts_nil, parts_cons, wp1_build, op_build, wp1_box, op_box, g5, g80, g81, z0, e1, e2', z1]
      subst hb'
      refine ih (i + 1) _ h' _ (by omega) (by omega) ho' hb2 (by simpa using hl) ?_ ?_ ?_ ?_
      · simp only [get_put, reduceIte, Nat.reduceEqDiff, g5]
      · simp only [get_put, reduceIte, Nat.reduceEqDiff, g80]
      · simp only [get_put, reduceIte, Nat.reduceEqDiff]
      · intro σ' h2 o2 c2 s2
        refine hQ σ' h2 o2 (hc.trans c2) fun k hk => ?_
        rw [s2 k hk]
        simp only [get_put]
        repeat rw [if_neg (by omega)]
    · have z0 : ((i : Int) < (n : Int)) = False := eq_false (by omega)
      simp only [a4_l22, a4_18, wpc_skip, wpc_ops, wpc_draw, wpc_seq, wpc_cond, wpc_block, wpc_loop, wpc_exit, wpc_scope, wpc_ret, seqQ_norm, seqQ_ret, seqQ_exit, blockQ'_norm, blockQ'_ret, blockQ'_exit, roundQ_norm, roundQ_ret, roundQ_exit, condK_true, condK_false, wpo_nil', wpo_none, wpo_some, opsK_apply, guardK_tt, guardK_ff, guardK_tf, guardK_ft, wp1_call, callK_ret, wp1_mv', wp1_bin', wp1_un', wp1_eq', wp1_extract', wp1_pick', wp1_len', wp1_load', wp1_conv', wp1_store', wp1_idxAddr', wp1_append', wp1_mkIface', wp1_alloc', rd_t, rd_c, ok_t, ok_c, put_some, put_none, get_put, reduceIte, Nat.reduceEqDiff, AV.bool.injEq, Option.some.injEq, exists_eq_left', Option.map_some, Option.bind_some, opds_nil, opds_cons, opd_t, opd_c, aBin, aInt, decide_true, decide_false, negIf, wp1_nilCheck', wp1_fieldAddr', wp1_slice, op_slice, opdo_some, opdo_none, wp1_lit, op_lit, parts_nil, parts_cons, wp1_build, op_build, wp1_box, op_box, g5, g80, g81, z0]
      refine hQ _ h ho .refl fun k hk => ?_
      simp only [get_put]
      rw [if_neg (by omega)]

/-- the second reading, and what the law says -/
theorem own_end {h : Heap} {σ : Slots} {id : Nat} {bv : AV} {b : List UInt8} {t o : Sd} {tu tc ou oc : AV} (hb : ∀ h, Bytes h bv b) (hsm : b.length ≤ 1000) (ho : HeapOk h) (k : Sr h id 1 false t o tu tc ou oc) (hc : t.c = b) (hr : t.read ≤ 1000)
    (g0 : σ.get 0 = bv) (g3 : σ.get 3 = .ptr id 0 0) (g8 : σ.get 8 = .str b) {Q : AExit → St → Prop} (hQ : ∀ σ' h', σ'.get 2 = .bool true → Q .ret ⟨σ', h'⟩) : wpc env (.seq (.ops a4_23) (.seq (.ops a4_24) .ret)) ⟨σ, h⟩ Q := by
  have l0 := (hb h).lenOp
  obtain ⟨o1, ev, hx⟩ := read_spec (n := (b.length : Int)) ho k (.inr rfl) (by rw [hc]; omega) (by omega)
  have hR : readE false t b.length = none := by simp only [readE]; rw [if_neg (by omega), if_neg (by simp)]
  have hN : readN t b.length = b.length := by simp only [readN]; rw [hc]; omega
  rcases hx with ⟨hx, _⟩ | ⟨_, h1, tc1, x, ho1, k1, c1, own1, ha, xown, xne, rfl⟩
  · exact absurd hR hx
  rw [hN, hc, List.take_length] at ha
  have w1 : WC env 14 [.ptr id 0 0, .int .i64 1, .int .i64 b.length] h (fun o => o = _) := ⟨_, ev, rfl⟩
  obtain ⟨c2, _, b2⟩ := ha.toBytes.b2s
  obtain ⟨c3, _, b3⟩ := (hb h1).b2s
  have z := Go.AM.eq_self b
  simp only [a4_23, a4_24, wpc_skip, wpc_ops, wpc_draw, wpc_seq, wpc_cond, wpc_block, wpc_loop, wpc_exit, wpc_scope, wpc_ret, seqQ_norm, seqQ_ret, seqQ_exit, blockQ'_norm, blockQ'_ret, blockQ'_exit, roundQ_norm, roundQ_ret, roundQ_exit, condK_true, condK_false, wpo_nil', wpo_none, wpo_some, opsK_apply, guardK_tt, guardK_ff, guardK_tf, guardK_ft, wp1_call, callK_ret, wp1_mv', wp1_bin', wp1_un', wp1_eq', wp1_extract', wp1_pick', wp1_len', wp1_load', wp1_conv', wp1_store', wp1_idxAddr', wp1_append', wp1_mkIface', wp1_alloc', rd_t, rd_c, ok_t, ok_c, put_some, put_none, get_put, reduceIte, Nat.reduceEqDiff, AV.bool.injEq, Option.some.injEq, exists_eq_left', Option.map_some, Option.bind_some, opds_nil, opds_cons, opd_t, opd_c, aBin, aInt, decide_true, decide_false, negIf, wp1_nilCheck', wp1_fieldAddr', wp1_slice, op_slice, opdo_some, opdo_none, wp1_lit, op_lit, parts_nil, parts_cons, wp1_build, op_build, wp1_box, op_box, g0, g3, g8, l0, wc_eq w1, aExtract, ex0, ex1, b2, b3, aStr, z, aPick, wc_eq (alive_spec _)]
  exact hQ _ _ (by simp only [get_put, reduceIte, Nat.reduceEqDiff])

theorem own_long {bv : AV} {b : List UInt8} (hb : ∀ h, Bytes h bv b) (hl : 1000 < b.length) : WC env 4 [bv] .empty (fun o => ∃ h', o = .ret ⟨.bool true, h', .write⟩) := by
  have w1 := new_spec .empty
  obtain ⟨h1, eh1⟩ : ∃ h, h = Heap.empty.new (SE 0 false .zero .zero .nils .nils .nils .nils) := ⟨_, rfl⟩
  rw [← eh1] at w1
  have l0 := (hb h1).lenOp
  have z0 : ((b.length : Int) > 1000) = True := eq_true (by omega)
  refine call_body rfl rfl (.inl rfl) ?_
  simp only [a4, a4_0, a4_1, a4_2, a4_3, Slots.ofList, wpc_skip, wpc_ops, wpc_draw, wpc_seq, wpc_cond, wpc_block, wpc_loop, wpc_exit, wpc_scope, wpc_ret, seqQ_norm, seqQ_ret, seqQ_exit, blockQ'_norm, blockQ'_ret, blockQ'_exit, roundQ_norm, roundQ_ret, roundQ_exit, condK_true, condK_false, wpo_nil', wpo_none, wpo_some, opsK_apply, guardK_tt, guardK_ff, guardK_tf, guardK_ft, wp1_call, callK_ret, wp1_mv', wp1_bin', wp1_un', wp1_eq', wp1_extract', wp1_pick', wp1_len', wp1_load', wp1_conv', wp1_store', wp1_idxAddr', wp1_append', wp1_mkIface', wp1_alloc', rd_t, rd_c, ok_t, ok_c, put_some, put_none, get_put, reduceIte, Nat.reduceEqDiff, AV.bool.injEq, Option.some.injEq, exists_eq_left', Option.map_some, Option.bind_some, opds_nil, opds_cons, opd_t, opd_c, aBin, aInt, decide_true, decide_false, negIf, wp1_nilCheck', wp1_fieldAddr', wp1_slice, op_slice, opdo_some, opdo_none, wp1_lit, op_lit, parts_nil, parts_cons, wp1_build, op_build, wp1_box, op_box, wc_eq w1, aEq_ptr, l0, z0, aPick, wc_eq (alive_spec _), Bool.not_false]
  exact ⟨[.bool true], by simp only [Env.results, Option.map_some, get_put, reduceIte, Nat.reduceEqDiff], _, rfl⟩

theorem own_short {bv : AV} {b : List UInt8} (hb : ∀ h, Bytes h bv b) (hl : b.length ≤ 1000) : WC env 4 [bv] .empty (fun o => ∃ h', o = .ret ⟨.bool true, h', .write⟩) := by
  have w1 := new_spec .empty
  obtain ⟨h1, eh1⟩ : ∃ h, h = Heap.empty.new (SE 0 false .zero .zero .nils .nils .nils .nils) := ⟨_, rfl⟩
  rw [← eh1] at w1
  have ho1 : HeapOk h1 := by rw [eh1]; exact HeapOk.empty.new _
  have a1 : h1.at_ Heap.empty.next 0 = some (SE 0 false .zero .zero .nils .nils .nils .nils) := by rw [eh1]; exact at_new _
  have i1 : Heap.empty.next < h1.next := ho1.lt a1
  obtain ⟨id, hid⟩ : ∃ id, id = Heap.empty.next := ⟨_, rfl⟩
  rw [← hid] at w1 a1 i1
  have l0 : ∀ h, aLenOp false h bv = some ⟨.int .i64 b.length, h, .none⟩ := fun h => (hb h).lenOp
  have z0 : ((b.length : Int) > 1000) = False := eq_false (by omega)
  obtain ⟨c, h2, kc, ha, hacc, hclen, hle2, ho2, hown, hmut⟩ := append_own ho1 (hb h1) (by omega)
  have k2 : Sr h2 id 0 false .zero .zero .nils .nils .nils .nils := ⟨hle2.2 _ _ _ a1, .nils, .nils, .nils, .nils, by simp [AV.own], fun i => by simp [AV.own]⟩
  have cid : ∀ i, c.own = some i → i ≠ id := fun i e => by have := (hown i e).1; omega
  obtain ⟨o1, ev1, h3, tu3, ho3, k3, c3, own3, rfl⟩ := send_spec ho2 k2 (.inl rfl) hacc.toBytes (fun i e => ⟨cid i e, by simp [AV.own]⟩) (by simp [Sd.zero]) (by simp [Sd.zero]; omega)
  have hE1 : sendE false .zero b = none := by simp only [sendE]; rw [if_neg (by simp), if_neg (by simp [Sd.zero]; omega)]
  have hS1 : sendS false .zero b = { Sd.zero with u := b, sent := b.length } := by
    simp only [sendS]; rw [if_neg (by simp), if_neg (by simp [Sd.zero]; omega)]; simp [Sd.zero]
  rw [hS1] at k3
  have w3 : WC env 12 [.ptr id 0 0, .int .i64 0, c] h2 (fun o => o = .ret ⟨.nili, h3, .write⟩) := ⟨_, ev1, by rw [hE1]; rfl⟩
  have cc3 := hacc.toBytes.chg c3 fun i e x => x.elim (fun x => cid i e x) fun x => by cases x
  have c3t : ∀ i, c.own = some i → tu3.own ≠ some i := fun i e e2 => by
    rcases own3 i e2 with e3 | e3
    · cases e3
    · have := (hown i e).2; omega
  obtain ⟨o2, ev2, h4, tu4, ho4, k4, c4, own4, rfl⟩ := send_spec ho3 k3 (.inl rfl) cc3 (fun i e => ⟨cid i e, c3t i e⟩) (by dsimp only; omega) (by dsimp only; omega)
  have hE2 : sendE false { Sd.zero with u := b, sent := b.length } b = none := by simp only [sendE]; rw [if_neg (by simp), if_neg (by omega)]
  have hS2 : sendS false { Sd.zero with u := b, sent := b.length } b = { Sd.zero with u := b ++ b, sent := b.length + b.length } := by
    simp only [sendS]; rw [if_neg (by simp), if_neg (by omega)]
  rw [hS2] at k4
  have w4 : WC env 12 [.ptr id 0 0, .int .i64 0, c] h3 (fun o => o = .ret ⟨.nili, h4, .write⟩) := ⟨_, ev2, by rw [hE2]; rfl⟩
  have n3 := c3.1
  have cc4 := cc3.chg c4 fun i e x => x.elim (fun x => cid i e x) fun x => c3t i e x
  have c4t : ∀ i, c.own = some i → tu4.own ≠ some i := fun i e e2 => by
    rcases own4 i e2 with e3 | e3
    · exact c3t i e e3
    · have := (hown i e).2; omega
  have lc : aLenOp false h4 c = some ⟨.int .i64 b.length, h4, .none⟩ := cc4.lenOp
  refine call_body rfl rfl (.inl rfl) ?_
  simp only [a4, a4_0, a4_1, a4_2, a4_4, a4_5, a4_7, Slots.ofList, wpc_skip, wpc_ops, wpc_draw, wpc_seq, wpc_cond, wpc_block, wpc_loop, wpc_exit, wpc_scope, wpc_ret, seqQ_norm, seqQ_ret, seqQ_exit, blockQ'_norm, blockQ'_ret, blockQ'_exit, roundQ_norm, roundQ_ret, roundQ_exit, condK_true, condK_false, wpo_nil', wpo_none, wpo_some, opsK_apply, guardK_tt, guardK_ff, guardK_tf, guardK_ft, wp1_call, callK_ret, wp1_mv', wp1_bin', wp1_un', wp1_eq', wp1_extract', wp1_pick', wp1_len', wp1_load', wp1_conv', wp1_store', wp1_idxAddr', wp1_append', wp1_mkIface', wp1_alloc', rd_t, rd_c, ok_t, ok_c, put_some, put_none, get_put, reduceIte, Nat.reduceEqDiff, AV.bool.injEq, Option.some.injEq, exists_eq_left', Option.map_some, Option.bind_some, opds_nil, opds_cons, opd_t, opd_c, aBin, aInt, decide_true, decide_false, negIf, wp1_nilCheck', wp1_fieldAddr', wp1_slice, op_slice, opdo_some, opdo_none, wp1_lit, op_lit, parts_nil, parts_cons, wp1_build, op_build, wp1_box, op_box, wc_eq w1, aEq_ptr, l0, z0, aPick, aFill, List.length_nil, Nat.mul_one, ha, wc_eq w3, wc_eq w4, eq_nil, Bool.not_true, lc]
  refine own_loop1 (n := b.length) (by omega) (fun e => hmut (fun e2 => e (by rw [e2]; rfl))) (b.length + 1) 0 b h4 _ (by omega) (by omega) ho4 cc4 rfl ?_ ?_ ?_ fun σ5 h5 ho5 c5 s5 => ?_
  · simp only [get_put, reduceIte, Nat.reduceEqDiff]
  · simp only [get_put, reduceIte, Nat.reduceEqDiff]
  · simp only [get_put, reduceIte, Nat.reduceEqDiff]; rfl
  have k5 := k4.chg c5 (fun e => cid _ e rfl) fun i f e => by
    rcases f with f | f | f | f
    · exact c4t i e f
    · cases f
    · cases f
    · cases f
  have p0 : σ5.get 0 = bv := by rw [s5 0 (by omega)]; simp only [get_put, reduceIte, Nat.reduceEqDiff]
  have p3 : σ5.get 3 = .ptr id 0 0 := by rw [s5 3 (by omega)]; simp only [get_put, reduceIte, Nat.reduceEqDiff]
  obtain ⟨o3, ev3, hm⟩ := move_spec (n := ((b.length + b.length : Nat) : Int)) ho5 k5 (.inl rfl) (by simp; omega) (by simp [Sd.zero]) (by simp [Sd.zero])
  have hM : moveE false { Sd.zero with u := b ++ b, sent := b.length + b.length } .zero ((b.length + b.length : Nat) : Int) = none := by
    simp only [moveE]
    rw [if_neg (by simp), if_neg (by omega), if_neg (by simp [Sd.zero]), if_neg (by simp), if_neg (by simp [Sd.zero]; omega)]
  rcases hm with ⟨hm, _⟩ | ⟨_, h6, tu6, oc6, ho6, k6, c6, own6, own6', rfl⟩
  · exact absurd hM hm
  simp only [Int.toNat_natCast] at k6
  have x1 : (b ++ b).drop (b.length + b.length) = [] := by simp
  have x2 : Sd.zero.c ++ (b ++ b).take (b.length + b.length) = b ++ b := by rw [List.take_of_length_le (by simp)]; rfl
  rw [x1, x2] at k6
  have w5 : WC env 13 [.ptr id 0 0, .int .i64 0, .int .i64 ((b.length + b.length : Nat) : Int)] h5 (fun o => o = .ret ⟨.nili, h6, .write⟩) := ⟨_, ev3, rfl⟩
  have e2 : IntKind.wrap .i64 (2 * (b.length : Int)) = ((b.length + b.length : Nat) : Int) := wrap_nat (by omega) (by omega)
  have k6f := k6.flip (.inl rfl)
  obtain ⟨o4, ev4, hr⟩ := read_spec (n := (b.length : Int)) (e := 1) ho6 k6f (.inr rfl) (by simp; omega) (by simp [Sd.zero])
  rcases hr with ⟨hr, _⟩ | ⟨_, h7, tc7, x, ho7, k7, c7, own7, hx, xown, xne, rfl⟩
  · exact absurd (show readE false _ (b.length : Int) = none by simp only [readE]; rw [if_neg (by omega), if_neg (by simp)]) hr
  have hN : readN { Sd.zero with c := b ++ b, moved := Sd.zero.moved + (b.length + b.length) } (b.length : Int) = b.length := by
    simp only [readN, List.length_append]; omega
  rw [hN] at k7 hx xne
  have x3 : (b ++ b).take b.length = b := by simp
  have x4 : (b ++ b).drop b.length = b := by simp
  dsimp only at hx k7 xne
  rw [x3] at hx xne
  rw [x4] at k7
  have w6 : WC env 14 [.ptr id 0 0, .int .i64 1, .int .i64 b.length] h6 (fun o => o = .ret ⟨.tup [x, .nili], h7, .write⟩) := ⟨_, ev4, rfl⟩
  obtain ⟨cx, _, bx⟩ := hx.toBytes.b2s
  have lx : aLenOp false h7 x = some ⟨.int .i64 b.length, h7, .none⟩ := hx.toBytes.lenOp
  simp only [blockQ'_exit, reduceIte, seqQ_norm, wpc_seq, a4_13, a4_15, a4_16, a4_17, wpc_skip, wpc_ops, wpc_draw, wpc_seq, wpc_cond, wpc_block, wpc_loop, wpc_exit, wpc_scope, wpc_ret, seqQ_norm, seqQ_ret, seqQ_exit, blockQ'_norm, blockQ'_ret, blockQ'_exit, roundQ_norm, roundQ_ret, roundQ_exit, condK_true, condK_false, wpo_nil', wpo_none, wpo_some, opsK_apply, guardK_tt, guardK_ff, guardK_tf, guardK_ft, wp1_call, callK_ret, wp1_mv', wp1_bin', wp1_un', wp1_eq', wp1_extract', wp1_pick', wp1_len', wp1_load', wp1_conv', wp1_store', wp1_idxAddr', wp1_append', wp1_mkIface', wp1_alloc', rd_t, rd_c, ok_t, ok_c, put_some, put_none, get_put, reduceIte, Nat.reduceEqDiff, AV.bool.injEq, Option.some.injEq, exists_eq_left', Option.map_some, Option.bind_some, opds_nil, opds_cons, opd_t, opd_c, aBin, aInt, decide_true, decide_false, negIf, wp1_nilCheck', wp1_fieldAddr', wp1_slice, op_slice, opdo_some, opdo_none, wp1_lit, op_lit, parts_nil, parts_cons, wp1_build, op_build, wp1_box, op_box, p0, p3, l0, e2, wc_eq w5, eq_nil, Bool.not_true, wc_eq w6, aExtract, ex0, ex1, bx, lx]
  refine own_loop2 (n := b.length) (by omega) (fun e => xne (fun e2 => e (by rw [e2]; rfl))) (b.length + 1) 0 b h7 _ (by omega) (by omega) ho7 hx.toBytes rfl ?_ ?_ ?_ fun σ8 h8 ho8 c8 s8 => ?_
  · simp only [get_put, reduceIte, Nat.reduceEqDiff]
  · simp only [get_put, reduceIte, Nat.reduceEqDiff]
  · simp only [get_put, reduceIte, Nat.reduceEqDiff]; rfl
  have xlt : ∀ i, x.own = some i → h6.next ≤ i := fun i e => (xown i e).1
  have i6 : id < h6.next := ho6.lt k6.hat
  have k8 := k7.chg c8 (fun e => by have := xlt _ e; omega) fun i f e => by
    have := xlt i e
    rcases f with f | f | f | f
    · have := k6.aou.ownLt ho6 f; omega
    · exact (xown i e).2 f
    · have := k6.atu.ownLt ho6 f; omega
    · have := k6.atc.ownLt ho6 f; omega
  simp only [blockQ'_exit, reduceIte, seqQ_norm]
  refine own_end hb hl ho8 k8 rfl (by simp [Sd.zero]; omega) ?_ ?_ ?_ fun σ' h' g => ⟨[.bool true], by simp only [Env.results, Option.map_some, g], h', rfl⟩
  · rw [s8 0 (by omega)]; simp only [get_put, reduceIte, Nat.reduceEqDiff, p0]
  · rw [s8 3 (by omega)]; simp only [get_put, reduceIte, Nat.reduceEqDiff, p3]
  · rw [s8 8 (by omega)]; simp only [get_put, reduceIte, Nat.reduceEqDiff]

theorem own_spec {bv : AV} {b : List UInt8} (hb : ∀ h, Bytes h bv b) : WC env 4 [bv] .empty (fun o => ∃ h', o = .ret ⟨.bool true, h', .write⟩) := by
  by_cases c : b.length ≤ 1000
  · exact own_short hb c
  · exact own_long hb (by omega)
end Go.St
