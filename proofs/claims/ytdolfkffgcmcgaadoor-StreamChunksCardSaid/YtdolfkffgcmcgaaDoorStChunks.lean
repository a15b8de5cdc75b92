/-
  StreamChunks answers true.
-/
import Derived.Test.YtdolfkffgcmcgaaDoorStCalls2
set_option linter.unusedVariables false
set_option linter.unusedSimpArgs false
set_option maxRecDepth 20000
namespace Go.St
open Go.AM

theorem conv_int {h : Heap} {k k' : IntKind} {x : Int} : aConv h (.int k) (.int k' x) = some ⟨.int k (IntKind.wrap k x), h, .none⟩ := by
  simp [aConv]

theorem chunk_n1 {σ : Slots} {h : Heap} {pv : AV} {ps : List UInt8} {i : Nat} (hp : ∀ h, Bytes h pv ps) (hi : i < 1000000000000) (g1 : σ.get 1 = pv) (g8 : σ.get 8 = .int .i64 i) (g9 : σ.get 9 = .int .i64 1) {Q : AExit → St → Prop}
    (hQ : ∀ σ' n, 1 ≤ n → n ≤ 256 → σ'.get 9 = .int .i64 (n : Nat) → (∀ k, k < 9 → σ'.get k = σ.get k) → Q .norm ⟨σ', h⟩) : wpc env (.seq (.ops a3_9) (.cond (.t 33) (.ops a3_10) .skip)) ⟨σ, h⟩ Q := by
  have l0 := (hp h).lenOp
  by_cases c : ps = []
  · have z0 : ((ps.length : Int) > 0) = False := eq_false (by simp [c])
    simp only [a3_9, wpc_skip, wpc_ops, wpc_draw, wpc_seq, wpc_cond, wpc_block, wpc_loop, wpc_exit, wpc_scope, wpc_ret, seqQ_norm, seqQ_ret, seqQ_exit, blockQ'_norm, blockQ'_ret, blockQ'_exit, roundQ_norm, roundQ_ret, roundQ_exit, condK_true, condK_false, wpo_nil', wpo_none, wpo_some, opsK_apply, guardK_tt, guardK_ff, guardK_tf, guardK_ft, wp1_call, callK_ret, wp1_mv', wp1_bin', wp1_un', wp1_eq', wp1_extract', wp1_pick', wp1_len', wp1_load', wp1_conv', wp1_store', wp1_idxAddr', wp1_append', wp1_mkIface', wp1_alloc', rd_t, rd_c, ok_t, ok_c, put_some, put_none, get_put, reduceIte, Nat.reduceEqDiff, AV.bool.injEq, Option.some.injEq, exists_eq_left', Option.map_some, Option.bind_some, opds_nil, opds_cons, opd_t, opd_c, aBin, aInt, decide_true, decide_false, negIf, wp1_nilCheck', wp1_fieldAddr', wp1_slice, op_slice, opdo_some, opdo_none, wp1_lit, op_lit, parts_nil, parts_cons, wp1_build, op_build, wp1_box, op_box, g1, g8, g9, l0, z0]
    refine hQ _ 1 (by omega) (by omega) (by simp only [get_put, reduceIte, Nat.reduceEqDiff, g9]; rfl) fun k hk => ?_
    simp only [get_put]
    repeat rw [if_neg (by omega)]
  · have hpos : 0 < ps.length := List.length_pos_iff.2 c
    have z0 : ((ps.length : Int) > 0) = True := eq_true (by omega)
    have z1 : ((ps.length : Int) = 0) = False := eq_false (by omega)
    obtain ⟨j, hj⟩ : ∃ j, j = i % ps.length := ⟨_, rfl⟩
    have hjl : j < ps.length := by rw [hj]; exact Nat.mod_lt _ hpos
    have e1 : (i : Int).tmod (ps.length : Int) = (j : Int) := by rw [hj]; rfl
    obtain ⟨p, cc, x1, x2, _⟩ := (hp h).elem (kd := .i64) hjl
    obtain ⟨d, hd⟩ : ∃ d, d = (ps.getD j 0).toNat := ⟨_, rfl⟩
    have hd2 : d < 256 := by rw [hd]; exact (ps.getD j 0).toNat_lt
    have x2' : aLoad h false 1 p = some ⟨.int .u8 (d : Int), h, cc⟩ := by rw [x2, hd]; rfl
    have e2 : IntKind.wrap .i64 (d : Int) = (d : Int) := wrap_nat rfl (by omega)
    have e3 : IntKind.wrap .i64 (1 + (d : Int)) = ((1 + d : Nat) : Int) := wrap_nat (by omega) (by omega)
    simp only [a3_9, a3_10, wpc_skip, wpc_ops, wpc_draw, wpc_seq, wpc_cond, wpc_block, wpc_loop, wpc_exit, wpc_scope, wpc_ret, seqQ_norm, seqQ_ret, seqQ_exit, blockQ'_norm, blockQ'_ret, blockQ'_exit, roundQ_norm, roundQ_ret, roundQ_exit, condK_true, condK_false, wpo_nil', wpo_none, wpo_some, opsK_apply, guardK_tt, guardK_ff, guardK_tf, guardK_ft, wp1_call, callK_ret, wp1_mv', wp1_bin', wp1_un', wp1_eq', wp1_extract', wp1_pick', wp1_len', wp1_load', wp1_conv', wp1_store', wp1_idxAddr', wp1_append', wp1_mkIface', wp1_alloc', rd_t, rd_c, ok_t, ok_c, put_some, put_none, get_put, reduceIte, Nat.reduceEqDiff, AV.bool.injEq, Option.some.injEq, exists_eq_left', Option.map_some, Option.bind_some, opds_nil, opds_cons, opd_t, opd_c, aBin, aInt, decide_true, decide_false, negIf, wp1_nilCheck', wp1_fieldAddr', wp1_slice, op_slice, opdo_some, opdo_none, wp1_lit, op_lit, parts_nil, parts_cons, wp1_build, op_build, wp1_box, op_box, g1, g8, g9, l0, z0, z1, e1, x1, x2', conv_int, e2, e3]
    refine hQ _ (1 + d) (by omega) (by omega) (by simp only [get_put, reduceIte, Nat.reduceEqDiff]) fun k hk => ?_
    simp only [get_put]
    repeat rw [if_neg (by omega)]

theorem chunk_n2 {σ : Slots} {h : Heap} {bv : AV} {b : List UInt8} {i at_ n : Nat} (hb : ∀ h, Bytes h bv b) (hat : at_ < b.length) (hsm : b.length ≤ 4194304) (hn : 1 ≤ n) (g0 : σ.get 0 = bv) (g7 : σ.get 7 = .int .i64 at_) (g8 : σ.get 8 = .int .i64 i) (g9 : σ.get 9 = .int .i64 n) {Q : AExit → St → Prop}
    (hQ : ∀ σ' n, 1 ≤ n → at_ + n ≤ b.length → σ'.get 9 = .int .i64 (n : Nat) → (∀ k, k < 9 → σ'.get k = σ.get k) → Q .norm ⟨σ', h⟩) : wpc env (.seq (.ops a3_11) (.cond (.t 52) (.ops a3_12) .skip)) ⟨σ, h⟩ Q := by
  have l0 := (hb h).lenOp
  obtain ⟨d, hd⟩ : ∃ d, d = b.length - at_ := ⟨_, rfl⟩
  have e1 : IntKind.wrap .i64 ((b.length : Int) - (at_ : Int)) = (d : Int) := wrap_nat (by omega) (by omega)
  by_cases c1 : 4000 < i
  · have z0 : ((i : Int) > 4000) = True := eq_true (by omega)
    simp only [a3_11, a3_12, wpc_skip, wpc_ops, wpc_draw, wpc_seq, wpc_cond, wpc_block, wpc_loop, wpc_exit, wpc_scope, wpc_ret, seqQ_norm, seqQ_ret, seqQ_exit, blockQ'_norm, blockQ'_ret, blockQ'_exit, roundQ_norm, roundQ_ret, roundQ_exit, condK_true, condK_false, wpo_nil', wpo_none, wpo_some, opsK_apply, guardK_tt, guardK_ff, guardK_tf, guardK_ft, wp1_call, callK_ret, wp1_mv', wp1_bin', wp1_un', wp1_eq', wp1_extract', wp1_pick', wp1_len', wp1_load', wp1_conv', wp1_store', wp1_idxAddr', wp1_append', wp1_mkIface', wp1_alloc', rd_t, rd_c, ok_t, ok_c, put_some, put_none, get_put, reduceIte, Nat.reduceEqDiff, AV.bool.injEq, Option.some.injEq, exists_eq_left', Option.map_some, Option.bind_some, opds_nil, opds_cons, opd_t, opd_c, aBin, aInt, decide_true, decide_false, negIf, wp1_nilCheck', wp1_fieldAddr', wp1_slice, op_slice, opdo_some, opdo_none, wp1_lit, op_lit, parts_nil, parts_cons, wp1_build, op_build, wp1_box, op_box, g0, g7, g8, g9, l0, z0, e1, aPick]
    refine hQ _ d (by omega) (by omega) (by simp only [get_put, reduceIte, Nat.reduceEqDiff]) fun k hk => ?_
    simp only [get_put]
    repeat rw [if_neg (by omega)]
  · have z0 : ((i : Int) > 4000) = False := eq_false (by omega)
    by_cases c2 : d < n
    · have z1 : ((n : Int) > (d : Int)) = True := eq_true (by omega)
      simp only [a3_11, a3_12, wpc_skip, wpc_ops, wpc_draw, wpc_seq, wpc_cond, wpc_block, wpc_loop, wpc_exit, wpc_scope, wpc_ret, seqQ_norm, seqQ_ret, seqQ_exit, blockQ'_norm, blockQ'_ret, blockQ'_exit, roundQ_norm, roundQ_ret, roundQ_exit, condK_true, condK_false, wpo_nil', wpo_none, wpo_some, opsK_apply, guardK_tt, guardK_ff, guardK_tf, guardK_ft, wp1_call, callK_ret, wp1_mv', wp1_bin', wp1_un', wp1_eq', wp1_extract', wp1_pick', wp1_len', wp1_load', wp1_conv', wp1_store', wp1_idxAddr', wp1_append', wp1_mkIface', wp1_alloc', rd_t, rd_c, ok_t, ok_c, put_some, put_none, get_put, reduceIte, Nat.reduceEqDiff, AV.bool.injEq, Option.some.injEq, exists_eq_left', Option.map_some, Option.bind_some, opds_nil, opds_cons, opd_t, opd_c, aBin, aInt, decide_true, decide_false, negIf, wp1_nilCheck', wp1_fieldAddr', wp1_slice, op_slice, opdo_some, opdo_none, wp1_lit, op_lit, parts_nil, parts_cons, wp1_build, op_build, wp1_box, op_box, g0, g7, g8, g9, l0, z0, z1, e1, aPick]
      refine hQ _ d (by omega) (by omega) (by simp only [get_put, reduceIte, Nat.reduceEqDiff]) fun k hk => ?_
      simp only [get_put]
      repeat rw [if_neg (by omega)]
    · have z1 : ((n : Int) > (d : Int)) = False := eq_false (by omega)
      simp only [a3_11, wpc_skip, wpc_ops, wpc_draw, wpc_seq, wpc_cond, wpc_block, wpc_loop, wpc_exit, wpc_scope, wpc_ret, seqQ_norm, seqQ_ret, seqQ_exit, blockQ'_norm, blockQ'_ret, blockQ'_exit, roundQ_norm, roundQ_ret, roundQ_exit, condK_true, condK_false, wpo_nil', wpo_none, wpo_some, opsK_apply, guardK_tt, guardK_ff, guardK_tf, guardK_ft, wp1_call, callK_ret, wp1_mv', wp1_bin', wp1_un', wp1_eq', wp1_extract', wp1_pick', wp1_len', wp1_load', wp1_conv', wp1_store', wp1_idxAddr', wp1_append', wp1_mkIface', wp1_alloc', rd_t, rd_c, ok_t, ok_c, put_some, put_none, get_put, reduceIte, Nat.reduceEqDiff, AV.bool.injEq, Option.some.injEq, exists_eq_left', Option.map_some, Option.bind_some, opds_nil, opds_cons, opd_t, opd_c, aBin, aInt, decide_true, decide_false, negIf, wp1_nilCheck', wp1_fieldAddr', wp1_slice, op_slice, opdo_some, opdo_none, wp1_lit, op_lit, parts_nil, parts_cons, wp1_build, op_build, wp1_box, op_box, g0, g7, g8, g9, l0, z0, z1, e1, aPick]
      refine hQ _ n (by omega) (by omega) (by simp only [get_put, reduceIte, Nat.reduceEqDiff, g9]) fun k hk => ?_
      simp only [get_put]
      repeat rw [if_neg (by omega)]

/-- a chunk goes through -/
theorem through {h : Heap} {id n : Nat} {t o : Sd} {tu tc ou oc v out : AV} {b acc : List UInt8} (ho : HeapOk h) (k : Sr h id 1 false t o tu tc ou oc) (hb : ∀ h, Bytes h v b) (hbl : b.length = n) (hn : n ≤ 4194304) (hu : t.u = []) (hc : o.c = []) (hst : t.st = false) (q1 : t.sent < 1000000000) (q2 : o.moved < 1000000000) (q3 : o.read < 1000000000)
    (ha : Acc h 1 out (acc.map byteAV)) (hid : out.own ≠ some id) (hdis : ∀ i, out.own = some i → ¬ Foot tu tc ou oc i) (hal : acc.length + n ≤ 4194304) :
    ∃ h1 h2 h3 h4 x out' tu' tc' ou' oc' t' o' c', WC env 12 [.ptr id 0 0, .int .i64 1, v] h (fun x => x = .ret ⟨.nili, h1, .write⟩) ∧ WC env 13 [.ptr id 0 0, .int .i64 1, .int .i64 n] h1 (fun x => x = .ret ⟨.nili, h2, .write⟩) ∧ WC env 14 [.ptr id 0 0, .int .i64 0, .int .i64 n] h2 (fun y => y = .ret ⟨.tup [x, .nili], h3, .write⟩) ∧
      aAppend h3 1 1 out x = some ⟨out', h4, c'⟩ ∧ HeapOk h4 ∧ Sr h4 id 1 false t' o' tu' tc' ou' oc' ∧ t'.u = [] ∧ o'.c = [] ∧ t'.st = false ∧ t'.sent = t.sent + n ∧ o'.moved = o.moved + n ∧ o'.read = o.read + n ∧
      Acc h4 1 out' ((acc ++ b).map byteAV) ∧ out'.own ≠ some id ∧ (∀ i, out'.own = some i → ¬ Foot tu' tc' ou' oc' i) := by
  have hid0 : id < h.next := ho.lt k.hat
  have vn := own_none hb
  obtain ⟨o1, ev1, h1, tu1, ho1, k1, c1, own1, rfl⟩ := send_spec ho k (.inr rfl) (hb h) (fun i e => by rw [vn] at e; cases e) (by rw [hu]; simp) (by omega)
  have hE : sendE false t b = none := by simp only [sendE]; rw [if_neg (by simp), if_neg (by rw [hu]; simp; omega)]
  have hS : sendS false t b = { t with u := b, sent := t.sent + n } := by simp only [sendS]; rw [if_neg (by simp), if_neg (by rw [hu]; simp; omega), hu, hbl]; rfl
  rw [hS] at k1
  have w1 : WC env 12 [.ptr id 0 0, .int .i64 1, v] h (fun x => x = .ret ⟨.nili, h1, .write⟩) := ⟨_, ev1, by rw [hE]; rfl⟩
  obtain ⟨o2, ev2, hm⟩ := move_spec (n := n) ho1 k1 (.inr rfl) (by simp; omega) (by rw [hc]; simp) (by omega)
  have hM : moveE false { t with u := b, sent := t.sent + n } o n = none := by
    simp only [moveE]
    rw [if_neg (by simp), if_neg (by omega), if_neg (by simp [hst]), if_neg (by omega), if_neg (by rw [hc]; simp; omega)]
  rcases hm with ⟨hm, _⟩ | ⟨_, h2, tu2, oc2, ho2, k2, c2, own2, own2', rfl⟩
  · exact absurd hM hm
  have w2 : WC env 13 [.ptr id 0 0, .int .i64 1, .int .i64 n] h1 (fun x => x = .ret ⟨.nili, h2, .write⟩) := ⟨_, ev2, rfl⟩
  simp only [Int.toNat_natCast] at k2
  have x1 : b.drop n = [] := by rw [← hbl]; simp
  have x2 : o.c ++ b.take n = b := by rw [hc, ← hbl]; simp
  rw [x1, x2] at k2
  have k2f := k2.flip (.inr rfl)
  obtain ⟨o3, ev3, hr⟩ := read_spec (n := n) (e := 0) ho2 k2f (.inl rfl) (by dsimp only; omega) (by dsimp only; omega)
  have hR : readE false { o with c := b, moved := o.moved + n } n = none := by
    simp only [readE]
    rw [if_neg (by omega), if_neg (by simp)]
  have hN : readN { o with c := b, moved := o.moved + n } n = n := by simp only [readN]; rw [hbl]; omega
  rcases hr with ⟨hr, _⟩ | ⟨_, h3, tc3, x, ho3, k3, c3, own3, hx, xown, xne, rfl⟩
  · exact absurd hR hr
  rw [hN] at k3 hx
  have w3 : WC env 14 [.ptr id 0 0, .int .i64 0, .int .i64 n] h2 (fun y => y = .ret ⟨.tup [x, .nili], h3, .write⟩) := ⟨_, ev3, rfl⟩
  have x3 : b.take n = b := by rw [← hbl]; simp
  dsimp only at hx k3
  rw [x3] at hx
  rw [x1] at k3
  have k3f := k3.flip (.inl rfl)
  -- what is out is out of their reach
  have s1 : ∀ i, out.own = some i → ¬ (i = id ∨ tu.own = some i) := fun i e x => x.elim (fun x => hid (by rw [e, x])) fun x => hdis i e (.inl x)
  have olt : ∀ i, out.own = some i → i < h.next := fun i e => ha.ownLt ho e
  have a1 := ha.chg c1 s1
  have a2 := a1.chg c2 fun i e x => x.elim (fun x => hid (by rw [e, x])) fun x => hdis i e (.inr (.inr (.inr x)))
  have a3 := a2.chg c3 fun i e x => hid (by rw [e, x])
  obtain ⟨cl, hcn, hcc⟩ := hx.toBytes.cells
  obtain ⟨out', h4, c', g1, g2, g3, g4, g5, g6⟩ := a3.append ho3 (bt := 1) (by omega) (acc_len a3) hx.toBytes.len hcc (by simp) (by omega) (by omega)
  rw [← List.map_append] at g2
  have n1 := c1.1; have n2 := c2.1; have n3 := c3.1
  have f3 : ∀ i, out.own = some i → ¬ Foot tu2 tc ou tc3 i := by
    intro i e f
    have := olt i e
    rcases f with f | f | f | f
    · have := own2 i f; omega
    · exact hdis i e (.inr (.inl f))
    · exact hdis i e (.inr (.inr (.inl f)))
    · have := own3 i f; omega
  have k4 := k3f.chg (g3.chg (S := fun i => out.own = some i) fun i e => e) hid fun i f e => f3 i e f
  refine ⟨h1, h2, h3, h4, x, out', tu2, tc, ou, tc3, _, _, c', w1, w2, w3, g1, g4, k4, rfl, rfl, hst, rfl, rfl, rfl, g2, fun e => ?_, fun i e f => ?_⟩
  · rcases g5 _ e with e | e
    · exact hid e
    · omega
  · rcases g5 i e with e | e
    · exact f3 i e f
    · have := k3f.footLt ho3 f; omega

theorem chunks_loop {id : Nat} {bv pv : AV} {b ps : List UInt8} (hb : ∀ h, Bytes h bv b) (hp : ∀ h, Bytes h pv ps) (hsm : b.length ≤ 4194304) {Q : AExit → St → Prop} :
    ∀ (f at_ i : Nat) (t o : Sd) (tu tc ou oc out : AV) (h : Heap) (σ : Slots), b.length - at_ < f → at_ ≤ b.length → i ≤ at_ → HeapOk h → Sr h id 1 false t o tu tc ou oc → t.u = [] → o.c = [] → t.st = false → t.sent = at_ → o.moved = at_ → o.read = at_ →
      Acc h 1 out ((b.take at_).map byteAV) → out.own ≠ some id → (∀ i, out.own = some i → ¬ Foot tu tc ou oc i) → σ.get 0 = bv → σ.get 1 = pv → σ.get 5 = .ptr id 0 0 → σ.get 6 = out → σ.get 7 = .int .i64 at_ → σ.get 8 = .int .i64 i →
      (∀ σ' h' out, Acc h' 1 out (b.map byteAV) → σ'.get 6 = out → σ'.get 0 = bv → Q (.exit 0) ⟨σ', h'⟩) → WPr env a3_l21 ⟨σ, h⟩ Q := by
  intro f
  induction f with
  | zero => intro at_ i t o tu tc ou oc out h σ h1; omega
  | succ f ih =>
    intro at_ i t o tu tc ou oc out h σ hf hat hi ho k hu hc hst hs hm hr ha hid hdis g0 g1 g5 g6 g7 g8 hQ
    refine wpr_round' fun bb hb' => ?_
    have l0 := (hb h).lenOp
    by_cases c1 : at_ < b.length
    · have z0 : ((at_ : Int) < (b.length : Int)) = True := eq_true (by omega)
      have z1 : IntKind.wrap .i64 ((i : Int) + 1) = ((i + 1 : Nat) : Int) := wrap_nat (by omega) (by omega)
      rw [a3_l21]
      simp only [a3_7, a3_8, wpc_skip, wpc_ops, wpc_draw, wpc_seq, wpc_cond, wpc_block, wpc_loop, wpc_exit, wpc_scope, wpc_ret, seqQ_norm, seqQ_ret, seqQ_exit, blockQ'_norm, blockQ'_ret, blockQ'_exit, roundQ_norm, roundQ_ret, roundQ_exit, condK_true, condK_false, wpo_nil', wpo_none, wpo_some, opsK_apply, guardK_tt, guardK_ff, guardK_tf, guardK_ft, wp1_call, callK_ret, wp1_mv', wp1_bin', wp1_un', wp1_eq', wp1_extract', wp1_pick', wp1_len', wp1_load', wp1_conv', wp1_store', wp1_idxAddr', wp1_append', wp1_mkIface', wp1_alloc', rd_t, rd_c, ok_t, ok_c, put_some, put_none, get_put, reduceIte, Nat.reduceEqDiff, AV.bool.injEq, Option.some.injEq, exists_eq_left', Option.map_some, Option.bind_some, opds_nil, opds_cons, opd_t, opd_c, aBin, aInt, decide_true, decide_false, negIf, wp1_nilCheck', wp1_fieldAddr', wp1_slice, op_slice, opdo_some, opdo_none, wp1_lit, op_lit, parts_nil, parts_cons, wp1_build, op_build, wp1_box, op_box, g0, g7, l0, z0]
      refine chunk_n1 hp (i := i) (by omega) (by simp only [get_put, reduceIte, Nat.reduceEqDiff, g1]) (by simp only [get_put, reduceIte, Nat.reduceEqDiff, g8]) (by simp only [get_put, reduceIte, Nat.reduceEqDiff]) fun σ1 n n1 n2 s9 s1 => ?_
      have k1 : ∀ j, j < 9 → σ1.get j = σ.get j := by
        intro j hj
        rw [s1 j hj]
        simp only [get_put]
        repeat rw [if_neg (by omega)]
      simp only [seqQ_norm, wpc_seq]
      refine chunk_n2 hb c1 hsm n1 (i := i) (by rw [k1 0 (by omega), g0]) (by rw [k1 7 (by omega), g7]) (by rw [k1 8 (by omega), g8]) s9 fun σ2 n n3 n4 s9 s2 => ?_
      have k2 : ∀ j, j < 9 → σ2.get j = σ.get j := fun j hj => by rw [s2 j hj, k1 j hj]
      have p0 : σ2.get 0 = bv := by rw [k2 0 (by omega), g0]
      have p5 : σ2.get 5 = .ptr id 0 0 := by rw [k2 5 (by omega), g5]
      have p6 : σ2.get 6 = out := by rw [k2 6 (by omega), g6]
      have p7 : σ2.get 7 = .int .i64 at_ := by rw [k2 7 (by omega), g7]
      have p8 : σ2.get 8 = .int .i64 i := by rw [k2 8 (by omega), g8]
      have p1 : σ2.get 1 = pv := by rw [k2 1 (by omega), g1]
      obtain ⟨v, e1, hv⟩ := frozen_mid hb (l := at_) (u := at_ + n) (by omega) n4
      rw [show at_ + n - at_ = n by omega] at hv
      have hvl : ((b.drop at_).take n).length = n := by simp; omega
      obtain ⟨h1, h2, h3, h4, x, out', tu', tc', ou', oc', t', o', c', w1, w2, w3, ap, ho4, k4, q1, q2, q3, q4, q5, q6, a4, hid4, hdis4⟩ := through ho k hv hvl (by omega) hu hc hst (by omega) (by omega) (by omega) ha hid hdis (by simp; omega)
      have hacc : b.take at_ ++ (b.drop at_).take n = b.take (at_ + n) := by rw [← List.take_add]
      rw [hacc] at a4
      have z2 : IntKind.wrap .i64 ((at_ : Int) + (n : Int)) = ((at_ + n : Nat) : Int) := wrap_nat (by omega) (by omega)
      simp only [seqQ_norm, wpc_seq, a3_13, a3_15, a3_16, a3_18, a3_19, a3_20, wpc_skip, wpc_ops, wpc_draw, wpc_seq, wpc_cond, wpc_block, wpc_loop, wpc_exit, wpc_scope, wpc_ret, seqQ_norm, seqQ_ret, seqQ_exit, blockQ'_norm, blockQ'_ret, blockQ'_exit, roundQ_norm, roundQ_ret, roundQ_exit, condK_true, condK_false, wpo_nil', wpo_none, wpo_some, opsK_apply, guardK_tt, guardK_ff, guardK_tf, guardK_ft, wp1_call, callK_ret, wp1_mv', wp1_bin', wp1_un', wp1_eq', wp1_extract', wp1_pick', wp1_len', wp1_load', wp1_conv', wp1_store', wp1_idxAddr', wp1_append', wp1_mkIface', wp1_alloc', rd_t, rd_c, ok_t, ok_c, put_some, put_none, get_put, reduceIte, Nat.reduceEqDiff, AV.bool.injEq, Option.some.injEq, exists_eq_left', Option.map_some, Option.bind_some, opds_nil, opds_cons, opd_t, opd_c, aBin, aInt, decide_true, decide_false, negIf, wp1_nilCheck', wp1_fieldAddr', wp1_slice, op_slice, opdo_some, opdo_none, wp1_lit, op_lit, parts_nil, parts_cons, wp1_build, op_build, wp1_box, op_box, p0, p5, p6, p7, p8, s9, z2, e1, wc_eq w1, wc_eq w2, wc_eq w3, eq_nil, Bool.not_true, aPick, aExtract, ex0, ex1, ap, z1]
      subst hb'
      refine ih (at_ + n) (i + 1) t' o' tu' tc' ou' oc' out' h4 _ (by omega) n4 (by omega) ho4 k4 q1 q2 q3 (by omega) (by omega) (by omega) a4 hid4 hdis4 ?_ ?_ ?_ ?_ ?_ ?_ hQ
      · simp only [get_put, reduceIte, Nat.reduceEqDiff, p0]
      · simp only [get_put, reduceIte, Nat.reduceEqDiff, p1]
      · simp only [get_put, reduceIte, Nat.reduceEqDiff, p5]
      · simp only [get_put, reduceIte, Nat.reduceEqDiff]
      · simp only [get_put, reduceIte, Nat.reduceEqDiff]
      · simp only [get_put, reduceIte, Nat.reduceEqDiff]
    · have z0 : ((at_ : Int) < (b.length : Int)) = False := eq_false (by omega)
      have : b.take at_ = b := List.take_of_length_le (by omega)
      rw [this] at ha
      simp only [a3_l21, a3_7, wpc_skip, wpc_ops, wpc_draw, wpc_seq, wpc_cond, wpc_block, wpc_loop, wpc_exit, wpc_scope, wpc_ret, seqQ_norm, seqQ_ret, seqQ_exit, blockQ'_norm, blockQ'_ret, blockQ'_exit, roundQ_norm, roundQ_ret, roundQ_exit, condK_true, condK_false, wpo_nil', wpo_none, wpo_some, opsK_apply, guardK_tt, guardK_ff, guardK_tf, guardK_ft, wp1_call, callK_ret, wp1_mv', wp1_bin', wp1_un', wp1_eq', wp1_extract', wp1_pick', wp1_len', wp1_load', wp1_conv', wp1_store', wp1_idxAddr', wp1_append', wp1_mkIface', wp1_alloc', rd_t, rd_c, ok_t, ok_c, put_some, put_none, get_put, reduceIte, Nat.reduceEqDiff, AV.bool.injEq, Option.some.injEq, exists_eq_left', Option.map_some, Option.bind_some, opds_nil, opds_cons, opd_t, opd_c, aBin, aInt, decide_true, decide_false, negIf, wp1_nilCheck', wp1_fieldAddr', wp1_slice, op_slice, opdo_some, opdo_none, wp1_lit, op_lit, parts_nil, parts_cons, wp1_build, op_build, wp1_box, op_box, g0, g7, l0, z0]
      exact hQ _ h out ha (by simp only [get_put, reduceIte, Nat.reduceEqDiff, g6]) (by simp only [get_put, reduceIte, Nat.reduceEqDiff, g0])

theorem chunks_spec {bv pv : AV} {b ps : List UInt8} (hb : ∀ h, Bytes h bv b) (hp : ∀ h, Bytes h pv ps) : WC env 3 [bv, pv] .empty (fun o => ∃ h', o = .ret ⟨.bool true, h', .write⟩) := by
  have w1 := new_spec .empty
  obtain ⟨h1, eh1⟩ : ∃ h, h = Heap.empty.new (SE 0 false .zero .zero .nils .nils .nils .nils) := ⟨_, rfl⟩
  rw [← eh1] at w1
  have ho1 : HeapOk h1 := by rw [eh1]; exact HeapOk.empty.new _
  have a1 : h1.at_ Heap.empty.next 0 = some (SE 0 false .zero .zero .nils .nils .nils .nils) := by rw [eh1]; exact at_new _
  have k : Sr h1 Heap.empty.next 1 false .zero .zero .nils .nils .nils .nils := ⟨a1, .nils, .nils, .nils, .nils, by simp [AV.own], fun i => by simp [AV.own]⟩
  have l0 := (hb h1).lenOp
  refine call_body rfl rfl (.inl rfl) ?_
  by_cases c : b.length ≤ 4194304
  · have z0 : ((b.length : Int) > 4194304) = False := eq_false (by omega)
    simp only [a3, a3_0, a3_1, a3_2, a3_4, a3_5, a3_6, Slots.ofList, wpc_skip, wpc_ops, wpc_draw, wpc_seq, wpc_cond, wpc_block, wpc_loop, wpc_exit, wpc_scope, wpc_ret, seqQ_norm, seqQ_ret, seqQ_exit, blockQ'_norm, blockQ'_ret, blockQ'_exit, roundQ_norm, roundQ_ret, roundQ_exit, condK_true, condK_false, wpo_nil', wpo_none, wpo_some, opsK_apply, guardK_tt, guardK_ff, guardK_tf, guardK_ft, wp1_call, callK_ret, wp1_mv', wp1_bin', wp1_un', wp1_eq', wp1_extract', wp1_pick', wp1_len', wp1_load', wp1_conv', wp1_store', wp1_idxAddr', wp1_append', wp1_mkIface', wp1_alloc', rd_t, rd_c, ok_t, ok_c, put_some, put_none, get_put, reduceIte, Nat.reduceEqDiff, AV.bool.injEq, Option.some.injEq, exists_eq_left', Option.map_some, Option.bind_some, opds_nil, opds_cons, opd_t, opd_c, aBin, aInt, decide_true, decide_false, negIf, wp1_nilCheck', wp1_fieldAddr', wp1_slice, op_slice, opdo_some, opdo_none, wp1_lit, op_lit, parts_nil, parts_cons, wp1_build, op_build, wp1_box, op_box, wc_eq w1, aEq_ptr, l0, z0, aPick]
    refine chunks_loop hb hp c (b.length + 1) 0 0 .zero .zero .nils .nils .nils .nils .nils h1 _ (by omega) (by omega) (by omega) ho1 k rfl rfl rfl rfl rfl rfl .nils (by simp [AV.own]) (fun i e => by cases e) ?_ ?_ ?_ ?_ ?_ ?_ fun σ' h' out ha g6 g0 => ?_
    · simp only [get_put, reduceIte, Nat.reduceEqDiff]
    · simp only [get_put, reduceIte, Nat.reduceEqDiff]
    · simp only [get_put, reduceIte, Nat.reduceEqDiff]
    · simp only [get_put, reduceIte, Nat.reduceEqDiff]
    · simp only [get_put, reduceIte, Nat.reduceEqDiff]; rfl
    · simp only [get_put, reduceIte, Nat.reduceEqDiff]; rfl
    · obtain ⟨k1, _, b1⟩ := ha.toBytes.b2s
      obtain ⟨k2, _, b2⟩ := (hb h').b2s
      have z1 := Go.AM.eq_self b
      simp only [a3_22, wpc_skip, wpc_ops, wpc_draw, wpc_seq, wpc_cond, wpc_block, wpc_loop, wpc_exit, wpc_scope, wpc_ret, seqQ_norm, seqQ_ret, seqQ_exit, blockQ'_norm, blockQ'_ret, blockQ'_exit, roundQ_norm, roundQ_ret, roundQ_exit, condK_true, condK_false, wpo_nil', wpo_none, wpo_some, opsK_apply, guardK_tt, guardK_ff, guardK_tf, guardK_ft, wp1_call, callK_ret, wp1_mv', wp1_bin', wp1_un', wp1_eq', wp1_extract', wp1_pick', wp1_len', wp1_load', wp1_conv', wp1_store', wp1_idxAddr', wp1_append', wp1_mkIface', wp1_alloc', rd_t, rd_c, ok_t, ok_c, put_some, put_none, get_put, reduceIte, Nat.reduceEqDiff, AV.bool.injEq, Option.some.injEq, exists_eq_left', Option.map_some, Option.bind_some, opds_nil, opds_cons, opd_t, opd_c, aBin, aInt, decide_true, decide_false, negIf, wp1_nilCheck', wp1_fieldAddr', wp1_slice, op_slice, opdo_some, opdo_none, wp1_lit, op_lit, parts_nil, parts_cons, wp1_build, op_build, wp1_box, op_box, g6, g0, b1, b2, aStr, z1, aPick, wc_eq (alive_spec _)]
      exact ⟨[.bool true], by simp only [Env.results, Option.map_some, get_put, reduceIte, Nat.reduceEqDiff], _, rfl⟩
  · have z0 : ((b.length : Int) > 4194304) = True := eq_true (by omega)
    simp only [a3, a3_0, a3_1, a3_2, a3_3, Slots.ofList, wpc_skip, wpc_ops, wpc_draw, wpc_seq, wpc_cond, wpc_block, wpc_loop, wpc_exit, wpc_scope, wpc_ret, seqQ_norm, seqQ_ret, seqQ_exit, blockQ'_norm, blockQ'_ret, blockQ'_exit, roundQ_norm, roundQ_ret, roundQ_exit, condK_true, condK_false, wpo_nil', wpo_none, wpo_some, opsK_apply, guardK_tt, guardK_ff, guardK_tf, guardK_ft, wp1_call, callK_ret, wp1_mv', wp1_bin', wp1_un', wp1_eq', wp1_extract', wp1_pick', wp1_len', wp1_load', wp1_conv', wp1_store', wp1_idxAddr', wp1_append', wp1_mkIface', wp1_alloc', rd_t, rd_c, ok_t, ok_c, put_some, put_none, get_put, reduceIte, Nat.reduceEqDiff, AV.bool.injEq, Option.some.injEq, exists_eq_left', Option.map_some, Option.bind_some, opds_nil, opds_cons, opd_t, opd_c, aBin, aInt, decide_true, decide_false, negIf, wp1_nilCheck', wp1_fieldAddr', wp1_slice, op_slice, opdo_some, opdo_none, wp1_lit, op_lit, parts_nil, parts_cons, wp1_build, op_build, wp1_box, op_box, wc_eq w1, aEq_ptr, l0, z0, aPick, wc_eq (alive_spec _), Bool.not_false]
    exact ⟨[.bool true], by simp only [Env.results, Option.map_some, get_put, reduceIte, Nat.reduceEqDiff], _, rfl⟩
end Go.St
