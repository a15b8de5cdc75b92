/-
  FrameOwn answers true.
-/
import Derived.Test.YtlggjdneolgkoaaFrOwn
set_option linter.unusedVariables false
set_option linter.unusedSimpArgs false
set_option maxRecDepth 20000
namespace Go.Fr
open Go.AM

/-- the bodies that Split gives -/
def lsF (w : Nat) (bs : List UInt8) : List (List UInt8) := if (splitF w (bs.length + 1) bs 0 []).2.2 = true then [] else (splitF w (bs.length + 1) bs 0 []).1

theorem splitF_len {w : Nat} (hw : 0 < w) : ∀ (f : Nat) (rest : List UInt8) (at_ : Nat) (acc : List (List UInt8)), (splitF w f rest at_ acc).1.length ≤ acc.length + rest.length
  | 0, rest, at_, acc => by simp [splitF]
  | f + 1, rest, at_, acc => by
    unfold splitF
    by_cases c1 : rest.length < w
    · rw [if_pos c1]; simp
    rw [if_neg c1]
    by_cases c2 : maxOf w < num (rest.take w)
    · rw [if_pos c2]; simp
    rw [if_neg c2]
    by_cases c3 : rest.length - w < num (rest.take w)
    · rw [if_pos c3]; simp
    rw [if_neg c3]
    have := splitF_len hw f (rest.drop (w + num (rest.take w))) (at_ + (w + num (rest.take w))) (acc ++ [(rest.drop w).take (num (rest.take w))])
    simp only [List.length_append, List.length_drop, List.length_singleton] at this
    omega

theorem lsF_len {w : Nat} (hw : 0 < w) (bs : List UInt8) : (lsF w bs).length ≤ bs.length := by
  unfold lsF
  split
  · simp
  · have := splitF_len hw (bs.length + 1) bs 0 []
    simpa using this

theorem split_ls {w : Nat} (hw : w = 2 ∨ w = 4) {v : AV} {bs : List UInt8} {h : Heap} (ho : HeapOk h) (hb : Bytes h v bs) (hsm : bs.length < 1000000000000) :
    WC env 14 [.int .i64 w, v] h (fun o => ∃ h' lv cells n e, HeapOk h' ∧ h.le h' ∧ Lists h' lv cells (lsF w bs) h.next ∧ o = .ret ⟨.tup [lv, n, e], h', .write⟩) := by
  obtain ⟨o, ev, h', ho', hl, hr⟩ := split_spec hw ho hb hsm
  refine ⟨o, ev, h', ?_⟩
  unfold lsF
  by_cases c : (splitF w (bs.length + 1) bs 0 []).2.2 = true
  · rw [if_pos c] at hr ⊢
    exact ⟨.nils, [], _, _, ho', hl, ⟨.nils, .nil, (fun id e => by cases e), (fun x hx => by cases hx)⟩, hr⟩
  · rw [if_neg c] at hr ⊢
    obtain ⟨lv, cells, hL, rfl⟩ := hr
    exact ⟨lv, cells, _, _, ho', hl, hL, rfl⟩

theorem rsplit_ls {w : Nat} (hw : w = 2 ∨ w = 4) {v : AV} {bs : List UInt8} {h : Heap} (ho : HeapOk h) (hb : Bytes h v bs) (hsm : bs.length < 1000000000000) :
    WC env 8 [.int .i64 w, v] h (fun o => ∃ h' lv cells n e, HeapOk h' ∧ h.le h' ∧ Lists h' lv cells (lsF w bs) h.next ∧ o = .ret ⟨.tup [lv, n, e], h', .write⟩) := by
  obtain ⟨o, ev, h', ho', hl, hr⟩ := rsplit_spec hw ho hb hsm
  refine ⟨o, ev, h', ?_⟩
  unfold lsF
  by_cases c : (splitF w (bs.length + 1) bs 0 []).2.2 = true
  · rw [if_pos c] at hr ⊢
    exact ⟨.nils, [], _, _, ho', hl, ⟨.nils, .nil, (fun id e => by cases e), (fun x hx => by cases hx)⟩, hr⟩
  · rw [if_neg c] at hr ⊢
    obtain ⟨lv, cells, hL, rfl⟩ := hr
    exact ⟨lv, cells, _, _, ho', hl, hL, rfl⟩

theorem All2b.chg {h h' : Heap} {S : Nat → Prop} (hl : Chg S h h') : ∀ {vs : List AV} {bss : List (List UInt8)}, All2b h vs bss → (∀ x ∈ vs, ∀ id, x.own = some id → ¬ S id) → All2b h' vs bss
  | _, _, .nil, _ => .nil
  | _, _, .cons h1 h2, hx => .cons (h1.chg hl (hx _ (by simp))) (All2b.chg hl h2 fun x hm => hx x (by simp [hm]))

theorem Lists.chg {h h' : Heap} {lv : AV} {cells : List AV} {acc : List (List UInt8)} {b : Nat} {S : Nat → Prop} (k : Lists h lv cells acc b) (c : Chg S h h') (hS : ∀ i, b ≤ i → ¬ S i) : Lists h' lv cells acc b :=
  ⟨k.grown.chg c fun i e => hS i (k.new i e).1, k.all.chg c fun x hx i e => hS i (k.low x hx i e), k.new, k.low⟩
/-- what is changed is new -/
theorem Lists.chg2 {h h' : Heap} {lv : AV} {cells : List AV} {acc : List (List UInt8)} {b : Nat} {S : Nat → Prop} (ho : HeapOk h) (k : Lists h lv cells acc b) (c : Chg S h h') (hS : ∀ i, i < h.next → ¬ S i) : Lists h' lv cells acc b :=
  ⟨k.grown.chg c fun i e => hS i (k.grown.ownLt ho e), k.all.chg c fun x hx i e => hS i (k.all.ownLt ho x hx i e), k.new, k.low⟩

theorem own_E {id id2 : Nat} {Q : AExit → St → Prop} (hid : id ≠ id2) {s : Rs} {bs : List UInt8} {hv hv2 : AV} {h : Heap} {σ : Slots} (ho : HeapOk h) (k : Rd h id s bs hv) (k2 : Rr h id2 s bs hv2) (n1 : hv.own ≠ some id2) (n2 : hv2.own ≠ some id) (hw : s.w = 2 ∨ s.w = 4) (hk : s.ok bs)
    (g9 : σ.get 9 = .ptr id 0 0) (g19 : σ.get 19 = .ptr id2 0 0) (hQ : ∀ σ' h', σ'.get 4 = .bool true → Q .ret ⟨σ', h'⟩) :
    wpc env (.seq (.seq (.ops a5_32) (.block 4 (.loop a5_l39))) (.seq (.ops a5_40) .ret)) ⟨σ, h⟩ Q := by
  simp only [a5_32, wpc_skip, wpc_ops, wpc_draw, wpc_seq, wpc_cond, wpc_block, wpc_loop, wpc_exit, wpc_scope, wpc_ret, seqQ_norm, seqQ_ret, seqQ_exit, blockQ'_norm, blockQ'_ret, blockQ'_exit, roundQ_norm, roundQ_ret, roundQ_exit, condK_true, condK_false, wpo_nil', wpo_none, wpo_some, opsK_apply, guardK_tt, guardK_ff, guardK_tf, guardK_ft, wp1_call, callK_ret, wp1_mv', wp1_bin', wp1_un', wp1_eq', wp1_extract', wp1_pick', wp1_len', wp1_load', wp1_conv', wp1_store', wp1_idxAddr', wp1_append', wp1_mkIface', wp1_alloc', rd_t, rd_c, ok_t, ok_c, put_some, put_none, get_put, reduceIte, Nat.reduceEqDiff, AV.bool.injEq, Option.some.injEq, exists_eq_left', Option.map_some, Option.bind_some, opds_nil, opds_cons, opd_t, opd_c, aBin, aInt, decide_true, decide_false, negIf, wp1_nilCheck', wp1_fieldAddr', wp1_slice, op_slice, opdo_some, opdo_none, wp1_lit, op_lit, parts_nil, parts_cons, wp1_build, op_build, wp1_box, op_box]
  refine own_loop3 hid 4 0 s bs hv hv2 h _ (by omega) (by omega) ho k k2 n1 n2 hw hk ?_ ?_ ?_ fun σ' h' => ?_
  · simp only [get_put, reduceIte, Nat.reduceEqDiff, g9]
  · simp only [get_put, reduceIte, Nat.reduceEqDiff, g19]
  · simp only [get_put, reduceIte, Nat.reduceEqDiff]; rfl
  · simp only [a5_40, wpc_skip, wpc_ops, wpc_draw, wpc_seq, wpc_cond, wpc_block, wpc_loop, wpc_exit, wpc_scope, wpc_ret, seqQ_norm, seqQ_ret, seqQ_exit, blockQ'_norm, blockQ'_ret, blockQ'_exit, roundQ_norm, roundQ_ret, roundQ_exit, condK_true, condK_false, wpo_nil', wpo_none, wpo_some, opsK_apply, guardK_tt, guardK_ff, guardK_tf, guardK_ft, wp1_call, callK_ret, wp1_mv', wp1_bin', wp1_un', wp1_eq', wp1_extract', wp1_pick', wp1_len', wp1_load', wp1_conv', wp1_store', wp1_idxAddr', wp1_append', wp1_mkIface', wp1_alloc', rd_t, rd_c, ok_t, ok_c, put_some, put_none, get_put, reduceIte, Nat.reduceEqDiff, AV.bool.injEq, Option.some.injEq, exists_eq_left', Option.map_some, Option.bind_some, opds_nil, opds_cons, opd_t, opd_c, aBin, aInt, decide_true, decide_false, negIf, wp1_nilCheck', wp1_fieldAddr', wp1_slice, op_slice, opdo_some, opdo_none, wp1_lit, op_lit, parts_nil, parts_cons, wp1_build, op_build, wp1_box, op_box]
    exact hQ _ _ (by simp only [get_put, reduceIte, Nat.reduceEqDiff])

theorem own_D {id id2 : Nat} {Q : AExit → St → Prop} (hid : id ≠ id2) {s : Rs} {bs xs : List UInt8} {hv hv2 x : AV} {h : Heap} {σ : Slots} (ho : HeapOk h) (k : Rd h id s bs hv) (k2 : Rr h id2 s bs hv2) (n1 : hv.own ≠ some id2) (n2 : hv2.own ≠ some id) (hw : s.w = 2 ∨ s.w = 4) (hk : s.ok bs)
    (hx : Bytes h x xs) (hmut : xs ≠ [] → x.own ≠ none) (hdis : ∀ i, x.own = some i → i ≠ id ∧ i ≠ id2 ∧ hv.own ≠ some i ∧ hv2.own ≠ some i) (hsm : xs.length < 1000000000000)
    (g9 : σ.get 9 = .ptr id 0 0) (g19 : σ.get 19 = .ptr id2 0 0) (g12 : σ.get 12 = x) (hQ : ∀ σ' h', σ'.get 4 = .bool true → Q .ret ⟨σ', h'⟩) :
    wpc env (.seq (.seq (.ops a5_26) (.block 2 (.loop a5_l31))) (.seq (.seq (.ops a5_32) (.block 4 (.loop a5_l39))) (.seq (.ops a5_40) .ret))) ⟨σ, h⟩ Q := by
  have hl := hx.lenOp
  rw [wpc_seq]
  simp only [a5_26, wpc_skip, wpc_ops, wpc_draw, wpc_seq, wpc_cond, wpc_block, wpc_loop, wpc_exit, wpc_scope, wpc_ret, seqQ_norm, seqQ_ret, seqQ_exit, blockQ'_norm, blockQ'_ret, blockQ'_exit, roundQ_norm, roundQ_ret, roundQ_exit, condK_true, condK_false, wpo_nil', wpo_none, wpo_some, opsK_apply, guardK_tt, guardK_ff, guardK_tf, guardK_ft, wp1_call, callK_ret, wp1_mv', wp1_bin', wp1_un', wp1_eq', wp1_extract', wp1_pick', wp1_len', wp1_load', wp1_conv', wp1_store', wp1_idxAddr', wp1_append', wp1_mkIface', wp1_alloc', rd_t, rd_c, ok_t, ok_c, put_some, put_none, get_put, reduceIte, Nat.reduceEqDiff, AV.bool.injEq, Option.some.injEq, exists_eq_left', Option.map_some, Option.bind_some, opds_nil, opds_cons, opd_t, opd_c, aBin, aInt, decide_true, decide_false, negIf, wp1_nilCheck', wp1_fieldAddr', wp1_slice, op_slice, opdo_some, opdo_none, wp1_lit, op_lit, parts_nil, parts_cons, wp1_build, op_build, wp1_box, op_box, g12, hl]
  refine own_loop2 hsm (fun e => hmut (fun e2 => e (by rw [e2]; rfl))) (xs.length + 1) 0 xs h _ (by omega) (by omega) ho hx rfl ?_ ?_ ?_ fun σ' h' ho' c s' => ?_
  · simp only [get_put, reduceIte, Nat.reduceEqDiff, g12]
  · simp only [get_put, reduceIte, Nat.reduceEqDiff]
  · simp only [get_put, reduceIte, Nat.reduceEqDiff]; rfl
  · simp only [blockQ'_exit, reduceIte, seqQ_norm]
    refine own_E hid ho' (k.chg c (fun e => (hdis _ e).1 rfl) fun i e e2 => (hdis i e2).2.2.1 e) (k2.chg c (fun e => (hdis _ e).2.1 rfl) fun i e e2 => (hdis i e2).2.2.2 e) n1 n2 hw hk ?_ ?_ hQ
    · rw [s' 9 (by omega)]
      simp only [get_put, reduceIte, Nat.reduceEqDiff, g9]
    · rw [s' 19 (by omega)]
      simp only [get_put, reduceIte, Nat.reduceEqDiff, g19]

theorem own_C {id w b0 : Nat} {Q : AExit → St → Prop} (hw : w = 2 ∨ w = 4) {b : List UInt8} {hv x bv lv : AV} {cells : List AV} {h : Heap} {σ : Slots} (ho : HeapOk h)
    (k : Rd h id (nextF ⟨w, b.length, 0, 0, 0, false⟩ b).1 (nextF ⟨w, b.length, 0, 0, 0, false⟩ b).2.1 hv) (hsm : b.length ≤ 16777216) (hbv : ∀ h, Bytes h bv b) (hL : Lists h lv cells (lsF w b) b0)
    (hx : Bytes h x ((nextF ⟨w, b.length, 0, 0, 0, false⟩ b).2.2.1.getD [])) (hmut : (nextF ⟨w, b.length, 0, 0, 0, false⟩ b).2.2.1.getD [] ≠ [] → x.own ≠ none) (hdis : ∀ i, x.own = some i → i ≠ id ∧ hv.own ≠ some i)
    (g0 : σ.get 0 = .int .i64 w) (g1 : σ.get 1 = bv) (g6 : σ.get 6 = lv) (g9 : σ.get 9 = .ptr id 0 0) (g12 : σ.get 12 = x) (g13 : σ.get 13 = .bool (nextF ⟨w, b.length, 0, 0, 0, false⟩ b).2.2.1.isSome) (hQ : ∀ σ' h', σ'.get 4 = .bool true → Q .ret ⟨σ', h'⟩) :
    wpc env (.seq (.ops a5_20) (.seq (.ops a5_21) (.seq (.ops a5_22) (.seq (.ops a5_23) (.seq (.seq (.ops a5_24) (.cond (.t 124) (.seq (.ops a5_25) .ret) .skip)) (.seq (.seq (.ops a5_26) (.block 2 (.loop a5_l31))) (.seq (.seq (.ops a5_32) (.block 4 (.loop a5_l39))) (.seq (.ops a5_40) .ret)))))))) ⟨σ, h⟩ Q := by
  have hw0 : 0 < w := by omega
  obtain ⟨o, ev1, h1, mv, cells2, n, e, ho1, hl1, hL1, rfl⟩ := rsplit_ls hw ho (hbv h) (by omega)
  have w1 : WC env 8 [.int .i64 w, bv] h (fun o => o = _) := ⟨_, ev1, rfl⟩
  have w2 := rnew_spec hw h1
  have ho2 := ho1.new ((Rs.mk w 0 0 0 0 false).cells .nils)
  have k2 : Rr (h1.new ((Rs.mk w 0 0 0 0 false).cells .nils)) h1.next ⟨w, 0, 0, 0, 0, false⟩ [] .nils := ⟨at_new _, .nils, by simp [AV.own], rfl⟩
  obtain ⟨o, ev3, h3, hv3, ho3, k3, c3, own3, rfl⟩ := rfeed_spec ho2 k2 (hbv _) rfl (by simp; omega)
  have w3 : WC env 16 [.ptr h1.next 0 0, bv] (h1.new ((Rs.mk w 0 0 0 0 false).cells .nils)) (fun o => o = _) := ⟨_, ev3, rfl⟩
  have k3' : Rr h3 h1.next ⟨w, b.length, 0, 0, 0, false⟩ b hv3 := by simpa using k3
  have hk0 : (⟨w, b.length, 0, 0, 0, false⟩ : Rs).ok b := ⟨Nat.le_refl _, Nat.le_refl _, by dsimp only; omega⟩
  obtain ⟨o, ev4, h4, hv4, y, ho4, k4, c4, own4, hy, yown, rfl⟩ := rnext_spec ho3 k3' hw hk0
  have w4 : WC env 17 [.ptr h1.next 0 0] h3 (fun o => o = _) := ⟨_, ev4, rfl⟩
  have hn1 : (h1.new ((Rs.mk w 0 0 0 0 false).cells .nils)).next = h1.next + 1 := rfl
  have hle := hl1.1
  have c34 : Chg (fun i => i = h1.next) h1 h4 := ((le_new ho1 _).chg.trans c3).trans c4
  have hLa := (hL.chg (S := fun i => False) hl1.chg fun i _ e => e).chg2 ho1 c34 fun i hi e => by omega
  have hLb := hL1.chg2 ho1 c34 fun i hi e => by omega
  have hsame := same_spec hLa.lb hLb.lb (by have := lsF_len hw0 b; omega)
  rw [decide_eq_true rfl] at hsame
  have c04 : Chg (fun i => i = h1.next) h h4 := hl1.chg.trans c34
  have i1 : id < h.next := ho.lt k.hat
  have kk := k.chg c04 (fun e => by omega) fun i e e2 => by have := k.acc.ownLt ho e; omega
  have hx4 := hx.chg c04 fun i e e2 => by have := hx.ownLt ho e; omega
  obtain ⟨cx, _, bx⟩ := hx4.b2s
  obtain ⟨cy, _, by_⟩ := hy.b2s
  have hb2 : aEq .bool (.bool (nextF ⟨w, b.length, 0, 0, 0, false⟩ b).2.2.1.isSome) (.bool (nextF ⟨w, b.length, 0, 0, 0, false⟩ b).2.2.1.isSome) = some true := by simp [aEq, aEqScalar]
  have hh := nextF_ok (s := ⟨w, b.length, 0, 0, 0, false⟩) hw hk0
  have hn := ne_self ((nextF ⟨w, b.length, 0, 0, 0, false⟩ b).2.2.1.getD [])
  have hxl : ((nextF ⟨w, b.length, 0, 0, 0, false⟩ b).2.2.1.getD []).length < 1000000000000 := by
    have : ((nextF ⟨w, b.length, 0, 0, 0, false⟩ b).2.2.1.getD []).length ≤ b.length := by
      unfold nextF
      repeat' split
      all_goals (simp <;> omega)
    omega
  generalize nextF ⟨w, b.length, 0, 0, 0, false⟩ b = N at *
  obtain ⟨s', bs', body, bad⟩ := N
  simp only [a5_20, a5_21, a5_22, a5_23, a5_24, wpc_skip, wpc_ops, wpc_draw, wpc_seq, wpc_cond, wpc_block, wpc_loop, wpc_exit, wpc_scope, wpc_ret, seqQ_norm, seqQ_ret, seqQ_exit, blockQ'_norm, blockQ'_ret, blockQ'_exit, roundQ_norm, roundQ_ret, roundQ_exit, condK_true, condK_false, wpo_nil', wpo_none, wpo_some, opsK_apply, guardK_tt, guardK_ff, guardK_tf, guardK_ft, wp1_call, callK_ret, wp1_mv', wp1_bin', wp1_un', wp1_eq', wp1_extract', wp1_pick', wp1_len', wp1_load', wp1_conv', wp1_store', wp1_idxAddr', wp1_append', wp1_mkIface', wp1_alloc', rd_t, rd_c, ok_t, ok_c, put_some, put_none, get_put, reduceIte, Nat.reduceEqDiff, AV.bool.injEq, Option.some.injEq, exists_eq_left', Option.map_some, Option.bind_some, opds_nil, opds_cons, opd_t, opd_c, aBin, aInt, decide_true, decide_false, negIf, wp1_nilCheck', wp1_fieldAddr', wp1_slice, op_slice, opdo_some, opdo_none, wp1_lit, op_lit, parts_nil, parts_cons, wp1_build, op_build, wp1_box, op_box, g0, g1, g6, g9, g12, g13, wc_eq w1, wc_eq w2, wc_eq w3, wc_eq w4, wc_eq hsame, aExtract, ex0, ex1, ex20, ex21, ex22, hb2, Bool.not_true, bx, by_, aUn, aStr, hn, aPick]
  refine own_D (id := id) (id2 := h1.next) (by omega) ho4 kk k4 ?_ ?_ (by rw [hh.2]; exact hw) hh.1 hx4 hmut ?_ hxl ?_ ?_ ?_ hQ
  · intro e
    have := k.acc.ownLt ho e; omega
  · intro e
    rcases own4 _ e with e | e
    · rcases own3 _ e with e | e
      · cases e
      · omega
    · have := c3.1; omega
  · intro i e
    have h5 := hx.ownLt ho e
    refine ⟨(hdis i e).1, by omega, (hdis i e).2, fun e2 => ?_⟩
    rcases own4 _ e2 with e | e
    · rcases own3 _ e with e | e
      · cases e
      · omega
    · have := c3.1; omega
  · simp only [get_put, reduceIte, Nat.reduceEqDiff, g9]
  · simp only [get_put, reduceIte, Nat.reduceEqDiff]
  · simp only [get_put, reduceIte, Nat.reduceEqDiff, g12]

theorem own_none {v : AV} {bs : List UInt8} (hb : ∀ h, Bytes h v bs) : v.own = none := by
  cases hb .empty with
  | nils => rfl
  | fs full => rfl
  | sl id gen off cap cs _ hat hle hc hcap => simp [at_look, Heap.look, Heap.empty, Tr.get] at hat

theorem own_bad {w : Int} (h2 : w ≠ 2) (h4 : w ≠ 4) {bv : AV} {b : List UInt8} (hb : ∀ h, Bytes h bv b) (hsm : b.length ≤ 16777216) : WC env 5 [.int .i64 w, bv] .empty (fun o => ∃ h', o = .ret ⟨.bool true, h', .write⟩) := by
  obtain ⟨c, h1, k1, ha, hacc, hlen, hle, ho1, hown, hmut⟩ := append_own HeapOk.empty (hb .empty) (by omega)
  refine call_body rfl rfl (.inl rfl) ?_
  simp only [a5, a5_0, a5_1, a5_2, a5_3, a5_4, a5_5, Slots.ofList, wpc_skip, wpc_ops, wpc_draw, wpc_seq, wpc_cond, wpc_block, wpc_loop, wpc_exit, wpc_scope, wpc_ret, seqQ_norm, seqQ_ret, seqQ_exit, blockQ'_norm, blockQ'_ret, blockQ'_exit, roundQ_norm, roundQ_ret, roundQ_exit, condK_true, condK_false, wpo_nil', wpo_none, wpo_some, opsK_apply, guardK_tt, guardK_ff, guardK_tf, guardK_ft, wp1_call, callK_ret, wp1_mv', wp1_bin', wp1_un', wp1_eq', wp1_extract', wp1_pick', wp1_len', wp1_load', wp1_conv', wp1_store', wp1_idxAddr', wp1_append', wp1_mkIface', wp1_alloc', rd_t, rd_c, ok_t, ok_c, put_some, put_none, get_put, reduceIte, Nat.reduceEqDiff, AV.bool.injEq, Option.some.injEq, exists_eq_left', Option.map_some, Option.bind_some, opds_nil, opds_cons, opd_t, opd_c, aBin, aInt, decide_true, decide_false, negIf, wp1_nilCheck', wp1_fieldAddr', wp1_slice, op_slice, opdo_some, opdo_none, wp1_lit, op_lit, parts_nil, parts_cons, wp1_build, op_build, wp1_box, op_box, aFill, List.length_nil, Nat.mul_one, ha, wc_eq (split_bad h2 h4 c h1), wc_eq (new_bad h2 h4 h1), wc_eq (awake_spec h1), aExtract, ex0, ex1, ex20, ex21, ex22, eq_fault, Bool.not_false, Bool.not_true, aPick, aUn]
  exact ⟨[.bool true], by simp only [Env.results, Option.map_some, get_put, reduceIte, Nat.reduceEqDiff], h1, rfl⟩

theorem own_good {w : Nat} (hw : w = 2 ∨ w = 4) {bv : AV} {b : List UInt8} (hb : ∀ h, Bytes h bv b) (hsm : b.length ≤ 16777216) : WC env 5 [.int .i64 w, bv] .empty (fun o => ∃ h', o = .ret ⟨.bool true, h', .write⟩) := by
  have hbn := own_none hb
  obtain ⟨c, h1, k1, ha, hacc, hlen, hle, ho1, hown, hmut⟩ := append_own HeapOk.empty (hb .empty) (by omega)
  obtain ⟨o, ev1, h2, lv, cells, n, e, ho2, hl2, hL, rfl⟩ := split_ls hw ho1 hacc.toBytes (by omega)
  have w1 : WC env 14 [.int .i64 w, c] h1 (fun o => o = _) := ⟨_, ev1, rfl⟩
  have w2 := new_spec hw h2
  have ho3 := ho2.new ((Rs.mk w 0 0 0 0 false).cells .nils)
  have k3 : Rd (h2.new ((Rs.mk w 0 0 0 0 false).cells .nils)) h2.next ⟨w, 0, 0, 0, 0, false⟩ [] .nils := ⟨at_new _, .nils, by simp [AV.own], rfl⟩
  have hn2 : (h2.new ((Rs.mk w 0 0 0 0 false).cells .nils)).next = h2.next + 1 := rfl
  have hl12 := hl2.1
  have hc3 := (hacc.toBytes.le hl2).le (le_new ho2 ((Rs.mk w 0 0 0 0 false).cells .nils))
  obtain ⟨o, ev4, h4, hv4, ho4, k4, c4, own4, rfl⟩ := feed_spec ho3 k3 hc3 (fun e => by have := hown _ e; omega) (fun i e e2 => by cases e2) (by dsimp only; omega) rfl (by simp; omega)
  have w4 : WC env 9 [.ptr h2.next 0 0, c] (h2.new ((Rs.mk w 0 0 0 0 false).cells .nils)) (fun o => o = _) := ⟨_, ev4, rfl⟩
  have k4' : Rd h4 h2.next ⟨w, b.length, 0, 0, 0, false⟩ b hv4 := by simpa using k4
  have hk0 : (⟨w, b.length, 0, 0, 0, false⟩ : Rs).ok b := ⟨Nat.le_refl _, Nat.le_refl _, by dsimp only; omega⟩
  obtain ⟨o, ev5, h5, hv5, x, ho5, k5, c5, own5, hx, xown, xmut, rfl⟩ := next_spec ho4 k4' hw hk0
  have w5 : WC env 10 [.ptr h2.next 0 0] h4 (fun o => o = _) := ⟨_, ev5, rfl⟩
  have c35 : Chg (fun i => i = h2.next) (h2.new ((Rs.mk w 0 0 0 0 false).cells .nils)) h5 := (c4.mono fun i e => e.elim (fun e => e) fun e => by cases e).trans c5
  have hc5 := hc3.chg c35 fun i e e2 => by have := hown _ e; omega
  obtain ⟨cx, _, bx⟩ := hc5.b2s
  obtain ⟨cy, _, by_⟩ := (hb h5).b2s
  have hn := ne_self b
  have hlc := hc5.lenOp
  have hlb := (hb (h2.new ((Rs.mk w 0 0 0 0 false).cells .nils))).lenOp
  have z0 : ((b.length : Int) > 16777216) = False := eq_false (by omega)
  have y1 : aEq .ptr (.ptr h2.next 0 0) .nilp = some false := rfl
  have hL3 : Lists h5 lv cells (lsF w b) h1.next := hL.chg2 ho2 ((le_new ho2 _).chg.trans c35) fun i hi e => by omega
  have hdis : ∀ i, c.own = some i → i ≠ h2.next ∧ hv5.own ≠ some i ∧ x.own ≠ some i := by
    intro i e
    have q1 := hown _ e
    refine ⟨by omega, fun e2 => ?_, fun e2 => ?_⟩
    · rcases own5 _ e2 with e3 | e3
      · rcases own4 _ e3 with e4 | e4
        · cases e4
        · omega
      · have := c4.1; omega
    · have := (xown _ e2).1; have := c4.1; omega
  refine call_body rfl rfl (.inl rfl) ?_
  simp only [a5, a5_0, a5_1, a5_2, a5_3, a5_4, a5_6, a5_8, a5_10, a5_11, a5_12, a5_14, Slots.ofList, wpc_skip, wpc_ops, wpc_draw, wpc_seq, wpc_cond, wpc_block, wpc_loop, wpc_exit, wpc_scope, wpc_ret, seqQ_norm, seqQ_ret, seqQ_exit, blockQ'_norm, blockQ'_ret, blockQ'_exit, roundQ_norm, roundQ_ret, roundQ_exit, condK_true, condK_false, wpo_nil', wpo_none, wpo_some, opsK_apply, guardK_tt, guardK_ff, guardK_tf, guardK_ft, wp1_call, callK_ret, wp1_mv', wp1_bin', wp1_un', wp1_eq', wp1_extract', wp1_pick', wp1_len', wp1_load', wp1_conv', wp1_store', wp1_idxAddr', wp1_append', wp1_mkIface', wp1_alloc', rd_t, rd_c, ok_t, ok_c, put_some, put_none, get_put, reduceIte, Nat.reduceEqDiff, AV.bool.injEq, Option.some.injEq, exists_eq_left', Option.map_some, Option.bind_some, opds_nil, opds_cons, opd_t, opd_c, aBin, aInt, decide_true, decide_false, negIf, wp1_nilCheck', wp1_fieldAddr', wp1_slice, op_slice, opdo_some, opdo_none, wp1_lit, op_lit, parts_nil, parts_cons, wp1_build, op_build, wp1_box, op_box, aFill, List.length_nil, Nat.mul_one, ha, wc_eq w1, wc_eq w2, wc_eq (awake_spec _), aExtract, ex0, ex1, ex20, ex21, ex22, eq_nil, Bool.not_false, Bool.not_true, aPick, aUn, y1, hlb, z0, wc_eq w4, wc_eq w5, bx, by_, aStr, hn, hlc]
  refine own_loop1 (n := b.length) (by omega) (fun e => hmut (fun e2 => e (by rw [e2]; rfl))) (b.length + 1) 0 b h5 _ (by omega) (by omega) ho5 hc5 rfl ?_ ?_ ?_ fun σ' h6 ho6 c6 s6 => ?_
  · simp only [get_put, reduceIte, Nat.reduceEqDiff]
  · simp only [get_put, reduceIte, Nat.reduceEqDiff]
  · simp only [get_put, reduceIte, Nat.reduceEqDiff]; rfl
  · simp only [blockQ'_exit, reduceIte, seqQ_norm]
    refine own_C (id := h2.next) (b0 := h1.next) hw ho6 (k5.chg c6 (fun e => (hdis _ e).1 rfl) fun i e e2 => (hdis i e2).2.1 e) hsm hb (hL3.chg c6 fun i hi e => by have := hown _ e; omega)
      (hx.chg c6 fun i e e2 => (hdis i e2).2.2 e) xmut (fun i e => ⟨fun e2 => ?_, (xown i e).2⟩) ?_ ?_ ?_ ?_ ?_ ?_ fun σ' h' g4 => ?_
    · have := (xown _ e).1; have := c4.1; omega
    · rw [s6 0 (by omega)]; simp only [get_put, reduceIte, Nat.reduceEqDiff]
    · rw [s6 1 (by omega)]; simp only [get_put, reduceIte, Nat.reduceEqDiff]
    · rw [s6 6 (by omega)]; simp only [get_put, reduceIte, Nat.reduceEqDiff]
    · rw [s6 9 (by omega)]; simp only [get_put, reduceIte, Nat.reduceEqDiff]
    · rw [s6 12 (by omega)]; simp only [get_put, reduceIte, Nat.reduceEqDiff]
    · rw [s6 13 (by omega)]; simp only [get_put, reduceIte, Nat.reduceEqDiff]
    · exact ⟨[.bool true], by simp only [Env.results, Option.map_some, g4], h', rfl⟩

theorem own_spec {w : Int} {bv : AV} {b : List UInt8} (hb : ∀ h, Bytes h bv b) (hsm : b.length ≤ 16777216) : WC env 5 [.int .i64 w, bv] .empty (fun o => ∃ h', o = .ret ⟨.bool true, h', .write⟩) := by
  by_cases h2 : w = 2
  · subst h2; exact own_good (w := 2) (.inl rfl) hb hsm
  by_cases h4 : w = 4
  · subst h4; exact own_good (w := 4) (.inr rfl) hb hsm
  exact own_bad h2 h4 hb hsm
end Go.Fr
