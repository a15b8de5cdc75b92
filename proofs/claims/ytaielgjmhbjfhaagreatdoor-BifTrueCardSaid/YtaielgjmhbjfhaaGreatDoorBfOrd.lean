/-
  The order of two terms.
-/
import Derived.Test.YtaielgjmhbjfhaaGreatDoorBfCmp
set_option linter.unusedVariables false
set_option linter.unusedSimpArgs false
set_option maxRecDepth 20000
namespace Go.AM
/-- a call of a value that is known -/
def callvK (E : Env) : Option AV → Option (List AV) → Heap → (COut → Prop) → Prop
  | some (.fn (.func g) first cap), some vs, h, Q => WC E g (first ++ vs ++ cap) h Q
  | _, _, _, _ => False
theorem wp1_callv' {E : Env} {f : Opd} {args : List Opd} {d : Option Nat} {s : St} {K : St → Cls → Prop} {Q : AExit → St → Prop} : wp1 E (.callv f args) d s K Q = callvK E (E.opd s.σ f) (E.opds s.σ args) s.h (callK s d K Q) := by
  refine propext ⟨?_, ?_⟩
  · rintro ⟨g, first, cap, vs, h1, h2, h3⟩
    rw [h1, h2]; exact h3
  · intro h
    unfold callvK at h
    split at h
    · rename_i g first cap vs e1 e2
      exact ⟨g, first, cap, vs, e1, e2, h⟩
    · exact h.elim
theorem callvK_fn {E : Env} {g : Nat} {vs : List AV} {h : Heap} {Q : COut → Prop} : callvK E (some (.fn (.func g) [] [])) (some vs) h Q = WC E g vs h Q := by
  show WC E g ([] ++ vs ++ []) h Q = _
  rw [List.nil_append, List.append_nil]
end Go.AM
namespace Go.Bf
open Go.AM

mutual
def Wf : Tm → Prop
  | .mk k i s c nf ns af ar => kindOk (.mk k i s c nf ns af ar) = true ∧ Wfs ar
def Wfs : List Tm → Prop
  | [] => True
  | t :: l => Wf t ∧ Wfs l
end
theorem Wfs.get : ∀ {l : List Tm} (h : Wfs l) {t : Tm}, t ∈ l → Wf t
  | [], h, t, m => by simp at m
  | u :: l, h, t, m => by
    rw [Wfs] at h
    rcases List.mem_cons.1 m with rfl | m
    · exact h.1
    · exact Wfs.get h.2 m
theorem wf_walk : ∀ t deep n d, (walkF t deep n d).1 = none → Wf t := by
  refine tm_ind fun k i s c nf ns af ar ih deep n d h => ?_
  have go : ∀ (l : List Tm), (∀ t, t ∈ l → t ∈ ar) → ∀ deep n d, (walkFs l deep n d).1 = none → Wfs l := by
    intro l
    induction l with
    | nil => intro _ _ _ _ _; trivial
    | cons t l ihl =>
      intro hl deep n d h
      have h1 := ih t (hl t (by simp)) deep n d
      rw [walkFs] at h
      split at h
      · rename_i n' d' e
        rw [e] at h1
        exact ⟨h1 rfl, ihl (fun t m => hl t (by simp [m])) _ _ _ h⟩
      · cases h
  rw [walkF] at h
  split at h
  · cases h
  split at h
  · cases h
  split at h
  · cases h
  · rename_i e
    refine ⟨?_, go ar (fun _ m => m) _ _ _ h⟩
    cases hk : kindOk (.mk k i s c nf ns af ar) with
    | true => rfl
    | false => rw [formF, if_pos hk] at e; cases e
theorem wf_chk {t : Tm} (h : chkF t = none) : Wf t := wf_walk t 1 0 0 h

mutual
def ordF : Tm → Tm → Int
  | .mk k i s c nf ns af ar, .mk k' i' s' c' nf' ns' af' ar' =>
    if k ≠ k' then cmpI k k'
    else if k = 1 then cmpI i i'
    else if k = 2 then cmpS s s'
    else if k = 3 ∨ k = 4 then orI [cmpS s s', cmpI c c', cmpNs ns ns']
    else if k = 5 then orI [cmpI ar.length ar'.length, ordFs ar ar']
    else if k = 7 then ordL ar ar'
    else 0
def ordFs : List Tm → List Tm → Int
  | [], [] => 0
  | [], _ :: _ => -1
  | _ :: _, [] => 1
  | a :: l, b :: m => if ordF a b ≠ 0 then ordF a b else ordFs l m
def ordL : List Tm → List Tm → Int
  | [], _ => 0
  | _ :: _, [] => 0
  | a :: l, b :: m =>
    if l.length = 0 then (if m.length = 0 then ordF a b else cmpI a.kind 7)
    else if m.length = 0 then cmpI 7 b.kind
    else if ordF a b ≠ 0 then ordF a b else ordL l m
end

def OrdOk (a : Tm) : Prop := ∀ b, b.Ok → Wf b → ∀ h, WC env 53 [.agg (tc a), .agg (tc b)] h (fun o => o = .ret ⟨.int .i64 (ordF a b), h, .none⟩)

theorem cmpf_loop {f1 f2 : Option Bool} {l m : List Tm} (hP : ∀ t, t ∈ l → OrdOk t) (okm : Oks m) (wfm : Wfs m) (hl : l.length < 9223372036854775808) (hm : m.length < 9223372036854775808) {Q : AExit → St → Prop} :
    ∀ (f i : Nat) (σ : Slots) (h : Heap), l.length - i < f → i ≤ l.length → i ≤ m.length → HeapOk h → σ.get 0 = slAV f1 l.length (tcs l) → σ.get 1 = slAV f2 m.length (tcs m) → σ.get 2 = .fn (.func 53) [] [] → σ.get 11 = slAV f1 l.length (tcs l) → σ.get 12 = .int .i64 l.length → σ.get 13 = .int .i64 i →
    (∀ σ' h', (∀ x, σ'.get 6 = .int .i64 x → x = ordFs (l.drop i) (m.drop i) → Q .ret ⟨σ', h'⟩) ∧ (σ'.get 0 = σ.get 0 → σ'.get 1 = σ.get 1 → (ordFs (l.drop i) (m.drop i) = if l.length < m.length then -1 else 0) → Q (.exit 0) ⟨σ', h'⟩)) →
    WPr env a95_l11 ⟨σ, h⟩ Q := by
  intro f
  induction f with
  | zero => intro i σ h h1; omega
  | succ f ih =>
    intro i σ h hf hi hi' ho g0 g1 g2 g11 g12 g13 hQ
    refine wpr_round' fun b hb => ?_
    have nm : ∀ h, aLenOp false h (slAV f2 m.length (tcs m)) = some ⟨.int .i64 m.length, h, .none⟩ := fun h => len_sl _ _ _ (fun _ => trivial) h
    by_cases c1 : i < l.length
    · have z0 : ((i : Int) < (l.length : Int)) = True := eq_true (by omega)
      have zi : IntKind.wrap .i64 ((i : Int) + 1) = ((i + 1 : Nat) : Int) := wrap_nat (by omega) (by omega)
      have lx := idx_args (f := f1) c1
      have ld := ld_args c1 h
      have hd1 : l.drop i = l[i] :: l.drop (i + 1) := List.drop_eq_getElem_cons c1
      obtain ⟨h2, st2, ho2, le2, at2⟩ := box_t ho l[i]
      by_cases c2 : i < m.length
      · have z1 : ((i : Int) ≥ (m.length : Int)) = False := eq_false (by omega)
        have lx2 := idx_args (f := f2) c2
        have ld2 := ld_args c2 h2
        have hd2 : m.drop i = m[i] :: m.drop (i + 1) := List.drop_eq_getElem_cons c2
        obtain ⟨h3, st3, ho3, le3, at3⟩ := box_t ho2 m[i]
        have lt2 := ld_t (le3.2 _ _ _ at2)
        have lt3 := ld_t at3
        have wo := hP l[i] (List.getElem_mem c1) m[i] (okm.get (List.getElem_mem c2)) (wfm.get (List.getElem_mem c2))
        rw [hd1, hd2, ordFs] at hQ
        by_cases c3 : ordF l[i] m[i] = 0
        · have z3 : (ordF l[i] m[i] != 0) = false := by simpa using c3
          rw [if_neg (by omega)] at hQ
          simp only [a95_l11, a95_2, a95_3, a95_4, a95_6, a95_7, a95_8, a95_10, wpc_skip, wpc_ops, wpc_draw, wpc_seq, wpc_cond, wpc_block, wpc_loop, wpc_exit, wpc_scope, wpc_ret, seqQ_norm, seqQ_ret, seqQ_exit, blockQ'_norm, blockQ'_ret, blockQ'_exit, roundQ_norm, roundQ_ret, roundQ_exit, condK_true, condK_false, wpo_nil', wpo_none, wpo_tt, wpo_ff, wpo_tf, wpo_ft, opsK_c, isC_none, isC_read, isC_write, wp1_call, callK_ret, wp1_mv', wp1_bin', wp1_un', wp1_eq', wp1_extract', wp1_pick', wp1_len', wp1_load', wp1_conv', wp1_store', wp1_idxAddr', wp1_append', wp1_mkIface', wp1_alloc', rd_t, rd_c, ok_t, ok_c, put_some, put_none, get_put, reduceIte, Nat.reduceEqDiff, AV.bool.injEq, Option.some.injEq, exists_eq_left', Option.map_some, Option.bind_some, opds_nil, opds_cons, opd_t, opd_c, aBin, aInt, decide_true, decide_false, negIf, wp1_nilCheck', wp1_fieldAddr', wp1_slice, op_slice, opdo_some, opdo_none, wp1_lit, op_lit, parts_nil, parts_cons, wp1_build, op_build, wp1_box, op_box, wp1_callv', callvK_fn, g0, g1, g2, g11, g12, g13, z0, z1, zi, lx, ld, lx2, ld2, nm, st2, st3, lt2, lt3, wc_eq (wo _), z3]
          subst hb
          refine ih (i + 1) _ h3 (by omega) (by omega) (by omega) ho3 ?_ ?_ ?_ ?_ ?_ ?_ fun σ' h' => ⟨fun x => (hQ σ' h').1 x, fun e0 e1 => (hQ σ' h').2 (by rw [e0]; simp only [get_put, reduceIte, Nat.reduceEqDiff]) (by rw [e1]; simp only [get_put, reduceIte, Nat.reduceEqDiff])⟩
          · simp only [get_put, reduceIte, Nat.reduceEqDiff, g0]
          · simp only [get_put, reduceIte, Nat.reduceEqDiff, g1]
          · simp only [get_put, reduceIte, Nat.reduceEqDiff, g2]
          · simp only [get_put, reduceIte, Nat.reduceEqDiff, g11]
          · simp only [get_put, reduceIte, Nat.reduceEqDiff, g12]
          · simp only [get_put, reduceIte, Nat.reduceEqDiff]
        · have z3 : (ordF l[i] m[i] != 0) = true := by simpa using c3
          rw [if_pos c3] at hQ
          simp only [a95_l11, a95_2, a95_3, a95_4, a95_6, a95_7, a95_8, a95_9, wpc_skip, wpc_ops, wpc_draw, wpc_seq, wpc_cond, wpc_block, wpc_loop, wpc_exit, wpc_scope, wpc_ret, seqQ_norm, seqQ_ret, seqQ_exit, blockQ'_norm, blockQ'_ret, blockQ'_exit, roundQ_norm, roundQ_ret, roundQ_exit, condK_true, condK_false, wpo_nil', wpo_none, wpo_tt, wpo_ff, wpo_tf, wpo_ft, opsK_c, isC_none, isC_read, isC_write, wp1_call, callK_ret, wp1_mv', wp1_bin', wp1_un', wp1_eq', wp1_extract', wp1_pick', wp1_len', wp1_load', wp1_conv', wp1_store', wp1_idxAddr', wp1_append', wp1_mkIface', wp1_alloc', rd_t, rd_c, ok_t, ok_c, put_some, put_none, get_put, reduceIte, Nat.reduceEqDiff, AV.bool.injEq, Option.some.injEq, exists_eq_left', Option.map_some, Option.bind_some, opds_nil, opds_cons, opd_t, opd_c, aBin, aInt, decide_true, decide_false, negIf, wp1_nilCheck', wp1_fieldAddr', wp1_slice, op_slice, opdo_some, opdo_none, wp1_lit, op_lit, parts_nil, parts_cons, wp1_build, op_build, wp1_box, op_box, wp1_callv', callvK_fn, g0, g1, g2, g11, g12, g13, z0, z1, zi, lx, ld, lx2, ld2, nm, st2, st3, lt2, lt3, wc_eq (wo _), z3]
          exact (hQ _ _).1 _ (by simp only [get_put, reduceIte, Nat.reduceEqDiff]) rfl
      · have z1 : ((i : Int) ≥ (m.length : Int)) = True := eq_true (by omega)
        have hd2 : m.drop i = [] := List.drop_of_length_le (by omega)
        rw [hd1, hd2, ordFs] at hQ
        simp only [a95_l11, a95_2, a95_3, a95_4, a95_5, wpc_skip, wpc_ops, wpc_draw, wpc_seq, wpc_cond, wpc_block, wpc_loop, wpc_exit, wpc_scope, wpc_ret, seqQ_norm, seqQ_ret, seqQ_exit, blockQ'_norm, blockQ'_ret, blockQ'_exit, roundQ_norm, roundQ_ret, roundQ_exit, condK_true, condK_false, wpo_nil', wpo_none, wpo_tt, wpo_ff, wpo_tf, wpo_ft, opsK_c, isC_none, isC_read, isC_write, wp1_call, callK_ret, wp1_mv', wp1_bin', wp1_un', wp1_eq', wp1_extract', wp1_pick', wp1_len', wp1_load', wp1_conv', wp1_store', wp1_idxAddr', wp1_append', wp1_mkIface', wp1_alloc', rd_t, rd_c, ok_t, ok_c, put_some, put_none, get_put, reduceIte, Nat.reduceEqDiff, AV.bool.injEq, Option.some.injEq, exists_eq_left', Option.map_some, Option.bind_some, opds_nil, opds_cons, opd_t, opd_c, aBin, aInt, decide_true, decide_false, negIf, wp1_nilCheck', wp1_fieldAddr', wp1_slice, op_slice, opdo_some, opdo_none, wp1_lit, op_lit, parts_nil, parts_cons, wp1_build, op_build, wp1_box, op_box, g0, g1, g11, g12, g13, z0, z1, zi, lx, ld, nm, st2]
        exact (hQ _ _).1 _ (by simp only [get_put, reduceIte, Nat.reduceEqDiff]) rfl
    · have z0 : ((i : Int) < (l.length : Int)) = False := eq_false (by omega)
      have hd1 : l.drop i = [] := List.drop_of_length_le (by omega)
      simp only [a95_l11, a95_2, wpc_skip, wpc_ops, wpc_draw, wpc_seq, wpc_cond, wpc_block, wpc_loop, wpc_exit, wpc_scope, wpc_ret, seqQ_norm, seqQ_ret, seqQ_exit, blockQ'_norm, blockQ'_ret, blockQ'_exit, roundQ_norm, roundQ_ret, roundQ_exit, condK_true, condK_false, wpo_nil', wpo_none, wpo_tt, wpo_ff, wpo_tf, wpo_ft, opsK_c, isC_none, isC_read, isC_write, wp1_call, callK_ret, wp1_mv', wp1_bin', wp1_un', wp1_eq', wp1_extract', wp1_pick', wp1_len', wp1_load', wp1_conv', wp1_store', wp1_idxAddr', wp1_append', wp1_mkIface', wp1_alloc', rd_t, rd_c, ok_t, ok_c, put_some, put_none, get_put, reduceIte, Nat.reduceEqDiff, AV.bool.injEq, Option.some.injEq, exists_eq_left', Option.map_some, Option.bind_some, opds_nil, opds_cons, opd_t, opd_c, aBin, aInt, decide_true, decide_false, negIf, wp1_nilCheck', wp1_fieldAddr', wp1_slice, op_slice, opdo_some, opdo_none, wp1_lit, op_lit, parts_nil, parts_cons, wp1_build, op_build, wp1_box, op_box, g12, g13, z0]
      refine (hQ _ _).2 (by simp only [get_put, reduceIte, Nat.reduceEqDiff]) (by simp only [get_put, reduceIte, Nat.reduceEqDiff]) ?_
      rw [hd1]
      cases e : m.drop i with
      | nil =>
        have : m.length ≤ i := List.drop_eq_nil_iff.1 e
        rw [if_neg (by omega), ordFs]
      | cons x y =>
        have : ¬ m.length ≤ i := fun c => by rw [List.drop_of_length_le c] at e; cases e
        rw [if_pos (by omega), ordFs]
theorem cmpf_spec (f1 f2 : Option Bool) (l m : List Tm) (hP : ∀ t, t ∈ l → OrdOk t) (okm : Oks m) (wfm : Wfs m) (hl : l.length < 9223372036854775808) (hm : m.length < 9223372036854775808) (h : Heap) : WC env 95 [slAV f1 l.length (tcs l), slAV f2 m.length (tcs m), .fn (.func 53) [] []] h (fun o => o = .ret ⟨.int .i64 (ordFs l m), h, .none⟩) := by
  refine call_pure rfl rfl rfl (by simp only [AV.noRefs, AV.noRef, noRef_sl _ _ (noRef_tcs _), Bool.and_self]) ?_
  have nl : ∀ h, aLenOp false h (slAV f1 l.length (tcs l)) = some ⟨.int .i64 l.length, h, .none⟩ := fun h => len_sl _ _ _ (fun _ => trivial) h
  have nm : ∀ h, aLenOp false h (slAV f2 m.length (tcs m)) = some ⟨.int .i64 m.length, h, .none⟩ := fun h => len_sl _ _ _ (fun _ => trivial) h
  simp only [a95, a95_0, a95_1, Slots.ofList, wpc_skip, wpc_ops, wpc_draw, wpc_seq, wpc_cond, wpc_block, wpc_loop, wpc_exit, wpc_scope, wpc_ret, seqQ_norm, seqQ_ret, seqQ_exit, blockQ'_norm, blockQ'_ret, blockQ'_exit, roundQ_norm, roundQ_ret, roundQ_exit, condK_true, condK_false, wpo_nil', wpo_none, wpo_tt, wpo_ff, wpo_tf, wpo_ft, opsK_c, isC_none, isC_read, isC_write, wp1_call, callK_ret, wp1_mv', wp1_bin', wp1_un', wp1_eq', wp1_extract', wp1_pick', wp1_len', wp1_load', wp1_conv', wp1_store', wp1_idxAddr', wp1_append', wp1_mkIface', wp1_alloc', rd_t, rd_c, ok_t, ok_c, put_some, put_none, get_put, reduceIte, Nat.reduceEqDiff, AV.bool.injEq, Option.some.injEq, exists_eq_left', Option.map_some, Option.bind_some, opds_nil, opds_cons, opd_t, opd_c, aBin, aInt, decide_true, decide_false, negIf, wp1_nilCheck', wp1_fieldAddr', wp1_slice, op_slice, opdo_some, opdo_none, wp1_lit, op_lit, parts_nil, parts_cons, wp1_build, op_build, wp1_box, op_box, nl]
  refine cmpf_loop (f1 := f1) (f2 := f2) hP okm wfm hl hm (l.length + 1) 0 _ _ (by omega) (by omega) (by omega) HeapOk.empty ?_ ?_ ?_ ?_ ?_ ?_ fun σ' h' => ⟨fun x g e => ?_, fun e0 e1 e => ?_⟩
  · simp only [get_put, reduceIte, Nat.reduceEqDiff]
  · simp only [get_put, reduceIte, Nat.reduceEqDiff]
  · simp only [get_put, reduceIte, Nat.reduceEqDiff]
  · simp only [get_put, reduceIte, Nat.reduceEqDiff]
  · simp only [get_put, reduceIte, Nat.reduceEqDiff]
  · simp only [get_put, reduceIte, Nat.reduceEqDiff]; rfl
  · simp only [wpc_skip, wpc_ops, wpc_draw, wpc_seq, wpc_cond, wpc_block, wpc_loop, wpc_exit, wpc_scope, wpc_ret, seqQ_norm, seqQ_ret, seqQ_exit, blockQ'_norm, blockQ'_ret, blockQ'_exit, roundQ_norm, roundQ_ret, roundQ_exit, condK_true, condK_false, wpo_nil', wpo_none, wpo_tt, wpo_ff, wpo_tf, wpo_ft, opsK_c, isC_none, isC_read, isC_write, wp1_call, callK_ret, wp1_mv', wp1_bin', wp1_un', wp1_eq', wp1_extract', wp1_pick', wp1_len', wp1_load', wp1_conv', wp1_store', wp1_idxAddr', wp1_append', wp1_mkIface', wp1_alloc', rd_t, rd_c, ok_t, ok_c, put_some, put_none, get_put, reduceIte, Nat.reduceEqDiff, AV.bool.injEq, Option.some.injEq, exists_eq_left', Option.map_some, Option.bind_some, opds_nil, opds_cons, opd_t, opd_c, aBin, aInt, decide_true, decide_false, negIf, wp1_nilCheck', wp1_fieldAddr', wp1_slice, op_slice, opdo_some, opdo_none, wp1_lit, op_lit, parts_nil, parts_cons, wp1_build, op_build, wp1_box, op_box]
    exact finI g (by rw [e]; rfl)
  · simp only [get_put, reduceIte, Nat.reduceEqDiff] at e0 e1
    rw [List.drop_zero, List.drop_zero] at e
    by_cases c : l.length < m.length
    · have z : ((l.length : Int) < (m.length : Int)) = True := eq_true (by omega)
      rw [if_pos c] at e
      simp only [a95_12, a95_13, wpc_skip, wpc_ops, wpc_draw, wpc_seq, wpc_cond, wpc_block, wpc_loop, wpc_exit, wpc_scope, wpc_ret, seqQ_norm, seqQ_ret, seqQ_exit, blockQ'_norm, blockQ'_ret, blockQ'_exit, roundQ_norm, roundQ_ret, roundQ_exit, condK_true, condK_false, wpo_nil', wpo_none, wpo_tt, wpo_ff, wpo_tf, wpo_ft, opsK_c, isC_none, isC_read, isC_write, wp1_call, callK_ret, wp1_mv', wp1_bin', wp1_un', wp1_eq', wp1_extract', wp1_pick', wp1_len', wp1_load', wp1_conv', wp1_store', wp1_idxAddr', wp1_append', wp1_mkIface', wp1_alloc', rd_t, rd_c, ok_t, ok_c, put_some, put_none, get_put, reduceIte, Nat.reduceEqDiff, AV.bool.injEq, Option.some.injEq, exists_eq_left', Option.map_some, Option.bind_some, opds_nil, opds_cons, opd_t, opd_c, aBin, aInt, decide_true, decide_false, negIf, wp1_nilCheck', wp1_fieldAddr', wp1_slice, op_slice, opdo_some, opdo_none, wp1_lit, op_lit, parts_nil, parts_cons, wp1_build, op_build, wp1_box, op_box, e0, e1, nl, nm, z]
      exact finI (by simp only [get_put, reduceIte, Nat.reduceEqDiff]; rw [e]) rfl
    · have z : ((l.length : Int) < (m.length : Int)) = False := eq_false (by omega)
      rw [if_neg c] at e
      simp only [a95_12, a95_14, wpc_skip, wpc_ops, wpc_draw, wpc_seq, wpc_cond, wpc_block, wpc_loop, wpc_exit, wpc_scope, wpc_ret, seqQ_norm, seqQ_ret, seqQ_exit, blockQ'_norm, blockQ'_ret, blockQ'_exit, roundQ_norm, roundQ_ret, roundQ_exit, condK_true, condK_false, wpo_nil', wpo_none, wpo_tt, wpo_ff, wpo_tf, wpo_ft, opsK_c, isC_none, isC_read, isC_write, wp1_call, callK_ret, wp1_mv', wp1_bin', wp1_un', wp1_eq', wp1_extract', wp1_pick', wp1_len', wp1_load', wp1_conv', wp1_store', wp1_idxAddr', wp1_append', wp1_mkIface', wp1_alloc', rd_t, rd_c, ok_t, ok_c, put_some, put_none, get_put, reduceIte, Nat.reduceEqDiff, AV.bool.injEq, Option.some.injEq, exists_eq_left', Option.map_some, Option.bind_some, opds_nil, opds_cons, opd_t, opd_c, aBin, aInt, decide_true, decide_false, negIf, wp1_nilCheck', wp1_fieldAddr', wp1_slice, op_slice, opdo_some, opdo_none, wp1_lit, op_lit, parts_nil, parts_cons, wp1_build, op_build, wp1_box, op_box, e0, e1, nl, nm, z]
      exact finI (by simp only [get_put, reduceIte, Nat.reduceEqDiff]; rw [e]) rfl

/-- a slice that holds these terms -/
inductive Sl : AV → List Tm → Prop
  | nil : Sl .nils []
  | fs (b : Bool) (l : List Tm) : Sl (.fs b l.length (tcs l)) l
theorem sl_of (f : Option Bool) (l : List Tm) : Sl (slAV f l.length (tcs l)) l := by
  cases f with
  | none => cases l with
    | nil => exact .nil
    | cons a l => exact .fs false (a :: l)
  | some b => exact .fs b l
theorem Sl.noRef {v : AV} {l : List Tm} (h : Sl v l) : v.noRef = true := by
  cases h with
  | nil => rfl
  | fs b l => exact noRef_tcs l
theorem Sl.eq {v : AV} {l : List Tm} (h : Sl v l) : ∃ f, v = slAV f l.length (tcs l) := by
  cases h with
  | nil => exact ⟨none, rfl⟩
  | fs b l => exact ⟨some b, rfl⟩
theorem Sl.len {v : AV} {l : List Tm} (k : Sl v l) (h : Heap) : aLenOp false h v = some ⟨.int .i64 l.length, h, .none⟩ := by
  cases k with
  | nil => rfl
  | fs b l => rfl
theorem Sl.idx {v : AV} {l : List Tm} (k : Sl v l) {i : Nat} (hi : i < l.length) : aIdxAddr 6 v (.int .i64 i) = some (.fp ((tcs l).drop (i * 6))) := by
  obtain ⟨f, rfl⟩ := k.eq; exact idx_args hi
theorem Sl.tail {v : AV} {a : Tm} {l : List Tm} (k : Sl v (a :: l)) : ∃ v', aSlice 6 v (some (.int .i64 1)) none none = some v' ∧ Sl v' l := by
  cases k with
  | fs b l =>
    refine ⟨.fs b l.length (tcs l), ?_, .fs b l⟩
    have e1 : (tcs (a :: l)).length = (a :: l).length * 6 := tcs_length _
    have e2 : bounds (a :: l).length (a :: l).length (some (.int .i64 ((1 : Nat) : Int))) none none = some (1, (a :: l).length, (a :: l).length) := bounds_from (by simp)
    have e3 : ((tcs (a :: l)).drop (1 * 6)).take (((a :: l).length - 1) * 6) = tcs l := by
      rw [tcs, Nat.one_mul, List.drop_append, List.drop_of_length_le (by rw [tc_length]; exact Nat.le_refl _), tc_length, List.nil_append, Nat.sub_self, List.drop_zero]
      exact List.take_of_length_le (by rw [tcs_length]; simp)
    have e2' : bounds (a :: l).length (a :: l).length (some (.int .i64 1)) none none = some (1, (a :: l).length, (a :: l).length) := e2
    simp only [aSlice, e1, if_true, e2', Option.map_some, e3, beq_self_eq_true, Bool.and_true]
    rfl
end Go.Bf
