/-
  StreamKeeps answers true.
-/
import Derived.Test.YtdolfkffgcmcgaaDoorStStates
set_option linter.unusedVariables false
set_option linter.unusedSimpArgs false
set_option maxRecDepth 20000
namespace Go.AM
theorem wp1_mono2 {E : Env} {op : AOp} {d : Option Nat} {s : St} {K K' : St → Cls → Prop} {Q Q' : AExit → St → Prop} (h : wp1 E op d s K Q) (hk : ∀ s c, K s c → K' s c) (hq : ∀ v s, Q (.panic v) s → Q' (.panic v) s) : wp1 E op d s K' Q' := by
  cases op
  case call f args =>
    obtain ⟨vs, h1, h2⟩ := h
    refine ⟨vs, h1, h2.mono fun o => ?_⟩
    cases o with
    | ret r => exact hk _ _
    | panic v h => exact hq _ _
  case callv f args =>
    obtain ⟨g, a, b, vs, h1, h2, h3⟩ := h
    refine ⟨g, a, b, vs, h1, h2, h3.mono fun o => ?_⟩
    cases o with
    | ret r => exact hk _ _
    | panic v h => exact hq _ _
  case panic x =>
    obtain ⟨t, v, h1, h2⟩ := h
    exact ⟨t, v, h1, hq _ _ h2⟩
  all_goals (obtain ⟨r, h1, h2⟩ := h; exact ⟨r, h1, hk _ _ h2⟩)
def appQ (E : Env) (l2 : List AOper) (Q : AExit → St → Prop) : AExit → St → Prop
  | .norm, s => wpo E l2 s Q
  | e, s => Q e s
theorem wpo_parts {E : Env} {l2 : List AOper} {Q : AExit → St → Prop} : ∀ (l1 : List AOper) (s : St), wpo E l1 s (appQ E l2 Q) → wpo E (l1 ++ l2) s Q
  | [], s, h => h
  | ⟨d, op, none⟩ :: l, s, h => by
    have h : wp1 E op d s (fun s' _ => wpo E l s' (appQ E l2 Q)) (appQ E l2 Q) := h
    exact wp1_mono2 (K' := fun s' _ => wpo E (l ++ l2) s' Q) h (fun s' _ x => wpo_parts l s' x) fun v s x => x
  | ⟨d, op, some (t, w)⟩ :: l, s, h => by
    obtain ⟨b, hb, h⟩ := h
    refine ⟨b, hb, ?_⟩
    by_cases he : b = w
    · rw [if_pos he] at h ⊢
      exact wp1_mono2 (K' := fun s' _ => wpo E (l ++ l2) s' Q) h (fun s' _ x => wpo_parts l s' x) fun v s x => x
    · rw [if_neg he] at h ⊢
      exact wpo_parts l _ h
end Go.AM
namespace Go.St
open Go.AM

def kps (j : Nat) : List AOper := if j = 0 then a8_13.take 7 else if j = 5 then a8_13.drop 47 else (a8_13.drop (10 * j - 3)).take 10
theorem kps_eq : a8_13 = kps 0 ++ (kps 1 ++ (kps 2 ++ (kps 3 ++ (kps 4 ++ kps 5)))) := rfl

section
variable {h : Heap} {σ : Slots} {i7 i9 : Nat} {A B C : Int}
theorem keep0 (g8 : σ.get 8 = .nili) (g10 : σ.get 10 = .nili) {Q : AExit → St → Prop} (hQ : ∀ σ', σ'.get 49 = .bool false → (∀ n, n < 11 → σ'.get n = σ.get n) → Q .norm ⟨σ', h⟩) : wpo env (kps 0) ⟨σ, h⟩ Q := by
  have e : kps 0 = a8_13.take 7 := rfl
  rw [e]
  simp only [a8_13, List.take_succ_cons, List.take_zero, wpc_skip, wpc_ops, wpc_draw, wpc_seq, wpc_cond, wpc_block, wpc_loop, wpc_exit, wpc_scope, wpc_ret, seqQ_norm, seqQ_ret, seqQ_exit, blockQ'_norm, blockQ'_ret, blockQ'_exit, roundQ_norm, roundQ_ret, roundQ_exit, condK_true, condK_false, wpo_nil', wpo_none, wpo_tt, wpo_ff, wpo_tf, wpo_ft, opsK_c, isC_none, isC_read, isC_write, wp1_call, callK_ret, wp1_mv', wp1_bin', wp1_un', wp1_eq', wp1_extract', wp1_pick', wp1_len', wp1_load', wp1_conv', wp1_store', wp1_idxAddr', wp1_append', wp1_mkIface', wp1_alloc', rd_t, rd_c, ok_t, ok_c, put_some, put_none, get_put, reduceIte, Nat.reduceEqDiff, AV.bool.injEq, Option.some.injEq, exists_eq_left', Option.map_some, Option.bind_some, opds_nil, opds_cons, opd_t, opd_c, aBin, aInt, decide_true, decide_false, negIf, wp1_nilCheck', wp1_fieldAddr', wp1_slice, op_slice, opdo_some, opdo_none, wp1_lit, op_lit, parts_nil, parts_cons, wp1_build, op_build, wp1_box, op_box, g8, g10, eq_nil, Bool.not_true, aPick]
  refine hQ _ (by simp only [get_put, reduceIte, Nat.reduceEqDiff]) fun n hn => ?_
  simp only [get_put]
  repeat rw [if_neg (by omega)]
theorem keep1 (g7 : σ.get 7 = .ptr i7 0 0) (g9 : σ.get 9 = .ptr i9 0 0) (la : aLoad h false 1 (.ptr i7 0 2) = some ⟨.int .i64 A, h, .read⟩) (lb : aLoad h false 1 (.ptr i9 0 3) = some ⟨.int .i64 B, h, .read⟩) (lc : aLoad h false 1 (.ptr i7 0 0) = some ⟨.int .i64 C, h, .read⟩) (hs : IntKind.wrap .i64 (B + C) = A) (g : σ.get 49 = .bool false) {Q : AExit → St → Prop} (hQ : ∀ σ', σ'.get 59 = .bool false → (∀ n, n < 11 → σ'.get n = σ.get n) → Q .norm ⟨σ', h⟩) : wpo env (kps 1) ⟨σ, h⟩ Q := by
  have e : kps 1 = (a8_13.drop 7).take 10 := rfl
  have z : (A != A) = false := by simp
  rw [e]
  simp only [a8_13, List.drop_succ_cons, List.drop_zero, List.take_succ_cons, List.take_zero, wpc_skip, wpc_ops, wpc_draw, wpc_seq, wpc_cond, wpc_block, wpc_loop, wpc_exit, wpc_scope, wpc_ret, seqQ_norm, seqQ_ret, seqQ_exit, blockQ'_norm, blockQ'_ret, blockQ'_exit, roundQ_norm, roundQ_ret, roundQ_exit, condK_true, condK_false, wpo_nil', wpo_none, wpo_tt, wpo_ff, wpo_tf, wpo_ft, opsK_c, isC_none, isC_read, isC_write, wp1_call, callK_ret, wp1_mv', wp1_bin', wp1_un', wp1_eq', wp1_extract', wp1_pick', wp1_len', wp1_load', wp1_conv', wp1_store', wp1_idxAddr', wp1_append', wp1_mkIface', wp1_alloc', rd_t, rd_c, ok_t, ok_c, put_some, put_none, get_put, reduceIte, Nat.reduceEqDiff, AV.bool.injEq, Option.some.injEq, exists_eq_left', Option.map_some, Option.bind_some, opds_nil, opds_cons, opd_t, opd_c, aBin, aInt, decide_true, decide_false, negIf, wp1_nilCheck', wp1_fieldAddr', wp1_slice, op_slice, opdo_some, opdo_none, wp1_lit, op_lit, parts_nil, parts_cons, wp1_build, op_build, wp1_box, op_box, g7, g9, g, aFieldAddr, Nat.zero_add, la, lb, lc, hs, z, aPick]
  refine hQ _ (by simp only [get_put, reduceIte, Nat.reduceEqDiff]) fun n hn => ?_
  simp only [get_put]
  repeat rw [if_neg (by omega)]
theorem keep2 (g7 : σ.get 7 = .ptr i7 0 0) (g9 : σ.get 9 = .ptr i9 0 0) (la : aLoad h false 1 (.ptr i9 0 2) = some ⟨.int .i64 A, h, .read⟩) (lb : aLoad h false 1 (.ptr i7 0 3) = some ⟨.int .i64 B, h, .read⟩) (lc : aLoad h false 1 (.ptr i9 0 0) = some ⟨.int .i64 C, h, .read⟩) (hs : IntKind.wrap .i64 (B + C) = A) (g : σ.get 59 = .bool false) {Q : AExit → St → Prop} (hQ : ∀ σ', σ'.get 69 = .bool false → (∀ n, n < 11 → σ'.get n = σ.get n) → Q .norm ⟨σ', h⟩) : wpo env (kps 2) ⟨σ, h⟩ Q := by
  have e : kps 2 = (a8_13.drop 17).take 10 := rfl
  have z : (A != A) = false := by simp
  rw [e]
  simp only [a8_13, List.drop_succ_cons, List.drop_zero, List.take_succ_cons, List.take_zero, wpc_skip, wpc_ops, wpc_draw, wpc_seq, wpc_cond, wpc_block, wpc_loop, wpc_exit, wpc_scope, wpc_ret, seqQ_norm, seqQ_ret, seqQ_exit, blockQ'_norm, blockQ'_ret, blockQ'_exit, roundQ_norm, roundQ_ret, roundQ_exit, condK_true, condK_false, wpo_nil', wpo_none, wpo_tt, wpo_ff, wpo_tf, wpo_ft, opsK_c, isC_none, isC_read, isC_write, wp1_call, callK_ret, wp1_mv', wp1_bin', wp1_un', wp1_eq', wp1_extract', wp1_pick', wp1_len', wp1_load', wp1_conv', wp1_store', wp1_idxAddr', wp1_append', wp1_mkIface', wp1_alloc', rd_t, rd_c, ok_t, ok_c, put_some, put_none, get_put, reduceIte, Nat.reduceEqDiff, AV.bool.injEq, Option.some.injEq, exists_eq_left', Option.map_some, Option.bind_some, opds_nil, opds_cons, opd_t, opd_c, aBin, aInt, decide_true, decide_false, negIf, wp1_nilCheck', wp1_fieldAddr', wp1_slice, op_slice, opdo_some, opdo_none, wp1_lit, op_lit, parts_nil, parts_cons, wp1_build, op_build, wp1_box, op_box, g7, g9, g, aFieldAddr, Nat.zero_add, la, lb, lc, hs, z, aPick]
  refine hQ _ (by simp only [get_put, reduceIte, Nat.reduceEqDiff]) fun n hn => ?_
  simp only [get_put]
  repeat rw [if_neg (by omega)]
theorem keep3 (g7 : σ.get 7 = .ptr i7 0 0) (g9 : σ.get 9 = .ptr i9 0 0) (la : aLoad h false 1 (.ptr i7 0 3) = some ⟨.int .i64 A, h, .read⟩) (lb : aLoad h false 1 (.ptr i7 0 4) = some ⟨.int .i64 B, h, .read⟩) (lc : aLoad h false 1 (.ptr i7 0 1) = some ⟨.int .i64 C, h, .read⟩) (hs : IntKind.wrap .i64 (B + C) = A) (g : σ.get 69 = .bool false) {Q : AExit → St → Prop} (hQ : ∀ σ', σ'.get 79 = .bool false → (∀ n, n < 11 → σ'.get n = σ.get n) → Q .norm ⟨σ', h⟩) : wpo env (kps 3) ⟨σ, h⟩ Q := by
  have e : kps 3 = (a8_13.drop 27).take 10 := rfl
  have z : (A != A) = false := by simp
  rw [e]
  simp only [a8_13, List.drop_succ_cons, List.drop_zero, List.take_succ_cons, List.take_zero, wpc_skip, wpc_ops, wpc_draw, wpc_seq, wpc_cond, wpc_block, wpc_loop, wpc_exit, wpc_scope, wpc_ret, seqQ_norm, seqQ_ret, seqQ_exit, blockQ'_norm, blockQ'_ret, blockQ'_exit, roundQ_norm, roundQ_ret, roundQ_exit, condK_true, condK_false, wpo_nil', wpo_none, wpo_tt, wpo_ff, wpo_tf, wpo_ft, opsK_c, isC_none, isC_read, isC_write, wp1_call, callK_ret, wp1_mv', wp1_bin', wp1_un', wp1_eq', wp1_extract', wp1_pick', wp1_len', wp1_load', wp1_conv', wp1_store', wp1_idxAddr', wp1_append', wp1_mkIface', wp1_alloc', rd_t, rd_c, ok_t, ok_c, put_some, put_none, get_put, reduceIte, Nat.reduceEqDiff, AV.bool.injEq, Option.some.injEq, exists_eq_left', Option.map_some, Option.bind_some, opds_nil, opds_cons, opd_t, opd_c, aBin, aInt, decide_true, decide_false, negIf, wp1_nilCheck', wp1_fieldAddr', wp1_slice, op_slice, opdo_some, opdo_none, wp1_lit, op_lit, parts_nil, parts_cons, wp1_build, op_build, wp1_box, op_box, g7, g9, g, aFieldAddr, Nat.zero_add, la, lb, lc, hs, z, aPick]
  refine hQ _ (by simp only [get_put, reduceIte, Nat.reduceEqDiff]) fun n hn => ?_
  simp only [get_put]
  repeat rw [if_neg (by omega)]
theorem keep4 (g7 : σ.get 7 = .ptr i7 0 0) (g9 : σ.get 9 = .ptr i9 0 0) (la : aLoad h false 1 (.ptr i9 0 3) = some ⟨.int .i64 A, h, .read⟩) (lb : aLoad h false 1 (.ptr i9 0 4) = some ⟨.int .i64 B, h, .read⟩) (lc : aLoad h false 1 (.ptr i9 0 1) = some ⟨.int .i64 C, h, .read⟩) (hs : IntKind.wrap .i64 (B + C) = A) (g : σ.get 79 = .bool false) {Q : AExit → St → Prop} (hQ : ∀ σ', σ'.get 89 = .bool false → (∀ n, n < 11 → σ'.get n = σ.get n) → Q .norm ⟨σ', h⟩) : wpo env (kps 4) ⟨σ, h⟩ Q := by
  have e : kps 4 = (a8_13.drop 37).take 10 := rfl
  have z : (A != A) = false := by simp
  rw [e]
  simp only [a8_13, List.drop_succ_cons, List.drop_zero, List.take_succ_cons, List.take_zero, wpc_skip, wpc_ops, wpc_draw, wpc_seq, wpc_cond, wpc_block, wpc_loop, wpc_exit, wpc_scope, wpc_ret, seqQ_norm, seqQ_ret, seqQ_exit, blockQ'_norm, blockQ'_ret, blockQ'_exit, roundQ_norm, roundQ_ret, roundQ_exit, condK_true, condK_false, wpo_nil', wpo_none, wpo_tt, wpo_ff, wpo_tf, wpo_ft, opsK_c, isC_none, isC_read, isC_write, wp1_call, callK_ret, wp1_mv', wp1_bin', wp1_un', wp1_eq', wp1_extract', wp1_pick', wp1_len', wp1_load', wp1_conv', wp1_store', wp1_idxAddr', wp1_append', wp1_mkIface', wp1_alloc', rd_t, rd_c, ok_t, ok_c, put_some, put_none, get_put, reduceIte, Nat.reduceEqDiff, AV.bool.injEq, Option.some.injEq, exists_eq_left', Option.map_some, Option.bind_some, opds_nil, opds_cons, opd_t, opd_c, aBin, aInt, decide_true, decide_false, negIf, wp1_nilCheck', wp1_fieldAddr', wp1_slice, op_slice, opdo_some, opdo_none, wp1_lit, op_lit, parts_nil, parts_cons, wp1_build, op_build, wp1_box, op_box, g7, g9, g, aFieldAddr, Nat.zero_add, la, lb, lc, hs, z, aPick]
  refine hQ _ (by simp only [get_put, reduceIte, Nat.reduceEqDiff]) fun n hn => ?_
  simp only [get_put]
  repeat rw [if_neg (by omega)]
theorem keep5 (g7 : σ.get 7 = .ptr i7 0 0) (la : aLoad h false 1 (.ptr i7 0 6) = some ⟨.bool false, h, .read⟩) (g : σ.get 89 = .bool false) {Q : AExit → St → Prop} (hQ : ∀ σ', σ'.get 92 = .bool false → (∀ n, n < 11 → σ'.get n = σ.get n) → Q .norm ⟨σ', h⟩) : wpo env (kps 5) ⟨σ, h⟩ Q := by
  have e : kps 5 = a8_13.drop 47 := rfl
  rw [e]
  simp only [a8_13, List.drop_succ_cons, List.drop_zero, wpc_skip, wpc_ops, wpc_draw, wpc_seq, wpc_cond, wpc_block, wpc_loop, wpc_exit, wpc_scope, wpc_ret, seqQ_norm, seqQ_ret, seqQ_exit, blockQ'_norm, blockQ'_ret, blockQ'_exit, roundQ_norm, roundQ_ret, roundQ_exit, condK_true, condK_false, wpo_nil', wpo_none, wpo_tt, wpo_ff, wpo_tf, wpo_ft, opsK_c, isC_none, isC_read, isC_write, wp1_call, callK_ret, wp1_mv', wp1_bin', wp1_un', wp1_eq', wp1_extract', wp1_pick', wp1_len', wp1_load', wp1_conv', wp1_store', wp1_idxAddr', wp1_append', wp1_mkIface', wp1_alloc', rd_t, rd_c, ok_t, ok_c, put_some, put_none, get_put, reduceIte, Nat.reduceEqDiff, AV.bool.injEq, Option.some.injEq, exists_eq_left', Option.map_some, Option.bind_some, opds_nil, opds_cons, opd_t, opd_c, aBin, aInt, decide_true, decide_false, negIf, wp1_nilCheck', wp1_fieldAddr', wp1_slice, op_slice, opdo_some, opdo_none, wp1_lit, op_lit, parts_nil, parts_cons, wp1_build, op_build, wp1_box, op_box, g7, g, aFieldAddr, Nat.zero_add, la, aPick]
  refine hQ _ (by simp only [get_put, reduceIte, Nat.reduceEqDiff]) fun n hn => ?_
  simp only [get_put]
  repeat rw [if_neg (by omega)]
end

theorem keeps_check {h : Heap} {σ : Slots} {i7 i9 m : Nat} {t o : Sd} (bd : Bd true false t o m) (a7 : h.at_ i7 0 = some (pipe false t)) (a9 : h.at_ i9 0 = some (pipe false o)) (g7 : σ.get 7 = .ptr i7 0 0) (g9 : σ.get 9 = .ptr i9 0 0) (g8 : σ.get 8 = .nili) (g10 : σ.get 10 = .nili)
    {Q : AExit → St → Prop} (hQ : ∀ σ', σ'.get 92 = .bool false → (∀ n, n < 11 → σ'.get n = σ.get n) → Q .norm ⟨σ', h⟩) : wpo env a8_13 ⟨σ, h⟩ Q := by
  obtain ⟨c1, c2⟩ := bd.c
  obtain ⟨p1, p2⟩ := bd.p rfl
  obtain ⟨m1, m2⟩ := bd.m
  have ld : ∀ {i : Nat} {s : Sd}, h.at_ i 0 = some (pipe false s) → aLoad h false 1 (.ptr i 0 0) = some ⟨.int .i64 (s.u.length : Int), h, .read⟩ ∧ aLoad h false 1 (.ptr i 0 1) = some ⟨.int .i64 (s.c.length : Int), h, .read⟩ ∧ aLoad h false 1 (.ptr i 0 2) = some ⟨.int .i64 (s.sent : Int), h, .read⟩ ∧ aLoad h false 1 (.ptr i 0 3) = some ⟨.int .i64 (s.moved : Int), h, .read⟩ ∧
      aLoad h false 1 (.ptr i 0 4) = some ⟨.int .i64 (s.read : Int), h, .read⟩ ∧ aLoad h false 1 (.ptr i 0 6) = some ⟨.bool false, h, .read⟩ := fun e => by
    refine ⟨?_, ?_, ?_, ?_, ?_, ?_⟩ <;> (simp only [aLoad, e, Option.bind_some]; rfl)
  obtain ⟨x0, x1, x2, x3, x4, x6⟩ := ld a7
  obtain ⟨y0, y1, y2, y3, y4, y6⟩ := ld a9
  rw [kps_eq]
  refine wpo_parts _ _ (keep0 g8 g10 fun σ1 r1 s1 => ?_)
  refine wpo_parts _ _ (keep1 (by rw [s1 7 (by omega), g7]) (by rw [s1 9 (by omega), g9]) x2 y3 x0 (wrap_nat (by omega) (by omega)) r1 fun σ2 r2 s2 => ?_)
  have k2 : ∀ n, n < 11 → σ2.get n = σ.get n := fun n hn => by rw [s2 n hn, s1 n hn]
  refine wpo_parts _ _ (keep2 (by rw [k2 7 (by omega), g7]) (by rw [k2 9 (by omega), g9]) y2 x3 y0 (wrap_nat (by omega) (by omega)) r2 fun σ3 r3 s3 => ?_)
  have k3 : ∀ n, n < 11 → σ3.get n = σ.get n := fun n hn => by rw [s3 n hn, k2 n hn]
  refine wpo_parts _ _ (keep3 (by rw [k3 7 (by omega), g7]) (by rw [k3 9 (by omega), g9]) x3 x4 x1 (wrap_nat (by omega) (by omega)) r3 fun σ4 r4 s4 => ?_)
  have k4 : ∀ n, n < 11 → σ4.get n = σ.get n := fun n hn => by rw [s4 n hn, k3 n hn]
  refine wpo_parts _ _ (keep4 (by rw [k4 7 (by omega), g7]) (by rw [k4 9 (by omega), g9]) y3 y4 y1 (wrap_nat (by omega) (by omega)) r4 fun σ5 r5 s5 => ?_)
  have k5 : ∀ n, n < 11 → σ5.get n = σ.get n := fun n hn => by rw [s5 n hn, k4 n hn]
  exact keep5 (by rw [k5 7 (by omega), g7]) x6 r5 fun σ6 r6 s6 => hQ _ r6 fun n hn => by rw [s6 n hn, k5 n hn]

/-- an object of five cells, made and filled with a call -/
theorem box5 {h : Heap} (ho : HeapOk h) (o : Op5) : ∃ h', aStore (h.new [.int .i64 0, .int .i64 0, .int .i64 0, .bool false, .nils]) 5 (.ptr h.next 0 0) (.agg o.cells) = some ⟨.undef, h', .write⟩ ∧ HeapOk h' ∧ h.le h' ∧ h'.at_ h.next 0 = some o.cells := by
  obtain ⟨z, ez⟩ : ∃ z, z = [AV.int .i64 0, .int .i64 0, .int .i64 0, .bool false, .nils] := ⟨_, rfl⟩
  rw [← ez]
  have hat : (h.new z).at_ h.next 0 = some z := at_new _
  refine ⟨(h.new z).upd h.next 0 o.cells, op5_store (by rw [ez]; rfl) hat o, (ho.new _).upd (at_look.1 hat) _ _, ?_, at_upd⟩
  have c : Chg (fun i => i = h.next) h ((h.new z).upd h.next 0 o.cells) := (le_new ho z).chg.trans (upd_chg rfl)
  exact ⟨c.1, fun id gen cs e => c.2 _ _ _ (fun x => by have := ho.lt e; omega) e⟩
theorem ld5 {h : Heap} {id : Nat} {o : Op5} (hat : h.at_ id 0 = some o.cells) : aLoad h true 5 (.ptr id 0 0) = some ⟨.agg o.cells, h, .read⟩ := by
  simp only [aLoad, hat, Option.bind_some]; rfl

theorem keeps_states {h : Heap} {id id2 m : Nat} (k : Ty true h id id2 m) : ∃ t o h1, Bd true false t o m ∧ WC env 15 [.ptr id 0 0, .int .i64 0] h (fun y => y = .ret ⟨.tup [.agg (pipe false t), .nili], h1, .write⟩) ∧ HeapOk h1 ∧ h.le h1 ∧
    ∀ h', HeapOk h' → h1.le h' → ∃ h2, HeapOk h2 ∧ h'.le h2 ∧ WC env 15 [.ptr id 0 0, .int .i64 1] h' (fun y => y = .ret ⟨.tup [.agg (pipe false o), .nili], h2, .write⟩) := by
  obtain ⟨cl, t, o, tu, tc, ou, oc, tu2, tc2, ou2, oc2, k, bd⟩ := k
  obtain rfl := bd.q rfl
  obtain ⟨x, ev, h1, ho1, hl1, rfl⟩ := state_spec k.ok k.sr (.inl rfl)
  refine ⟨t, o, h1, bd, ⟨_, ev, rfl⟩, ho1, hl1, fun h' ho' hl' => ?_⟩
  obtain ⟨y, ev2, h2, ho2, hl2, rfl⟩ := state_spec ho' ((k.flip (.inl rfl)).le ho' (Heap.le_trans hl1 hl')).sr (.inr rfl)
  exact ⟨h2, ho2, hl2, _, ev2, rfl⟩

theorem keeps_loop {id id2 : Nat} {v : AV} {l : List Op5} (hv : OpsV v l) (hb : ∀ o ∈ l, ∀ h, Bytes h o.v o.b) (hsm : l.length < 1000000000000) {Q : AExit → St → Prop} :
    ∀ (f i : Nat) (h : Heap) (σ : Slots), l.length - i < f → i ≤ l.length → Ty true h id id2 (room (l.drop i)) → σ.get 0 = v → σ.get 3 = .ptr id 0 0 → σ.get 4 = .ptr id2 0 0 → σ.get 5 = .int .i64 i →
      (∀ σ' h', Q (.exit 0) ⟨σ', h'⟩) → WPr env a8_l16 ⟨σ, h⟩ Q := by
  intro f
  induction f with
  | zero => intro i h σ h1; omega
  | succ f ih =>
    intro i h σ hf hi k g0 g3 g4 g5 hQ
    refine wpr_round' fun b hb' => ?_
    have e0 := hv.len h
    by_cases c1 : i < l.length
    · have z0 : ((i : Int) < (l.length : Int)) = True := eq_true (by omega)
      have z1 : IntKind.wrap .i64 ((i : Int) + 1) = ((i + 1 : Nat) : Int) := wrap_nat (by omega) (by omega)
      obtain ⟨rest, e1⟩ := hv.elem c1
      have e2 := op5_load l[i] rest (h := h)
      rw [room_drop c1] at k
      have b1 := hb _ (List.getElem_mem c1)
      obtain ⟨h1, s1, ho1, hl1, a1⟩ := box5 k.ok l[i]
      have k1 := k.le ho1 hl1
      have q1 := op5_k a1
      have q2 := ld5 a1
      by_cases c2 : l[i].kind ≥ 5
      · have z2 : (l[i].kind ≥ 5) = True := eq_true c2
        simp only [a8_l16, a8_6, a8_7, a8_8, a8_15, wpc_skip, wpc_ops, wpc_draw, wpc_seq, wpc_cond, wpc_block, wpc_loop, wpc_exit, wpc_scope, wpc_ret, seqQ_norm, seqQ_ret, seqQ_exit, blockQ'_norm, blockQ'_ret, blockQ'_exit, roundQ_norm, roundQ_ret, roundQ_exit, condK_true, condK_false, wpo_nil', wpo_none, wpo_tt, wpo_ff, wpo_tf, wpo_ft, opsK_c, isC_none, isC_read, isC_write, wp1_call, callK_ret, wp1_mv', wp1_bin', wp1_un', wp1_eq', wp1_extract', wp1_pick', wp1_len', wp1_load', wp1_conv', wp1_store', wp1_idxAddr', wp1_append', wp1_mkIface', wp1_alloc', rd_t, rd_c, ok_t, ok_c, put_some, put_none, get_put, reduceIte, Nat.reduceEqDiff, AV.bool.injEq, Option.some.injEq, exists_eq_left', Option.map_some, Option.bind_some, opds_nil, opds_cons, opd_t, opd_c, aBin, aInt, decide_true, decide_false, negIf, wp1_nilCheck', wp1_fieldAddr', wp1_slice, op_slice, opdo_some, opdo_none, wp1_lit, op_lit, parts_nil, parts_cons, wp1_build, op_build, wp1_box, op_box, g0, g5, e0, z0, z1, e1, e2, s1, aFieldAddr, Nat.zero_add, q1, z2]
        subst hb'
        refine ih (i + 1) h1 _ (by omega) (by omega) (k1.less (by omega)) ?_ ?_ ?_ ?_ hQ
        · simp only [get_put, reduceIte, Nat.reduceEqDiff, g0]
        · simp only [get_put, reduceIte, Nat.reduceEqDiff, g3]
        · simp only [get_put, reduceIte, Nat.reduceEqDiff, g4]
        · simp only [get_put, reduceIte, Nat.reduceEqDiff]
      · have z2 : (l[i].kind ≥ 5) = False := eq_false c2
        obtain ⟨_, ev, h2, k2, rfl⟩ := step_spec k1 b1 (fun _ => by omega)
        have w1 : WC env 22 [.ptr id 0 0, .ptr id2 0 0, .agg l[i].cells] h1 (fun o => o = .ret ⟨.bool true, h2, .write⟩) := ⟨_, ev, rfl⟩
        obtain ⟨t, o, h3, bd, w2, ho3, hl3, hS⟩ := keeps_states k2
        obtain ⟨h4, s4, ho4, hl4, a4⟩ := box7 ho3 (p := pipe false t) ⟨_, _, _, _, _, _, _, rfl⟩
        obtain ⟨h5, ho5, hl5, w3⟩ := hS h4 ho4 hl4
        obtain ⟨h6, s6, ho6, hl6, a6⟩ := box7 ho5 (p := pipe false o) ⟨_, _, _, _, _, _, _, rfl⟩
        have a4' := hl6.2 _ _ _ (hl5.2 _ _ _ a4)
        have k6 := k2.le ho6 (Heap.le_trans (Heap.le_trans (Heap.le_trans hl3 hl4) hl5) hl6)
        have ea : a8_l16 = (.seq (.seq (.ops a8_6) (.cond (.t 18) .skip (.exit 0))) (.seq (.block 1 (.seq (.ops a8_7) (.seq (.seq (.ops a8_8) (.cond (.t 27) (.exit 1) .skip)) (.seq (.seq (.ops a8_9) (.cond (.t 32) (.seq (.ops a8_10) .ret) .skip)) (.seq (.ops a8_11) (.seq (.ops a8_12) (.seq (.ops a8_13) (.cond (.t 92) (.seq (.ops a8_14) .ret) .skip)))))))) (.ops a8_15))) := rfl
        rw [ea]
        simp only [a8_6, a8_7, a8_8, a8_9, a8_11, a8_12, wpc_skip, wpc_ops, wpc_draw, wpc_seq, wpc_cond, wpc_block, wpc_loop, wpc_exit, wpc_scope, wpc_ret, seqQ_norm, seqQ_ret, seqQ_exit, blockQ'_norm, blockQ'_ret, blockQ'_exit, roundQ_norm, roundQ_ret, roundQ_exit, condK_true, condK_false, wpo_nil', wpo_none, wpo_tt, wpo_ff, wpo_tf, wpo_ft, opsK_c, isC_none, isC_read, isC_write, wp1_call, callK_ret, wp1_mv', wp1_bin', wp1_un', wp1_eq', wp1_extract', wp1_pick', wp1_len', wp1_load', wp1_conv', wp1_store', wp1_idxAddr', wp1_append', wp1_mkIface', wp1_alloc', rd_t, rd_c, ok_t, ok_c, put_some, put_none, get_put, reduceIte, Nat.reduceEqDiff, AV.bool.injEq, Option.some.injEq, exists_eq_left', Option.map_some, Option.bind_some, opds_nil, opds_cons, opd_t, opd_c, aBin, aInt, decide_true, decide_false, negIf, wp1_nilCheck', wp1_fieldAddr', wp1_slice, op_slice, opdo_some, opdo_none, wp1_lit, op_lit, parts_nil, parts_cons, wp1_build, op_build, wp1_box, op_box, g0, g3, g4, g5, e0, z0, e1, e2, s1, aFieldAddr, Nat.zero_add, q1, z2, q2, wc_eq w1, aUn, Bool.not_true, wc_eq w2, aExtract, ex0, ex1, s4, wc_eq w3, s6]
        refine keeps_check bd a4' a6 ?_ ?_ ?_ ?_ fun σ7 r7 t7 => ?_
        · simp only [get_put, reduceIte, Nat.reduceEqDiff]
        · simp only [get_put, reduceIte, Nat.reduceEqDiff]
        · simp only [get_put, reduceIte, Nat.reduceEqDiff]
        · simp only [get_put, reduceIte, Nat.reduceEqDiff]
        have p5 : σ7.get 5 = .int .i64 i := by rw [t7 5 (by omega)]; simp only [get_put, reduceIte, Nat.reduceEqDiff, g5]
        simp only [a8_15, wpc_skip, wpc_ops, wpc_draw, wpc_seq, wpc_cond, wpc_block, wpc_loop, wpc_exit, wpc_scope, wpc_ret, seqQ_norm, seqQ_ret, seqQ_exit, blockQ'_norm, blockQ'_ret, blockQ'_exit, roundQ_norm, roundQ_ret, roundQ_exit, condK_true, condK_false, wpo_nil', wpo_none, wpo_tt, wpo_ff, wpo_tf, wpo_ft, opsK_c, isC_none, isC_read, isC_write, wp1_call, callK_ret, wp1_mv', wp1_bin', wp1_un', wp1_eq', wp1_extract', wp1_pick', wp1_len', wp1_load', wp1_conv', wp1_store', wp1_idxAddr', wp1_append', wp1_mkIface', wp1_alloc', rd_t, rd_c, ok_t, ok_c, put_some, put_none, get_put, reduceIte, Nat.reduceEqDiff, AV.bool.injEq, Option.some.injEq, exists_eq_left', Option.map_some, Option.bind_some, opds_nil, opds_cons, opd_t, opd_c, aBin, aInt, decide_true, decide_false, negIf, wp1_nilCheck', wp1_fieldAddr', wp1_slice, op_slice, opdo_some, opdo_none, wp1_lit, op_lit, parts_nil, parts_cons, wp1_build, op_build, wp1_box, op_box, r7, p5, z1]
        subst hb'
        refine ih (i + 1) h6 _ (by omega) (by omega) k6 ?_ ?_ ?_ ?_ hQ
        · simp only [get_put, reduceIte, Nat.reduceEqDiff]; rw [t7 0 (by omega)]; simp only [get_put, reduceIte, Nat.reduceEqDiff, g0]
        · simp only [get_put, reduceIte, Nat.reduceEqDiff]; rw [t7 3 (by omega)]; simp only [get_put, reduceIte, Nat.reduceEqDiff, g3]
        · simp only [get_put, reduceIte, Nat.reduceEqDiff]; rw [t7 4 (by omega)]; simp only [get_put, reduceIte, Nat.reduceEqDiff, g4]
        · simp only [get_put, reduceIte, Nat.reduceEqDiff]
    · have z0 : ((i : Int) < (l.length : Int)) = False := eq_false (by omega)
      simp only [a8_l16, a8_6, wpc_skip, wpc_ops, wpc_draw, wpc_seq, wpc_cond, wpc_block, wpc_loop, wpc_exit, wpc_scope, wpc_ret, seqQ_norm, seqQ_ret, seqQ_exit, blockQ'_norm, blockQ'_ret, blockQ'_exit, roundQ_norm, roundQ_ret, roundQ_exit, condK_true, condK_false, wpo_nil', wpo_none, wpo_tt, wpo_ff, wpo_tf, wpo_ft, opsK_c, isC_none, isC_read, isC_write, wp1_call, callK_ret, wp1_mv', wp1_bin', wp1_un', wp1_eq', wp1_extract', wp1_pick', wp1_len', wp1_load', wp1_conv', wp1_store', wp1_idxAddr', wp1_append', wp1_mkIface', wp1_alloc', rd_t, rd_c, ok_t, ok_c, put_some, put_none, get_put, reduceIte, Nat.reduceEqDiff, AV.bool.injEq, Option.some.injEq, exists_eq_left', Option.map_some, Option.bind_some, opds_nil, opds_cons, opd_t, opd_c, aBin, aInt, decide_true, decide_false, negIf, wp1_nilCheck', wp1_fieldAddr', wp1_slice, op_slice, opdo_some, opdo_none, wp1_lit, op_lit, parts_nil, parts_cons, wp1_build, op_build, wp1_box, op_box, g0, g5, e0, z0]
      exact hQ _ h

theorem keeps_spec {v : AV} {l : List Op5} (hv : OpsV v l) (hb : ∀ o ∈ l, ∀ h, Bytes h o.v o.b) (hroom : room l ≤ 1048576) (hlen : l.length ≤ 1048576) : WC env 8 [v] .empty (fun o => ∃ h', o = .ret ⟨.bool true, h', .write⟩) := by
  obtain ⟨h1, h2, id, id2, w1, w2, k⟩ := ty_start true
  refine call_body rfl rfl (.inl rfl) ?_
  simp only [a8, a8_0, a8_1, a8_2, a8_4, a8_5, Slots.ofList, wpc_skip, wpc_ops, wpc_draw, wpc_seq, wpc_cond, wpc_block, wpc_loop, wpc_exit, wpc_scope, wpc_ret, seqQ_norm, seqQ_ret, seqQ_exit, blockQ'_norm, blockQ'_ret, blockQ'_exit, roundQ_norm, roundQ_ret, roundQ_exit, condK_true, condK_false, wpo_nil', wpo_none, wpo_tt, wpo_ff, wpo_tf, wpo_ft, opsK_c, isC_none, isC_read, isC_write, wp1_call, callK_ret, wp1_mv', wp1_bin', wp1_un', wp1_eq', wp1_extract', wp1_pick', wp1_len', wp1_load', wp1_conv', wp1_store', wp1_idxAddr', wp1_append', wp1_mkIface', wp1_alloc', rd_t, rd_c, ok_t, ok_c, put_some, put_none, get_put, reduceIte, Nat.reduceEqDiff, AV.bool.injEq, Option.some.injEq, exists_eq_left', Option.map_some, Option.bind_some, opds_nil, opds_cons, opd_t, opd_c, aBin, aInt, decide_true, decide_false, negIf, wp1_nilCheck', wp1_fieldAddr', wp1_slice, op_slice, opdo_some, opdo_none, wp1_lit, op_lit, parts_nil, parts_cons, wp1_build, op_build, wp1_box, op_box, wc_eq w1, wc_eq w2, aEq_ptr, aNil_ptr]
  refine keeps_loop (id := id) (id2 := id2) hv hb (by omega) (l.length + 1) 0 h2 _ (by omega) (by omega) (by simpa using k.less hroom) ?_ ?_ ?_ ?_ fun σ' h' => ?_
  · simp only [get_put, reduceIte, Nat.reduceEqDiff]
  · simp only [get_put, reduceIte, Nat.reduceEqDiff]
  · simp only [get_put, reduceIte, Nat.reduceEqDiff]
  · simp only [get_put, reduceIte, Nat.reduceEqDiff]; rfl
  · simp only [a8_17, wpc_skip, wpc_ops, wpc_draw, wpc_seq, wpc_cond, wpc_block, wpc_loop, wpc_exit, wpc_scope, wpc_ret, seqQ_norm, seqQ_ret, seqQ_exit, blockQ'_norm, blockQ'_ret, blockQ'_exit, roundQ_norm, roundQ_ret, roundQ_exit, condK_true, condK_false, wpo_nil', wpo_none, wpo_tt, wpo_ff, wpo_tf, wpo_ft, opsK_c, isC_none, isC_read, isC_write, wp1_call, callK_ret, wp1_mv', wp1_bin', wp1_un', wp1_eq', wp1_extract', wp1_pick', wp1_len', wp1_load', wp1_conv', wp1_store', wp1_idxAddr', wp1_append', wp1_mkIface', wp1_alloc', rd_t, rd_c, ok_t, ok_c, put_some, put_none, get_put, reduceIte, Nat.reduceEqDiff, AV.bool.injEq, Option.some.injEq, exists_eq_left', Option.map_some, Option.bind_some, opds_nil, opds_cons, opd_t, opd_c, aBin, aInt, decide_true, decide_false, negIf, wp1_nilCheck', wp1_fieldAddr', wp1_slice, op_slice, opdo_some, opdo_none, wp1_lit, op_lit, parts_nil, parts_cons, wp1_build, op_build, wp1_box, op_box, wc_eq (alive_spec _)]
    exact ⟨[.bool true], by simp only [Env.results, Option.map_some, get_put, reduceIte, Nat.reduceEqDiff], _, rfl⟩
end Go.St
