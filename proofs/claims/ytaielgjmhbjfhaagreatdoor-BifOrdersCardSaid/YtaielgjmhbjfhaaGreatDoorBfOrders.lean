/-
  BifOrders answers true.
-/
import Derived.Test.YtaielgjmhbjfhaaGreatDoorBfQuote2
import Derived.Test.YtaielgjmhbjfhaaGreatDoorBfLaw2
set_option linter.unusedVariables false
set_option linter.unusedSimpArgs false
set_option maxRecDepth 20000
namespace Go.AM
section
variable {h : Heap} {cs vs : List AV} {id n off sz gen : Nat} {a b c d e f v : AV} {ag : Bool}
theorem next_new : (h.new cs).next = h.next + 1 := _root_.id rfl
theorem next_upd : (h.upd id gen cs).next = h.next := _root_.id rfl
theorem next_empty : Heap.empty.next = 0 := _root_.id rfl
theorem at_new_if : (h.new cs).at_ n 0 = if n = h.next then some cs else h.at_ n 0 := by
  by_cases e : n = h.next
  · rw [if_pos e, e]; exact at_new _
  · rw [if_neg e]
    show (match (h.tr.set h.next (some ⟨0, cs⟩)).get n with | some o => _ | none => _) = _
    rw [Tr.get_set, if_neg e]; rfl
theorem at_upd_if : (h.upd id gen cs).at_ n gen = if n = id then some cs else h.at_ n gen := by
  by_cases e : n = id
  · rw [if_pos e, e]; exact at_upd
  · rw [if_neg e]; exact at_upd_ne e
theorem aLoad_ptr : aLoad h ag sz (.ptr id gen off) = (h.at_ id gen).bind fun cs => (ldCells ag sz (cs.drop off)).map fun v => ⟨v, h, .read⟩ := _root_.id rfl
theorem aLoad_fp : aLoad h ag sz (.fp cs) = (ldCells ag sz cs).map fun v => ⟨v, h, .none⟩ := _root_.id rfl
theorem aStore_w : aStore h sz (.ptr id gen 0) (.agg vs) = (h.at_ id gen).bind fun cs => if vs.length = sz ∧ sz ≤ cs.length then some ⟨.undef, h.upd id gen (if cs.length ≤ vs.length then vs else splice cs 0 vs), .write⟩ else none := by
  show ((h.at_ id gen).bind fun cs => (some vs).bind fun vs => if vs.length = sz ∧ 0 + sz ≤ cs.length then (some ⟨.undef, h.upd id gen (splice cs 0 vs), .write⟩ : Option OpRes) else none) = _
  cases h.at_ id gen with
  | none => rfl
  | some cs =>
    simp only [Option.bind_some, Nat.zero_add]
    by_cases e : vs.length = sz ∧ sz ≤ cs.length
    · rw [if_pos e, if_pos e]
      by_cases e2 : cs.length ≤ vs.length
      · rw [if_pos e2]
        simp only [splice, List.take_zero, List.nil_append, Nat.zero_add, List.drop_of_length_le e2, List.append_nil]
      · rw [if_neg e2]
    · rw [if_neg e, if_neg e]
theorem aStore_1 (hv : v.row = some [v]) : aStore h 1 (.ptr id gen off) v = (h.at_ id gen).bind fun cs => if off < cs.length then some ⟨.undef, h.upd id gen (cs.set off v), .write⟩ else none := by
  show ((h.at_ id gen).bind fun cs => v.row.bind fun vs => if vs.length = 1 ∧ off + 1 ≤ cs.length then (some ⟨.undef, h.upd id gen (splice cs off vs), .write⟩ : Option OpRes) else none) = _
  rw [hv]
  cases h.at_ id gen with
  | none => rfl
  | some cs =>
    simp only [Option.bind_some, List.length_singleton, true_and]
    by_cases e : off < cs.length
    · rw [if_pos (by omega), if_pos e, List.set_eq_take_append_cons_drop, if_pos e]
      simp [splice]
    · rw [if_neg (by omega), if_neg e]
theorem ldc6 : ldCells true 6 [a, b, c, d, e, f] = some (.agg [a, b, c, d, e, f]) := _root_.id rfl
theorem ldc4 : ldCells true 4 [a, b, c, d] = some (.agg [a, b, c, d]) := _root_.id rfl
theorem ldc1 : ldCells false n (v :: cs) = some v := _root_.id rfl
theorem aNil_p : aNil (.ptr id gen off) = some (.ptr id gen off) := _root_.id rfl
theorem aFld_p : aFieldAddr n (.ptr id gen off) = some (.ptr id gen (off + n)) := _root_.id rfl
theorem aFld_f : aFieldAddr n (.fp cs) = some (.fp (cs.drop n)) := _root_.id rfl
theorem aExt0 {l : List AV} : aExtract 0 (.tup (v :: l)) = some v := _root_.id rfl
theorem aExt1 {l : List AV} : aExtract 1 (.tup (a :: v :: l)) = some v := _root_.id rfl
theorem aExt2 {l : List AV} : aExtract 2 (.tup (a :: b :: v :: l)) = some v := _root_.id rfl
theorem aPk_t : aPick (.bool true) a b = some a := _root_.id rfl
theorem aPk_f : aPick (.bool false) a b = some b := _root_.id rfl
theorem aNot {b : Bool} : aUn .not (.bool b) = some (.bool !b) := _root_.id rfl
end
theorem frz_ex {h : Heap} {v : AV} {P : AV → Prop} (hv : v.noRef = true) : (∃ v', Frz h v v' ∧ P v') = P v :=
  propext ⟨fun ⟨v', h1, h2⟩ => by rw [(frz_noRef hv).1 h1]; exact h2, fun h2 => ⟨v, (frz_noRef hv).2 rfl, h2⟩⟩
section
variable {E : Env} {rs : List ARes} {h : Heap} {Q : COut → Prop} {s : St} {P : List AV → Prop}
theorem results_nil : E.results s [] = some [] := _root_.id rfl
theorem results_tmp {t : Nat} {l : List ARes} : E.results s (.tmp t :: l) = (E.results s l).map fun vs => s.σ.get t :: vs := _root_.id rfl
theorem results_cell {t sz : Nat} {ag : Bool} {l : List ARes} : E.results s (.cell t ag sz :: l) = (aLoad s.h ag sz (s.σ.get t)).bind fun r => (E.results s l).map fun vs => r.v :: vs := _root_.id rfl
theorem pureQ_ret : pureQ E rs h Q .ret s = ∃ vs, E.results s rs = some vs ∧ ∃ v, Frz s.h (oneOrTup vs) v ∧ Q (.ret ⟨v, h, .none⟩) := by
  refine propext ⟨fun ⟨vs, v, h1, h2, h3⟩ => ⟨vs, h1, v, h2, h3⟩, fun ⟨vs, h1, v, h2, h3⟩ => ⟨vs, v, h1, h2, h3⟩⟩
theorem pureQ_norm : pureQ E rs h Q .norm s = pureQ E rs h Q .ret s := _root_.id rfl
theorem retQ_ret : retQ E rs Q .ret s = ∃ vs, E.results s rs = some vs ∧ Q (.ret ⟨oneOrTup vs, s.h, .write⟩) := _root_.id rfl
theorem retQ_norm : retQ E rs Q .norm s = retQ E rs Q .ret s := _root_.id rfl
theorem oneOrTup1 {a : AV} : oneOrTup [a] = a := _root_.id rfl
theorem oneOrTup0 : oneOrTup [] = .tup [] := _root_.id rfl
theorem oneOrTup2 {a b : AV} {l : List AV} : oneOrTup (a :: b :: l) = .tup (a :: b :: l) := _root_.id rfl
end
theorem noRef_aggl {l : List AV} : (AV.agg l).noRef = AV.noRefs l := _root_.id rfl
theorem noRef_undef : AV.undef.noRef = true := _root_.id rfl
theorem noRef_fn {f : Fn} {a b : List AV} : (AV.fn f a b).noRef = (AV.noRefs a && AV.noRefs b) := _root_.id rfl
theorem h3 : type_of% (And.intro (@next_new) (And.intro (@next_upd) (And.intro (@next_empty) (And.intro (@at_new_if) (And.intro (@at_upd_if) (And.intro (@aLoad_ptr) (And.intro (@aLoad_fp) (And.intro (@aStore_w) (And.intro (@aStore_1) (And.intro (@ldc6) (And.intro (@ldc4) (And.intro (@ldc1) (And.intro (@aNil_p) (And.intro (@aFld_p) (And.intro (@aFld_f) (And.intro (@aExt0) (And.intro (@aExt1) (And.intro (@aExt2) (And.intro (@aPk_t) (And.intro (@aPk_f) (And.intro (@aNot) (And.intro (@frz_ex) (And.intro (@results_nil) (And.intro (@results_tmp) (And.intro (@results_cell) (And.intro (@pureQ_ret) (And.intro (@pureQ_norm) (And.intro (@retQ_ret) (And.intro (@retQ_norm) (And.intro (@oneOrTup0) (And.intro (@oneOrTup1) (And.intro (@oneOrTup2) (And.intro (@noRefs_cons) (And.intro (@noRefs_nil) (And.intro (@noRef_tup) (And.intro (@noRef_aggl) (And.intro (@noRef_fs) (And.intro (@noRef_fp) (And.intro (@noRef_ifc) (And.intro (@noRef_undef) (And.intro (@noRef_fn) (And.intro (@noRef_bool) (And.intro (@noRef_int) (And.intro (@noRef_str) (And.intro (@noRef_nilp) (And.intro (@noRef_nils) (And.intro (@noRef_nilm) (And.intro (@noRef_nilf) (And.intro (@noRef_nili) (And.intro (@row_agg) (And.intro (@wpo_u) (And.intro (@wpk_u) (And.intro (@Nat.zero_add) (@Nat.add_zero)))))))))))))))))))))))))))))))))))))))))))))))))))))) := And.intro (@next_new) (And.intro (@next_upd) (And.intro (@next_empty) (And.intro (@at_new_if) (And.intro (@at_upd_if) (And.intro (@aLoad_ptr) (And.intro (@aLoad_fp) (And.intro (@aStore_w) (And.intro (@aStore_1) (And.intro (@ldc6) (And.intro (@ldc4) (And.intro (@ldc1) (And.intro (@aNil_p) (And.intro (@aFld_p) (And.intro (@aFld_f) (And.intro (@aExt0) (And.intro (@aExt1) (And.intro (@aExt2) (And.intro (@aPk_t) (And.intro (@aPk_f) (And.intro (@aNot) (And.intro (@frz_ex) (And.intro (@results_nil) (And.intro (@results_tmp) (And.intro (@results_cell) (And.intro (@pureQ_ret) (And.intro (@pureQ_norm) (And.intro (@retQ_ret) (And.intro (@retQ_norm) (And.intro (@oneOrTup0) (And.intro (@oneOrTup1) (And.intro (@oneOrTup2) (And.intro (@noRefs_cons) (And.intro (@noRefs_nil) (And.intro (@noRef_tup) (And.intro (@noRef_aggl) (And.intro (@noRef_fs) (And.intro (@noRef_fp) (And.intro (@noRef_ifc) (And.intro (@noRef_undef) (And.intro (@noRef_fn) (And.intro (@noRef_bool) (And.intro (@noRef_int) (And.intro (@noRef_str) (And.intro (@noRef_nilp) (And.intro (@noRef_nils) (And.intro (@noRef_nilm) (And.intro (@noRef_nilf) (And.intro (@noRef_nili) (And.intro (@row_agg) (And.intro (@wpo_u) (And.intro (@wpk_u) (And.intro (@Nat.zero_add) (@Nat.add_zero)))))))))))))))))))))))))))))))))))))))))))))))))))))
end Go.AM

set_option linter.unusedVariables false
set_option linter.unusedSimpArgs false
set_option maxRecDepth 20000
namespace Go.Bf
open Go.AM
def nsAV : Tm → AV | .mk _ _ _ _ nf ns _ _ => slAV nf ns.length (u32s ns)
def arAV : Tm → AV | .mk _ _ _ _ _ _ af ar => slAV af ar.length (tcs ar)
def Tm.int : Tm → Int | .mk _ i _ _ _ _ _ _ => i
def Tm.cre : Tm → Int | .mk _ _ _ c _ _ _ _ => c
theorem ldc_t {t : Tm} : ldCells true 6 (tc t) = some (.agg (tc t)) := by cases t; rfl
theorem ldc_k {t : Tm} : ldCells false 1 (tc t) = some (.int .i64 t.kind) := by cases t; rfl
theorem ldc_i {t : Tm} : ldCells false 1 ((tc t).drop 1) = some (.int .i64 t.int) := by cases t; rfl
theorem ldc_s {t : Tm} : ldCells false 1 ((tc t).drop 2) = some (.str t.text) := by cases t; rfl
theorem ldc_c {t : Tm} : ldCells false 1 ((tc t).drop 3) = some (.int .u32 t.cre) := by cases t; rfl
theorem ldc_n {t : Tm} : ldCells false 1 ((tc t).drop 4) = some (nsAV t) := by cases t; rfl
theorem ldc_a {t : Tm} : ldCells false 1 ((tc t).drop 5) = some (arAV t) := by cases t; rfl
theorem row_arAV {t : Tm} : (arAV t).row = some [arAV t] := by
  cases t with
  | mk k i s c nf ns af ar => cases af with
    | none => cases ar <;> rfl
    | some b => rfl
theorem fill12t {a b : Tm} : aFill [.int .i64 0, .int .i64 0, .str [], .int .u32 0, .nils, .nils, .int .i64 0, .int .i64 0, .str [], .int .u32 0, .nils, .nils] [(0, 6, .agg (tc a)), (6, 6, .agg (tc b))] = some (tc a ++ tc b) := by
  cases a; cases b; rfl
theorem fill6t {a : Tm} : aFill [.int .i64 0, .int .i64 0, .str [], .int .u32 0, .nils, .nils] [(0, 6, .agg (tc a))] = some (tc a) := by
  cases a; rfl
theorem fill60 : aFill [.int .i64 0, .int .i64 0, .str [], .int .u32 0, .nils, .nils] [] = some zero6 := id rfl
theorem len12t {a b : Tm} : (tc a ++ tc b).length = 12 := by cases a; cases b; rfl
theorem len_zero6 : zero6.length = 6 := id rfl
theorem ldc_z : ldCells true 6 zero6 = some (.agg zero6) := id rfl
theorem noRefs_zero6 : AV.noRefs zero6 = true := id rfl
theorem noRefs_tc {t : Tm} : AV.noRefs (tc t) = true := noRef_tc t
theorem tcs2 (a b : Tm) : tcs [a, b] = tc a ++ tc b := by simp [tcs]
theorem sl_two (a b : Tm) : Sl (.fs true 2 (tc a ++ tc b)) [a, b] := by
  rw [← tcs2]; exact .fs true [a, b]
theorem t3 : type_of% (And.intro (@ldc_t) (And.intro (@ldc_k) (And.intro (@ldc_i) (And.intro (@ldc_s) (And.intro (@ldc_c) (And.intro (@ldc_n) (And.intro (@ldc_a) (And.intro (@row_arAV) (And.intro (@fill12t) (And.intro (@fill6t) (And.intro (@fill60) (And.intro (@len12t) (And.intro (@len_zero6) (And.intro (@ldc_z) (And.intro (@noRefs_zero6) (And.intro (@noRefs_tc) (@tc_length))))))))))))))))) := And.intro (@ldc_t) (And.intro (@ldc_k) (And.intro (@ldc_i) (And.intro (@ldc_s) (And.intro (@ldc_c) (And.intro (@ldc_n) (And.intro (@ldc_a) (And.intro (@row_arAV) (And.intro (@fill12t) (And.intro (@fill6t) (And.intro (@fill60) (And.intro (@len12t) (And.intro (@len_zero6) (And.intro (@ldc_z) (And.intro (@noRefs_zero6) (And.intro (@noRefs_tc) (@tc_length))))))))))))))))
theorem compare_spec (a b : Tm) (oka : a.Ok) (okb : b.Ok) (ta : isT a = true) (tb : isT b = true) (h : Heap) : WC env 64 [.agg (tc a), .agg (tc b)] h (fun o => o = .ret ⟨.int .i64 (ordF a b), h, .none⟩) := by
  refine call_pure rfl rfl rfl (by simp only [h3, List.length_cons, List.length_nil, List.drop_zero, List.drop_succ_cons, Nat.reduceAdd, Nat.le_refl, and_self, true_and, if_true, Bool.and_self, Nat.reduceLeDiff, _root_.eq_self, and_true, t3]) ?_
  simp only [a64, a64_0, a64_1, a64_3, Slots.ofList, wpc_draw, s3, reduceIte, Nat.reduceEqDiff, aBin, aInt, negIf, Option.some.injEq, exists_eq_left', Option.map_some, Option.bind_some, h3, List.length_cons, List.length_nil, List.drop_zero, List.drop_succ_cons, Nat.reduceAdd, Nat.le_refl, and_self, true_and, if_true, Bool.and_self, Nat.reduceLeDiff, _root_.eq_self, and_true, t3, wc_eq (check_spec a oka _), wc_eq (check_spec b okb _), eq_chk, ta, tb, Bool.not_true, wc_eq (ord_spec a oka (isT_wf ta) b okb (isT_wf tb) _)]
theorem rcompare_spec (a b : Tm) (oka : a.Ok) (okb : b.Ok) (ta : isT a = true) (tb : isT b = true) (h : Heap) : WC env 20 [.agg (tc a), .agg (tc b)] h (fun o => o = .ret ⟨.int .i64 (ordF a b), h, .none⟩) := by
  have ra : rlinkAV (chkF a) = .nils := by
    rw [isT] at ta; split at ta
    · rename_i e; rw [e]; rfl
    · cases ta
  have rb : rlinkAV (chkF b) = .nils := by
    rw [isT] at tb; split at tb
    · rename_i e; rw [e]; rfl
    · cases tb
  refine call_pure rfl rfl rfl (by simp only [h3, List.length_cons, List.length_nil, List.drop_zero, List.drop_succ_cons, Nat.reduceAdd, Nat.le_refl, and_self, true_and, if_true, Bool.and_self, Nat.reduceLeDiff, _root_.eq_self, and_true, t3]) ?_
  simp only [a20, a20_0, a20_1, a20_3, Slots.ofList, wpc_draw, s3, reduceIte, Nat.reduceEqDiff, aBin, aInt, negIf, Option.some.injEq, exists_eq_left', Option.map_some, Option.bind_some, h3, List.length_cons, List.length_nil, List.drop_zero, List.drop_succ_cons, Nat.reduceAdd, Nat.le_refl, and_self, true_and, if_true, Bool.and_self, Nat.reduceLeDiff, _root_.eq_self, and_true, t3, wc_eq (rcheck_spec a oka _), wc_eq (rcheck_spec b okb _), ra, rb, eqs_nil, Bool.not_true, wc_eq (rord_spec a oka (isT_wf ta) b okb (isT_wf tb) _)]
def boolT (b : Bool) : Tm := atomT (if b = true then [116, 114, 117, 101] else [102, 97, 108, 115, 101])
theorem truth_spec (b : Bool) (h : Heap) : WC env 62 [.bool b] h (fun o => o = .ret ⟨.agg (tc (boolT b)), h, .none⟩) := by
  cases b <;> exact wc_run (n := 30) (by kernel_rfl)
theorem cmp_eq1 (c : Int) (h : Heap) : WC env 63 [.str [61, 61], .int .i64 c] h (fun o => o = .ret ⟨.bool (c == 0), h, .none⟩) := wc_run (n := 30) (by kernel_rfl)
theorem cmp_lt (c : Int) (h : Heap) : WC env 63 [.str [60], .int .i64 c] h (fun o => o = .ret ⟨.bool (decide (c < 0)), h, .none⟩) := wc_run (n := 30) (by kernel_rfl)
theorem cmp_gt (c : Int) (h : Heap) : WC env 63 [.str [62], .int .i64 c] h (fun o => o = .ret ⟨.bool (decide (c > 0)), h, .none⟩) := wc_run (n := 30) (by kernel_rfl)
/-- both arguments, as they are read -/
theorem sl2 {v : AV} {a b : Tm} (k : Sl v [a, b]) : ∃ A B, aIdxAddr 6 v (.int .i64 0) = some (.fp A) ∧ aIdxAddr 6 v (.int .i64 1) = some (.fp B) ∧ ldCells true 6 A = some (.agg (tc a)) ∧ ldCells true 6 B = some (.agg (tc b)) ∧ ∀ h, aLenOp false h v = some ⟨.int .i64 2, h, .none⟩ := by
  cases k with
  | fs b' l => exact ⟨tc a ++ tcs [b], tc b ++ tcs [], by cases a; rfl, by cases a; rfl, by cases a; rfl, by cases b; rfl, fun h => rfl⟩
end Go.Bf

set_option linter.unusedVariables false
set_option linter.unusedSimpArgs false
set_option maxRecDepth 20000
namespace Go.Bf
open Go.AM
theorem c38_eq {v : AV} {a b : Tm} (kv : Sl v [a, b]) (oka : a.Ok) (okb : b.Ok) (ta : isT a = true) (tb : isT b = true) (h : Heap) : WC env 38 [.str [61, 61], v] h (fun o => o = .ret ⟨.tup [.agg (tc (boolT (ordF a b == 0))), .int .i64 0], h, .none⟩) := by
  obtain ⟨A, B, x0, x1, lA, lB, nl⟩ := sl2 kv
  have n0 : (([61, 61] : List UInt8) == [43]) = false := by decide
  have n1 : (([61, 61] : List UInt8) == [45]) = false := by decide
  have n2 : (([61, 61] : List UInt8) == [42]) = false := by decide
  have n3 : (([61, 61] : List UInt8) == [100, 105, 118]) = false := by decide
  have n4 : (([61, 61] : List UInt8) == [114, 101, 109]) = false := by decide
  have n5 : (([61, 61] : List UInt8) == [97, 110, 100]) = false := by decide
  have n6 : (([61, 61] : List UInt8) == [111, 114]) = false := by decide
  have n7 : (([61, 61] : List UInt8) == [120, 111, 114]) = false := by decide
  have n8 : (([61, 61] : List UInt8) == [110, 111, 116]) = false := by decide
  have n9 : (([61, 61] : List UInt8) == [61, 61]) = true := by decide
  refine call_pure rfl rfl rfl (by simp only [AV.noRefs, AV.noRef, kv.noRef, Bool.and_self]) ?_
  simp only [a38, a38_0, a38_1, a38_2, a38_3, a38_4, a38_5, a38_6, a38_10, a38_11, a38_12, a38_14, a38_16, Slots.ofList, s3, reduceIte, Nat.reduceEqDiff, aBin, aInt, negIf, Option.some.injEq, exists_eq_left', Option.map_some, Option.bind_some, aStr, n0, n1, n2, n3, n4, n5, n6, n7, n8, n9, nl, h3, List.length_cons, List.length_nil, List.drop_zero, List.drop_succ_cons, Nat.reduceAdd, Nat.le_refl, and_self, true_and, if_true, Bool.and_self, Nat.reduceLeDiff, _root_.eq_self, and_true, t3]
  refine wpc_draw_k ?_
  simp only [s3, reduceIte, Nat.reduceEqDiff, aBin, aInt, negIf, Option.some.injEq, exists_eq_left', Option.map_some, Option.bind_some, k3, h3, List.length_cons, List.length_nil, List.drop_zero, List.drop_succ_cons, Nat.reduceAdd, Nat.le_refl, and_self, true_and, if_true, Bool.and_self, Nat.reduceLeDiff, _root_.eq_self, and_true, t3, a38_24, x0, x1, lA, lB, wc_eq (compare_spec a b oka okb ta tb _), wc_eq (cmp_eq1 _ _), wc_eq (truth_spec _ _)]
  rfl
theorem c38_lt {v : AV} {a b : Tm} (kv : Sl v [a, b]) (oka : a.Ok) (okb : b.Ok) (ta : isT a = true) (tb : isT b = true) (h : Heap) : WC env 38 [.str [60], v] h (fun o => o = .ret ⟨.tup [.agg (tc (boolT (decide (ordF a b < 0)))), .int .i64 0], h, .none⟩) := by
  obtain ⟨A, B, x0, x1, lA, lB, nl⟩ := sl2 kv
  have n0 : (([60] : List UInt8) == [43]) = false := by decide
  have n1 : (([60] : List UInt8) == [45]) = false := by decide
  have n2 : (([60] : List UInt8) == [42]) = false := by decide
  have n3 : (([60] : List UInt8) == [100, 105, 118]) = false := by decide
  have n4 : (([60] : List UInt8) == [114, 101, 109]) = false := by decide
  have n5 : (([60] : List UInt8) == [97, 110, 100]) = false := by decide
  have n6 : (([60] : List UInt8) == [111, 114]) = false := by decide
  have n7 : (([60] : List UInt8) == [120, 111, 114]) = false := by decide
  have n8 : (([60] : List UInt8) == [110, 111, 116]) = false := by decide
  have n9 : (([60] : List UInt8) == [61, 61]) = false := by decide
  have n10 : (([60] : List UInt8) == [47, 61]) = false := by decide
  have n11 : (([60] : List UInt8) == [61, 60]) = false := by decide
  have n12 : (([60] : List UInt8) == [60]) = true := by decide
  refine call_pure rfl rfl rfl (by simp only [AV.noRefs, AV.noRef, kv.noRef, Bool.and_self]) ?_
  simp only [a38, a38_0, a38_1, a38_2, a38_3, a38_4, a38_5, a38_6, a38_10, a38_11, a38_12, a38_14, a38_16, a38_17, a38_18, a38_19, Slots.ofList, s3, reduceIte, Nat.reduceEqDiff, aBin, aInt, negIf, Option.some.injEq, exists_eq_left', Option.map_some, Option.bind_some, aStr, n0, n1, n2, n3, n4, n5, n6, n7, n8, n9, n10, n11, n12, nl, h3, List.length_cons, List.length_nil, List.drop_zero, List.drop_succ_cons, Nat.reduceAdd, Nat.le_refl, and_self, true_and, if_true, Bool.and_self, Nat.reduceLeDiff, _root_.eq_self, and_true, t3]
  refine wpc_draw_k ?_
  simp only [s3, reduceIte, Nat.reduceEqDiff, aBin, aInt, negIf, Option.some.injEq, exists_eq_left', Option.map_some, Option.bind_some, k3, h3, List.length_cons, List.length_nil, List.drop_zero, List.drop_succ_cons, Nat.reduceAdd, Nat.le_refl, and_self, true_and, if_true, Bool.and_self, Nat.reduceLeDiff, _root_.eq_self, and_true, t3, a38_24, x0, x1, lA, lB, wc_eq (compare_spec a b oka okb ta tb _), wc_eq (cmp_lt _ _), wc_eq (truth_spec _ _)]
  rfl
theorem c38_gt {v : AV} {a b : Tm} (kv : Sl v [a, b]) (oka : a.Ok) (okb : b.Ok) (ta : isT a = true) (tb : isT b = true) (h : Heap) : WC env 38 [.str [62], v] h (fun o => o = .ret ⟨.tup [.agg (tc (boolT (decide (ordF a b > 0)))), .int .i64 0], h, .none⟩) := by
  obtain ⟨A, B, x0, x1, lA, lB, nl⟩ := sl2 kv
  have n0 : (([62] : List UInt8) == [43]) = false := by decide
  have n1 : (([62] : List UInt8) == [45]) = false := by decide
  have n2 : (([62] : List UInt8) == [42]) = false := by decide
  have n3 : (([62] : List UInt8) == [100, 105, 118]) = false := by decide
  have n4 : (([62] : List UInt8) == [114, 101, 109]) = false := by decide
  have n5 : (([62] : List UInt8) == [97, 110, 100]) = false := by decide
  have n6 : (([62] : List UInt8) == [111, 114]) = false := by decide
  have n7 : (([62] : List UInt8) == [120, 111, 114]) = false := by decide
  have n8 : (([62] : List UInt8) == [110, 111, 116]) = false := by decide
  have n9 : (([62] : List UInt8) == [61, 61]) = false := by decide
  have n10 : (([62] : List UInt8) == [47, 61]) = false := by decide
  have n11 : (([62] : List UInt8) == [61, 60]) = false := by decide
  have n12 : (([62] : List UInt8) == [60]) = false := by decide
  have n13 : (([62] : List UInt8) == [62, 61]) = false := by decide
  have n14 : (([62] : List UInt8) == [62]) = true := by decide
  refine call_pure rfl rfl rfl (by simp only [AV.noRefs, AV.noRef, kv.noRef, Bool.and_self]) ?_
  simp only [a38, a38_0, a38_1, a38_2, a38_3, a38_4, a38_5, a38_6, a38_10, a38_11, a38_12, a38_14, a38_16, a38_17, a38_18, a38_19, a38_20, a38_21, Slots.ofList, s3, reduceIte, Nat.reduceEqDiff, aBin, aInt, negIf, Option.some.injEq, exists_eq_left', Option.map_some, Option.bind_some, aStr, n0, n1, n2, n3, n4, n5, n6, n7, n8, n9, n10, n11, n12, n13, n14, nl, h3, List.length_cons, List.length_nil, List.drop_zero, List.drop_succ_cons, Nat.reduceAdd, Nat.le_refl, and_self, true_and, if_true, Bool.and_self, Nat.reduceLeDiff, _root_.eq_self, and_true, t3]
  refine wpc_draw_k ?_
  simp only [s3, reduceIte, Nat.reduceEqDiff, aBin, aInt, negIf, Option.some.injEq, exists_eq_left', Option.map_some, Option.bind_some, k3, h3, List.length_cons, List.length_nil, List.drop_zero, List.drop_succ_cons, Nat.reduceAdd, Nat.le_refl, and_self, true_and, if_true, Bool.and_self, Nat.reduceLeDiff, _root_.eq_self, and_true, t3, a38_24, x0, x1, lA, lB, wc_eq (compare_spec a b oka okb ta tb _), wc_eq (cmp_gt _ _), wc_eq (truth_spec _ _)]
  rfl
theorem c38_max {v : AV} {a b : Tm} (kv : Sl v [a, b]) (oka : a.Ok) (okb : b.Ok) (ta : isT a = true) (tb : isT b = true) (h : Heap) : WC env 38 [.str [109, 97, 120], v] h (fun o => o = .ret ⟨.tup [.agg (tc (if ordF a b < 0 then b else a)), .int .i64 0], h, .none⟩) := by
  obtain ⟨A, B, x0, x1, lA, lB, nl⟩ := sl2 kv
  have n0 : (([109, 97, 120] : List UInt8) == [43]) = false := by decide
  have n1 : (([109, 97, 120] : List UInt8) == [45]) = false := by decide
  have n2 : (([109, 97, 120] : List UInt8) == [42]) = false := by decide
  have n3 : (([109, 97, 120] : List UInt8) == [100, 105, 118]) = false := by decide
  have n4 : (([109, 97, 120] : List UInt8) == [114, 101, 109]) = false := by decide
  have n5 : (([109, 97, 120] : List UInt8) == [97, 110, 100]) = false := by decide
  have n6 : (([109, 97, 120] : List UInt8) == [111, 114]) = false := by decide
  have n7 : (([109, 97, 120] : List UInt8) == [120, 111, 114]) = false := by decide
  have n8 : (([109, 97, 120] : List UInt8) == [110, 111, 116]) = false := by decide
  have n9 : (([109, 97, 120] : List UInt8) == [61, 61]) = false := by decide
  have n10 : (([109, 97, 120] : List UInt8) == [47, 61]) = false := by decide
  have n11 : (([109, 97, 120] : List UInt8) == [61, 60]) = false := by decide
  have n12 : (([109, 97, 120] : List UInt8) == [60]) = false := by decide
  have n13 : (([109, 97, 120] : List UInt8) == [62, 61]) = false := by decide
  have n14 : (([109, 97, 120] : List UInt8) == [62]) = false := by decide
  have n15 : (([109, 97, 120] : List UInt8) == [61, 58, 61]) = false := by decide
  have n16 : (([109, 97, 120] : List UInt8) == [61, 47, 61]) = false := by decide
  have n17 : (([109, 97, 120] : List UInt8) == [109, 97, 120]) = true := by decide
  have m0 : (([109, 97, 120] : List UInt8) == [109, 97, 120]) = true := by decide
  have m1 : (([109, 97, 120] : List UInt8) == [109, 105, 110]) = false := by decide
  refine call_pure rfl rfl rfl (by simp only [AV.noRefs, AV.noRef, kv.noRef, Bool.and_self]) ?_
  simp only [a38, a38_0, a38_1, a38_2, a38_3, a38_4, a38_5, a38_6, a38_10, a38_11, a38_12, a38_14, a38_16, a38_17, a38_18, a38_19, a38_20, a38_21, a38_22, a38_23, a38_25, Slots.ofList, s3, reduceIte, Nat.reduceEqDiff, aBin, aInt, negIf, Option.some.injEq, exists_eq_left', Option.map_some, Option.bind_some, aStr, n0, n1, n2, n3, n4, n5, n6, n7, n8, n9, n10, n11, n12, n13, n14, n15, n16, n17, nl, h3, List.length_cons, List.length_nil, List.drop_zero, List.drop_succ_cons, Nat.reduceAdd, Nat.le_refl, and_self, true_and, if_true, Bool.and_self, Nat.reduceLeDiff, _root_.eq_self, and_true, t3]
  refine wpc_draw_k ?_
  by_cases c : ordF a b < 0
  · have z : (ordF a b < 0) = True := eq_true c
    simp only [s3, reduceIte, Nat.reduceEqDiff, aBin, aInt, negIf, Option.some.injEq, exists_eq_left', Option.map_some, Option.bind_some, k3, h3, List.length_cons, List.length_nil, List.drop_zero, List.drop_succ_cons, Nat.reduceAdd, Nat.le_refl, and_self, true_and, if_true, Bool.and_self, Nat.reduceLeDiff, _root_.eq_self, and_true, t3, a38_27, a38_28, a38_29, aStr, m0, m1, z, x0, x1, lA, lB, wc_eq (compare_spec a b oka okb ta tb _)]
    rfl
  · have z : (ordF a b < 0) = False := eq_false c
    simp only [s3, reduceIte, Nat.reduceEqDiff, aBin, aInt, negIf, Option.some.injEq, exists_eq_left', Option.map_some, Option.bind_some, k3, h3, List.length_cons, List.length_nil, List.drop_zero, List.drop_succ_cons, Nat.reduceAdd, Nat.le_refl, and_self, true_and, if_true, Bool.and_self, Nat.reduceLeDiff, _root_.eq_self, and_true, t3, a38_27, a38_28, a38_30, aStr, m0, m1, z, x0, x1, lA, lB, if_false, wc_eq (compare_spec a b oka okb ta tb _)]
    rfl
theorem c38_min {v : AV} {a b : Tm} (kv : Sl v [a, b]) (oka : a.Ok) (okb : b.Ok) (ta : isT a = true) (tb : isT b = true) (h : Heap) : WC env 38 [.str [109, 105, 110], v] h (fun o => o = .ret ⟨.tup [.agg (tc (if ordF a b > 0 then b else a)), .int .i64 0], h, .none⟩) := by
  obtain ⟨A, B, x0, x1, lA, lB, nl⟩ := sl2 kv
  have n0 : (([109, 105, 110] : List UInt8) == [43]) = false := by decide
  have n1 : (([109, 105, 110] : List UInt8) == [45]) = false := by decide
  have n2 : (([109, 105, 110] : List UInt8) == [42]) = false := by decide
  have n3 : (([109, 105, 110] : List UInt8) == [100, 105, 118]) = false := by decide
  have n4 : (([109, 105, 110] : List UInt8) == [114, 101, 109]) = false := by decide
  have n5 : (([109, 105, 110] : List UInt8) == [97, 110, 100]) = false := by decide
  have n6 : (([109, 105, 110] : List UInt8) == [111, 114]) = false := by decide
  have n7 : (([109, 105, 110] : List UInt8) == [120, 111, 114]) = false := by decide
  have n8 : (([109, 105, 110] : List UInt8) == [110, 111, 116]) = false := by decide
  have n9 : (([109, 105, 110] : List UInt8) == [61, 61]) = false := by decide
  have n10 : (([109, 105, 110] : List UInt8) == [47, 61]) = false := by decide
  have n11 : (([109, 105, 110] : List UInt8) == [61, 60]) = false := by decide
  have n12 : (([109, 105, 110] : List UInt8) == [60]) = false := by decide
  have n13 : (([109, 105, 110] : List UInt8) == [62, 61]) = false := by decide
  have n14 : (([109, 105, 110] : List UInt8) == [62]) = false := by decide
  have n15 : (([109, 105, 110] : List UInt8) == [61, 58, 61]) = false := by decide
  have n16 : (([109, 105, 110] : List UInt8) == [61, 47, 61]) = false := by decide
  have n17 : (([109, 105, 110] : List UInt8) == [109, 97, 120]) = false := by decide
  have n18 : (([109, 105, 110] : List UInt8) == [109, 105, 110]) = true := by decide
  have m0 : (([109, 105, 110] : List UInt8) == [109, 97, 120]) = false := by decide
  have m1 : (([109, 105, 110] : List UInt8) == [109, 105, 110]) = true := by decide
  refine call_pure rfl rfl rfl (by simp only [AV.noRefs, AV.noRef, kv.noRef, Bool.and_self]) ?_
  simp only [a38, a38_0, a38_1, a38_2, a38_3, a38_4, a38_5, a38_6, a38_10, a38_11, a38_12, a38_14, a38_16, a38_17, a38_18, a38_19, a38_20, a38_21, a38_22, a38_23, a38_25, a38_26, Slots.ofList, s3, reduceIte, Nat.reduceEqDiff, aBin, aInt, negIf, Option.some.injEq, exists_eq_left', Option.map_some, Option.bind_some, aStr, n0, n1, n2, n3, n4, n5, n6, n7, n8, n9, n10, n11, n12, n13, n14, n15, n16, n17, n18, nl, h3, List.length_cons, List.length_nil, List.drop_zero, List.drop_succ_cons, Nat.reduceAdd, Nat.le_refl, and_self, true_and, if_true, Bool.and_self, Nat.reduceLeDiff, _root_.eq_self, and_true, t3]
  refine wpc_draw_k ?_
  by_cases c : ordF a b > 0
  · have z : (ordF a b > 0) = True := eq_true c
    simp only [s3, reduceIte, Nat.reduceEqDiff, aBin, aInt, negIf, Option.some.injEq, exists_eq_left', Option.map_some, Option.bind_some, k3, h3, List.length_cons, List.length_nil, List.drop_zero, List.drop_succ_cons, Nat.reduceAdd, Nat.le_refl, and_self, true_and, if_true, Bool.and_self, Nat.reduceLeDiff, _root_.eq_self, and_true, t3, a38_27, a38_28, a38_29, aStr, m0, m1, z, x0, x1, lA, lB, wc_eq (compare_spec a b oka okb ta tb _)]
    rfl
  · have z : (ordF a b > 0) = False := eq_false c
    simp only [s3, reduceIte, Nat.reduceEqDiff, aBin, aInt, negIf, Option.some.injEq, exists_eq_left', Option.map_some, Option.bind_some, k3, h3, List.length_cons, List.length_nil, List.drop_zero, List.drop_succ_cons, Nat.reduceAdd, Nat.le_refl, and_self, true_and, if_true, Bool.and_self, Nat.reduceLeDiff, _root_.eq_self, and_true, t3, a38_27, a38_28, a38_30, aStr, m0, m1, z, x0, x1, lA, lB, if_false, wc_eq (compare_spec a b oka okb ta tb _)]
    rfl
end Go.Bf

set_option linter.unusedVariables false
set_option linter.unusedSimpArgs false
namespace Go.AM
def clsApart3 (ordered : Bool) (fx fy : Bool) (x y : Cls) : Bool := ordered || match x, y with
  | .none, _ | _, .none | .read, .read => true
  | .write, .write => false
  | .read, .write => fx
  | .write, .read => fy
def clsAll3 (F : List Nat) (x : Cls) (i : Nat) : Nat → List Cls → List Nat → Bool
  | j, y :: ys, m :: ms => clsApart3 (Nat.testBit m i) (F.elem i) (F.elem j) x y && clsAll3 F x i (j + 1) ys ms
  | _, _, _ => true
def clsDraw3 (F : List Nat) : Nat → List Cls → List Nat → Bool
  | i, x :: xs, _ :: ms => clsAll3 F x i (i + 1) xs ms && clsDraw3 F (i + 1) xs ms
  | _, _, _ => true
def steadyAt (E : Env) (hs : List Heap) (l : List (AOper × St × Cls)) (j : Nat) : Prop := match l[j]? with
  | some y => E.steady y.1 y.2.1 hs = true
  | none => True
def steadyOk (E : Env) (hs : List Heap) (l : List (AOper × St × Cls)) : List Nat → Prop
  | [] => True
  | j :: js => steadyAt E hs l j ∧ steadyOk E hs l js
theorem steadyOk.get {E : Env} {hs : List Heap} {l : List (AOper × St × Cls)} : ∀ {F : List Nat}, steadyOk E hs l F → ∀ {j : Nat} {y : AOper × St × Cls}, F.elem j = true → l[j]? = some y → E.steady y.1 y.2.1 hs = true
  | [], _, _, _, h, _ => by simp at h
  | f :: F, k, j, y, h, e => by
    by_cases c : j = f
    · subst c
      have := k.1
      unfold steadyAt at this
      rw [e] at this
      exact this
    · refine k.2.get ?_ e
      simpa [c] using h
theorem apart_of_cls3 {E : Env} {o fx fy : Bool} {hs : List Heap} {x y : AOper × St × Cls} (h : clsApart3 o fx fy x.2.2 y.2.2 = true) (hx : fx = true → E.steady x.1 x.2.1 hs = true) (hy : fy = true → E.steady y.1 y.2.1 hs = true) : E.apart o hs x y = true := by
  unfold clsApart3 at h
  unfold Env.apart
  cases o
  · simp only [Bool.false_or] at h ⊢
    cases hx2 : x.2.2 <;> cases hy2 : y.2.2 <;> simp [hx2, hy2] at h ⊢
    · exact hx h
    · exact hy h
  · rfl
theorem all_of_cls3 {E : Env} {hs : List Heap} {x : AOper × St × Cls} {F : List Nat} {i : Nat} (hx : F.elem i = true → E.steady x.1 x.2.1 hs = true) : ∀ {l : List (AOper × St × Cls)} {ms : List Nat} {j : Nat}, clsAll3 F x.2.2 i j (l.map fun y => y.2.2) ms = true → (∀ k y, F.elem (j + k) = true → l[k]? = some y → E.steady y.1 y.2.1 hs = true) → E.apartAll hs x i l ms = true
  | [], _, _, _, _ => by simp [Env.apartAll]
  | _ :: _, [], _, _, _ => by simp [Env.apartAll]
  | y :: l, m :: ms, j, h, hr => by
    simp only [List.map_cons, clsAll3, Bool.and_eq_true] at h
    simp only [Env.apartAll, Bool.and_eq_true]
    exact ⟨apart_of_cls3 h.1 hx fun e => hr 0 y e rfl, all_of_cls3 hx h.2 fun k z e e2 => hr (k + 1) z (by rw [← e]; congr 1; omega) e2⟩
theorem draw_of_cls3' {E : Env} {hs : List Heap} {F : List Nat} : ∀ {l : List (AOper × St × Cls)} {ms : List Nat} {i : Nat}, clsDraw3 F i (l.map fun y => y.2.2) ms = true → (∀ k y, F.elem (i + k) = true → l[k]? = some y → E.steady y.1 y.2.1 hs = true) → E.drawOk hs i l ms = true
  | [], _, _, _, _ => by simp [Env.drawOk]
  | _ :: _, [], _, _, _ => by simp [Env.drawOk]
  | y :: l, m :: ms, i, h, hr => by
    simp only [List.map_cons, clsDraw3, Bool.and_eq_true] at h
    simp only [Env.drawOk, Bool.and_eq_true]
    have hr' : ∀ k z, F.elem (i + 1 + k) = true → l[k]? = some z → E.steady z.1 z.2.1 hs = true := fun k z e e2 => hr (k + 1) z (by rw [← e]; congr 1; omega) e2
    exact ⟨all_of_cls3 (fun e => hr 0 y e rfl) h.1 hr', draw_of_cls3' h.2 hr'⟩
theorem draw_of_cls3 {E : Env} {hs : List Heap} (F : List Nat) {l : List (AOper × St × Cls)} {ms : List Nat} (h : clsDraw3 F 0 (l.map fun y => y.2.2) ms = true) (hr : steadyOk E hs l F) : E.drawOk hs 0 l ms = true :=
  draw_of_cls3' h fun k y e e2 => hr.get (by rw [Nat.zero_add] at e; exact e) e2
end Go.AM

set_option linter.unusedVariables false
set_option linter.unusedSimpArgs false
namespace Go.AM
theorem wpl_mono {E : Env} : ∀ (l : List AOper) (s : St) (P R : St → List (AOper × St × Cls) → Prop), (∀ s log, P s log → R s log) → wpl E l s P → wpl E l s R
  | [], s, P, R, hr, h => hr _ _ h
  | ⟨d, op, none⟩ :: l, s, P, R, hr, h => by
    have h : wp1 E op d s (fun s' c => wpl E l s' (fun s2 log => P s2 ((⟨d, op, none⟩, s, c) :: log))) noQ := h
    exact wp1_mono (K' := fun s' c => wpl E l s' (fun s2 log => R s2 ((⟨d, op, none⟩, s, c) :: log))) h fun s' c x => wpl_mono l s' _ _ (fun s2 log y => hr _ _ y) x
  | ⟨d, op, some (t, w)⟩ :: l, s, P, R, hr, h => by
    obtain ⟨b, hb, h⟩ := h
    refine ⟨b, hb, ?_⟩
    by_cases he : b = w
    · rw [if_pos he] at h ⊢
      exact wp1_mono (K' := fun s' c => wpl E l s' (fun s2 log => R s2 ((⟨d, op, some (t, w)⟩, s, c) :: log))) h fun s' c x => wpl_mono l s' _ _ (fun s2 log y => hr _ _ y) x
    · rw [if_neg he] at h ⊢
      exact wpl_mono l _ _ _ (fun s2 log y => hr _ _ y) h
/-- the region's end, and that its order does not matter -/
def endQ (E : Env) (b : List Nat) (s1 : St) : St → List (AOper × St × Cls) → Prop := fun s' log => E.drawOk (s'.h :: log.map (fun x => x.2.1.h)) 0 log b = true ∧ s' = s1
theorem endQ_apply {E : Env} {b : List Nat} {s1 s' : St} {log : List (AOper × St × Cls)} : endQ E b s1 s' log = (E.drawOk (s'.h :: log.map (fun x => x.2.1.h)) 0 log b = true ∧ s' = s1) := rfl
theorem draw_to {E : Env} {l : List AOper} {b : List Nat} {s s1 : St} {Q : AExit → St → Prop} (h1 : wpl E l s (endQ E b s1)) (h2 : Q .norm s1) : wpc E (.draw l b) s Q :=
  wpl_mono l s (endQ E b s1) (drawQ E b Q) (fun s' log h => ⟨h.1, by rw [h.2]; exact h2⟩) h1
mutual
theorem AV.same_refl : ∀ v : AV, v.same v = true
  | .bool _ | .int _ _ | .str _ | .nilp | .nils | .nilm | .nilf | .nili | .ptr _ _ _ | .sl _ _ _ _ _ _ => by simp [AV.same]
  | .fp a => by rw [AV.same, AV.sames_refl a]
  | .fs f n a => by rw [AV.same, AV.sames_refl a]; simp
  | .fn f a b => by rw [AV.same, AV.sames_refl a, AV.sames_refl b]; simp
  | .ifc t v => by rw [AV.same, AV.same_refl v]; simp
  | .agg a => by rw [AV.same, AV.sames_refl a]
  | .tup a => by rw [AV.same, AV.sames_refl a]
theorem AV.sames_refl : ∀ l : List AV, AV.sames l l = true
  | [] => rfl
  | v :: l => by rw [AV.sames, AV.same_refl v, AV.sames_refl l]; rfl
end
theorem steady_cons {E : Env} {o : AOper} {s : St} {h : Heap} {hs : List Heap} : E.steady o s (h :: hs) = ((match E.op s.σ s.h o.op, E.op s.σ h o.op with
     | some r, some r' => r.v.same r'.v && (match r'.c with | .write => false | _ => true)
     | _, _ => false) && E.steady o s hs) := id rfl
/-- a read that all these heaps answer alike -/
def allLd (ag : Bool) (sz : Nat) (a v : AV) : List Heap → Prop
  | [] => True
  | h :: hs => aLoad h ag sz a = some ⟨v, h, .read⟩ ∧ allLd ag sz a v hs
theorem allLd_nil {ag : Bool} {sz : Nat} {a v : AV} : allLd ag sz a v [] = True := id rfl
theorem allLd_cons {ag : Bool} {sz : Nat} {a v : AV} {h : Heap} {hs : List Heap} : allLd ag sz a v (h :: hs) = (aLoad h ag sz a = some ⟨v, h, .read⟩ ∧ allLd ag sz a v hs) := id rfl
theorem steady_load {E : Env} {d : Option Nat} {g : Option (Nat × Bool)} {ag : Bool} {sz : Nat} {x : Opd} {s : St} (a v : AV) {hs : List Heap} (h1 : E.opd s.σ x = some a) (h2 : allLd ag sz a v (s.h :: hs)) : E.steady ⟨d, .load ag sz x, g⟩ s hs = true := by
  obtain ⟨e0, h2⟩ := h2
  have o0 : E.op s.σ s.h (.load ag sz x) = some ⟨v, s.h, .read⟩ := by
    show (E.opd s.σ x).bind (aLoad s.h ag sz) = _
    rw [h1]; exact e0
  induction hs with
  | nil => rfl
  | cons h hs ih =>
    obtain ⟨e1, h2⟩ := h2
    have o1 : E.op s.σ h (.load ag sz x) = some ⟨v, h, .read⟩ := by
      show (E.opd s.σ x).bind (aLoad h ag sz) = _
      rw [h1]; exact e1
    rw [steady_cons, ih h2]
    show ((match E.op s.σ s.h (.load ag sz x), E.op s.σ h (.load ag sz x) with
     | some r, some r' => r.v.same r'.v && (match r'.c with | .write => false | _ => true)
     | _, _ => false) && true) = true
    rw [o0, o1]
    show ((v.same v && true) && true) = true
    rw [AV.same_refl]; rfl
end Go.AM

set_option linter.unusedVariables false
set_option linter.unusedSimpArgs false
set_option maxRecDepth 20000
namespace Go.Bf
open Go.AM
theorem boolT_ok (b : Bool) : (boolT b).Ok := by
  cases b <;> (rw [boolT, atomT, Tm.Ok, Oks]; exact ⟨⟨by decide, by decide⟩, ⟨by decide, by decide⟩, ⟨by decide, by decide⟩, by simp, by decide, by decide, by decide, trivial⟩)
theorem isT_boolT (b : Bool) : isT (boolT b) = true := by cases b <;> kernel_rfl
theorem eqF_boolT (b : Bool) : eqF (boolT b) trueT = b := by cases b <;> kernel_rfl
theorem eqF_same {a a' b b' : Tm} (h : er a = er a') (h2 : er b = er b') : eqF a b = eqF a' b' := by
  rw [eqF, eqF, isT_same h, isT_same h2, ord_same h h2]
theorem eqF_of_bool {r : Tm} {b : Bool} (h : er r = er (boolT b)) : eqF r trueT = b := by rw [eqF_same h rfl, eqF_boolT]
def rlen : WFlt → Int
  | none => 0
  | some (_, _, none) => 1
  | some (_, _, some _) => 2
theorem len_rlink (x : WFlt) (h : Heap) : aLenOp false h (rlinkAV x) = some ⟨.int .i64 (rlen x), h, .none⟩ := by
  rcases x with _ | ⟨a, c, _ | ⟨p, d⟩⟩ <;> rfl
theorem rlen_ok {t : Tm} (h : isT t = true) : chkF t = none := by
  rw [isT] at h; split at h
  · assumption
  · cases h
theorem rlen_bad {t : Tm} (h : isT t = false) : rlen (chkF t) > 0 := by
  rw [isT] at h; split at h
  · cases h
  · rename_i e
    rw [e]
    rename_i x
    rcases x with ⟨a, c, _ | ⟨p, d⟩⟩ <;> simp [rlen]
theorem fillOps : aFill [.str [], .str [], .str []] [(0, 1, .str [60]), (1, 1, .str [61, 61]), (2, 1, .str [62])] = some [.str [60], .str [61, 61], .str [62]] := id rfl
def opsAV : AV := .fs true 3 [.str [60], .str [61, 61], .str [62]]
theorem orders_round {σ : Slots} {h : Heap} {a b r : Tm} {nm : List UInt8} {i n : Nat} {x : Bool} {C : List AV} (ho : HeapOk h) (ha : h.at_ 0 0 = some (tc a)) (hb : h.at_ 1 0 = some (tc b)) (g2 : σ.get 2 = .ptr 0 0 0) (g3 : σ.get 3 = .ptr 1 0 0) (g5 : σ.get 5 = .int .i64 n) (g6 : σ.get 6 = opsAV) (g7 : σ.get 7 = .int .i64 i)
    (hi : i < 3) (hn : n < 3) (hC : aIdxAddr 1 opsAV (.int .i64 i) = some (.fp C)) (lC : ldCells false 1 C = some (.str nm)) (okr : r.Ok) (hw : ∀ h, WC env 18 [.str nm, .fs true 2 (tc a ++ tc b)] h (fun o => o = .ret ⟨.tup [.agg (tc r), .nili], h, .none⟩)) (hx : eqF r trueT = x)
    {Q : AExit → St → Prop} (hQ : ∀ σ' h', HeapOk h' → h'.at_ 0 0 = some (tc a) → h'.at_ 1 0 = some (tc b) → σ'.get 2 = .ptr 0 0 0 → σ'.get 3 = .ptr 1 0 0 → σ'.get 5 = .int .i64 ((if x = true then n + 1 else n : Nat) : Int) → σ'.get 6 = opsAV → σ'.get 7 = .int .i64 ((i + 1 : Nat) : Int) → Q .norm ⟨σ', h'⟩) :
    wpc env a4_l13 ⟨σ, h⟩ Q := by
  have z0 : ((i : Int) < 3) = True := eq_true (by omega)
  have z1 : IntKind.wrap .i64 ((i : Int) + 1) = ((i + 1 : Nat) : Int) := wrap_nat (by omega) (by omega)
  have z2 : IntKind.wrap .i64 ((n : Int) + 1) = ((n + 1 : Nat) : Int) := wrap_nat (by omega) (by omega)
  have n0 : (0 = h.next) = False := eq_false (by have := ho.lt ha; omega)
  have n1 : (1 = h.next) = False := eq_false (by have := ho.lt hb; omega)
  have nl : ∀ h, aLenOp false h opsAV = some ⟨.int .i64 3, h, .none⟩ := fun h => rfl
  have wt := true_spec r okr
  rw [hx] at wt
  simp only [a4_l13, a4_6, s3, reduceIte, Nat.reduceEqDiff, aBin, aInt, negIf, Option.some.injEq, exists_eq_left', Option.map_some, Option.bind_some, g6, g7, nl, z0]
  apply draw_to
  · simp only [a4_7, s3, reduceIte, Nat.reduceEqDiff, aBin, aInt, negIf, Option.some.injEq, exists_eq_left', Option.map_some, Option.bind_some, wpl_nil', wpl_none, wpl_some, gval_bool, logK_c, logQ_apply, guardL_tt, guardL_ff, guardL_tf, guardL_ft, drawQ_apply, endQ_apply, g2, g3, g6, g7, hC, lC, h3, List.length_cons, List.length_nil, List.drop_zero, List.drop_succ_cons, Nat.reduceAdd, Nat.le_refl, and_self, true_and, if_true, Bool.and_self, Nat.reduceLeDiff, _root_.eq_self, and_true, t3, ha, hb, n0, n1, if_false, wc_eq (hw _)]
    refine ⟨draw_of_cls3 [4, 5] rfl ⟨?_, ?_, trivial⟩, rfl⟩
    · refine steady_load (.ptr 0 0 0) (.agg (tc a)) ?_ ?_
      · simp only [opd_t, get_put, reduceIte, Nat.reduceEqDiff, g2]
      · simp only [allLd_cons, allLd_nil, List.map_cons, List.map_nil, h3, List.length_cons, List.length_nil, List.drop_zero, List.drop_succ_cons, Nat.reduceAdd, Nat.le_refl, and_self, true_and, if_true, Bool.and_self, Nat.reduceLeDiff, _root_.eq_self, and_true, Option.map_some, Option.bind_some, t3, ha, n0, if_false]
    · refine steady_load (.ptr 1 0 0) (.agg (tc b)) ?_ ?_
      · simp only [opd_t, get_put, reduceIte, Nat.reduceEqDiff, g3]
      · simp only [allLd_cons, allLd_nil, List.map_cons, List.map_nil, h3, List.length_cons, List.length_nil, List.drop_zero, List.drop_succ_cons, Nat.reduceAdd, Nat.le_refl, and_self, true_and, if_true, Bool.and_self, Nat.reduceLeDiff, _root_.eq_self, and_true, Option.map_some, Option.bind_some, t3, hb, n1, if_false]
  have ho' : HeapOk ((h.new [.int .i64 0, .int .i64 0, .str [], .int .u32 0, .nils, .nils]).upd h.next 0 (tc r)) := (ho.new _).upd (at_look.1 (at_new _)) _ _
  cases x with
  | true =>
    simp only [s3, reduceIte, Nat.reduceEqDiff, aBin, aInt, negIf, Option.some.injEq, exists_eq_left', Option.map_some, Option.bind_some, a4_8, a4_10, a4_11, a4_12, h3, List.length_cons, List.length_nil, List.drop_zero, List.drop_succ_cons, Nat.reduceAdd, Nat.le_refl, and_self, true_and, if_true, Bool.and_self, Nat.reduceLeDiff, _root_.eq_self, and_true, t3, eq_nil, Bool.not_true, wc_eq (wt _), g5, g7, z1, z2]
    refine hQ _ _ ho' ?_ ?_ ?_ ?_ ?_ ?_ ?_
    · simp only [h3, List.length_cons, List.length_nil, List.drop_zero, List.drop_succ_cons, Nat.reduceAdd, Nat.le_refl, and_self, true_and, if_true, Bool.and_self, Nat.reduceLeDiff, _root_.eq_self, and_true, ha, n0, if_false]
    · simp only [h3, List.length_cons, List.length_nil, List.drop_zero, List.drop_succ_cons, Nat.reduceAdd, Nat.le_refl, and_self, true_and, if_true, Bool.and_self, Nat.reduceLeDiff, _root_.eq_self, and_true, hb, n1, if_false]
    · simp only [get_put, reduceIte, Nat.reduceEqDiff, g2]
    · simp only [get_put, reduceIte, Nat.reduceEqDiff, g3]
    · simp only [get_put, reduceIte, Nat.reduceEqDiff]
    · simp only [get_put, reduceIte, Nat.reduceEqDiff, g6]
    · simp only [get_put, reduceIte, Nat.reduceEqDiff]
  | false =>
    simp only [s3, reduceIte, Nat.reduceEqDiff, aBin, aInt, negIf, Option.some.injEq, exists_eq_left', Option.map_some, Option.bind_some, a4_8, a4_10, a4_11, a4_12, h3, List.length_cons, List.length_nil, List.drop_zero, List.drop_succ_cons, Nat.reduceAdd, Nat.le_refl, and_self, true_and, if_true, Bool.and_self, Nat.reduceLeDiff, _root_.eq_self, and_true, t3, eq_nil, Bool.not_true, wc_eq (wt _), g5, g7, z1, z2]
    refine hQ _ _ ho' ?_ ?_ ?_ ?_ ?_ ?_ ?_
    · simp only [h3, List.length_cons, List.length_nil, List.drop_zero, List.drop_succ_cons, Nat.reduceAdd, Nat.le_refl, and_self, true_and, if_true, Bool.and_self, Nat.reduceLeDiff, _root_.eq_self, and_true, ha, n0, if_false]
    · simp only [h3, List.length_cons, List.length_nil, List.drop_zero, List.drop_succ_cons, Nat.reduceAdd, Nat.le_refl, and_self, true_and, if_true, Bool.and_self, Nat.reduceLeDiff, _root_.eq_self, and_true, hb, n1, if_false]
    · simp only [get_put, reduceIte, Nat.reduceEqDiff, g2]
    · simp only [get_put, reduceIte, Nat.reduceEqDiff, g3]
    · simp only [get_put, reduceIte, Nat.reduceEqDiff, g5, Bool.false_eq_true, if_false]
    · simp only [get_put, reduceIte, Nat.reduceEqDiff, g6]
    · simp only [get_put, reduceIte, Nat.reduceEqDiff]
def ordTail : AC := .seq (.ops a4_14) (.seq (.ops a4_15) (.seq (.seq (.ops a4_16) (.cond (.t 81) (.seq (.ops a4_17) .ret) .skip)) (.seq (.ops a4_18) (.seq (.ops a4_19) .ret))))
section
variable {σ : Slots} {h : Heap} {a b x y : Tm} (ho : HeapOk h) (ha : h.at_ 0 0 = some (tc a)) (hb : h.at_ 1 0 = some (tc b)) (g2 : σ.get 2 = .ptr 0 0 0) (g3 : σ.get 3 = .ptr 1 0 0) (g5 : σ.get 5 = .int .i64 1)
  (oka : a.Ok) (okb : b.Ok) (okx : x.Ok) (oky : y.Ok) (tx : isT x = true) (ty : isT y = true) (hc : ordF x y ≥ 0)
  (wx : ∀ h, WC env 18 [.str [109, 97, 120], .fs true 2 (tc a ++ tc b)] h (fun o => o = .ret ⟨.tup [.agg (tc x), .nili], h, .none⟩))
  (wy : ∀ h, WC env 18 [.str [109, 105, 110], .fs true 2 (tc a ++ tc b)] h (fun o => o = .ret ⟨.tup [.agg (tc y), .nili], h, .none⟩))
include ho ha hb g2 g3 g5 oka okb okx oky tx ty hc wx wy
theorem tail_one (p1 : sameF x a = true) (p2 : sameF y b = true) : wpc env ordTail ⟨σ, h⟩ (retQ env [.tmp 4] fun o => ∃ h', o = .ret ⟨.bool true, h', .write⟩) := by
  have n0 : (0 = h.next) = False := eq_false (by have := ho.lt ha; omega)
  have n1 : (1 = h.next) = False := eq_false (by have := ho.lt hb; omega)
  have m0 : (0 = h.next + 1) = False := eq_false (by omega)
  have m1 : (1 = h.next + 1) = False := eq_false (by have := ho.lt ha; omega)
  have m2 : (h.next = h.next + 1) = False := eq_false (by omega)
  have m3 : (h.next + 1 = h.next) = False := eq_false (by omega)
  have w1 := same_spec x okx a oka
  have w2 := same_spec y oky b okb
  rw [p1] at w1
  rw [p2] at w2
  have z : (ordF x y ≥ 0) = True := eq_true hc
  have u : ((1 : Int) != 1) = false := rfl
  simp only [ordTail, a4_14, a4_15, a4_16, a4_18, a4_19, s3, reduceIte, Nat.reduceEqDiff, aBin, aInt, negIf, Option.some.injEq, exists_eq_left', Option.map_some, Option.bind_some, h3, List.length_cons, List.length_nil, List.drop_zero, List.drop_succ_cons, Nat.reduceAdd, Nat.le_refl, and_self, true_and, if_true, Bool.and_self, Nat.reduceLeDiff, _root_.eq_self, and_true, t3, g2, g3, g5, ha, hb, n0, n1, m0, m1, m2, m3, if_false, wc_eq (wx _), wc_eq (wy _), eq_nil, Bool.not_true, u, wc_eq (w1 _), wc_eq (w2 _), wc_eq (rcompare_spec x y okx oky tx ty _), z, wc_eq (alive_spec _)]
  exact ⟨_, rfl⟩
theorem tail_two (p1 : sameF x a = false) (p3 : sameF x b = true) (p4 : sameF y a = true) : wpc env ordTail ⟨σ, h⟩ (retQ env [.tmp 4] fun o => ∃ h', o = .ret ⟨.bool true, h', .write⟩) := by
  have n0 : (0 = h.next) = False := eq_false (by have := ho.lt ha; omega)
  have n1 : (1 = h.next) = False := eq_false (by have := ho.lt hb; omega)
  have m0 : (0 = h.next + 1) = False := eq_false (by omega)
  have m1 : (1 = h.next + 1) = False := eq_false (by have := ho.lt ha; omega)
  have m2 : (h.next = h.next + 1) = False := eq_false (by omega)
  have m3 : (h.next + 1 = h.next) = False := eq_false (by omega)
  have w1 := same_spec x okx a oka
  have w3 := same_spec x okx b okb
  have w4 := same_spec y oky a oka
  rw [p1] at w1
  rw [p3] at w3
  rw [p4] at w4
  have z : (ordF x y ≥ 0) = True := eq_true hc
  have u : ((1 : Int) != 1) = false := rfl
  simp only [ordTail, a4_14, a4_15, a4_16, a4_18, a4_19, s3, reduceIte, Nat.reduceEqDiff, aBin, aInt, negIf, Option.some.injEq, exists_eq_left', Option.map_some, Option.bind_some, h3, List.length_cons, List.length_nil, List.drop_zero, List.drop_succ_cons, Nat.reduceAdd, Nat.le_refl, and_self, true_and, if_true, Bool.and_self, Nat.reduceLeDiff, _root_.eq_self, and_true, t3, g2, g3, g5, ha, hb, n0, n1, m0, m1, m2, m3, if_false, wc_eq (wx _), wc_eq (wy _), eq_nil, Bool.not_true, u, wc_eq (w1 _), wc_eq (w3 _), wc_eq (w4 _), wc_eq (rcompare_spec x y okx oky tx ty _), z, wc_eq (alive_spec _)]
  exact ⟨_, rfl⟩
end
theorem find_lt : findV [60] 2 = .tup [.agg [.str [60], .int .i64 2, .int .i64 1, .bool true], .bool true] := by rfl
theorem find_eq : findV [61, 61] 2 = .tup [.agg [.str [61, 61], .int .i64 2, .int .i64 1, .bool true], .bool true] := by rfl
theorem find_gt : findV [62] 2 = .tup [.agg [.str [62], .int .i64 2, .int .i64 1, .bool true], .bool true] := by rfl
theorem find_max : ∃ p q r s, findV [109, 97, 120] 2 = .tup [.agg [p, q, r, s], .bool true] := ⟨_, _, _, _, rfl⟩
theorem find_min : ∃ p q r s, findV [109, 105, 110] 2 = .tup [.agg [p, q, r, s], .bool true] := ⟨_, _, _, _, rfl⟩
theorem opsIdx0 : aIdxAddr 1 opsAV (.int .i64 (0 : Nat)) = some (.fp [.str [60], .str [61, 61], .str [62]]) := rfl
theorem opsIdx1 : aIdxAddr 1 opsAV (.int .i64 (1 : Nat)) = some (.fp [.str [61, 61], .str [62]]) := rfl
theorem opsIdx2 : aIdxAddr 1 opsAV (.int .i64 (2 : Nat)) = some (.fp [.str [62]]) := rfl
theorem orders_end {σ : Slots} {h : Heap} (g6 : σ.get 6 = opsAV) (g7 : σ.get 7 = .int .i64 ((3 : Nat) : Int)) {Q : AExit → St → Prop} (hQ : ∀ σ', (∀ n, n < 8 → σ'.get n = σ.get n) → Q (.exit 0) ⟨σ', h⟩) : wpc env a4_l13 ⟨σ, h⟩ Q := by
  have z0 : (((3 : Nat) : Int) < 3) = False := eq_false (by omega)
  have nl : ∀ h, aLenOp false h opsAV = some ⟨.int .i64 3, h, .none⟩ := fun h => rfl
  simp only [a4_l13, a4_6, s3, reduceIte, Nat.reduceEqDiff, aBin, aInt, negIf, Option.some.injEq, exists_eq_left', Option.map_some, Option.bind_some, g6, g7, nl, z0]
  refine hQ _ fun n hn => ?_
  simp only [get_put]
  repeat rw [if_neg (by omega)]
theorem orders_row (a b : Tm) (oka : a.Ok) (okb : b.Ok) : WC env 4 [.agg (tc a), .agg (tc b)] .empty (fun o => ∃ h', o = .ret ⟨.bool true, h', .write⟩) := by
  have z00 : ((0 : Int) > 0) = False := eq_false (by decide)
  have r0 : rlen none = 0 := rfl
  have q0 : ((0 : Int) == 0) = true := rfl
  have wa := rcheck_spec a oka
  have wb := rcheck_spec b okb
  have wt := true_spec a oka
  cases ta : isT a with
  | false =>
    have e1 : eqF a trueT = false := by rw [eqF, ta]; rfl
    rw [e1] at wt
    have z := eq_true (rlen_bad ta)
    refine call_body rfl rfl (.inl rfl) ?_
    simp only [a4, a4_0, a4_1, a4_2, Slots.ofList, s3, reduceIte, Nat.reduceEqDiff, aBin, aInt, negIf, Option.some.injEq, exists_eq_left', Option.map_some, Option.bind_some, h3, List.length_cons, List.length_nil, List.drop_zero, List.drop_succ_cons, Nat.reduceAdd, Nat.le_refl, and_self, true_and, if_true, Bool.and_self, Nat.reduceLeDiff, _root_.eq_self, and_true, t3, wc_eq (wa _), len_rlink, z, wc_eq (wt _), Bool.not_false]
    exact ⟨_, rfl⟩
  | true =>
  rw [rlen_ok ta] at wa
  cases tb : isT b with
  | false =>
    have z := eq_true (rlen_bad tb)
    cases ex : eqF a trueT with
    | false =>
      rw [ex] at wt
      refine call_body rfl rfl (.inl rfl) ?_
      simp only [a4, a4_0, a4_1, a4_2, Slots.ofList, s3, reduceIte, Nat.reduceEqDiff, aBin, aInt, negIf, Option.some.injEq, exists_eq_left', Option.map_some, Option.bind_some, h3, List.length_cons, List.length_nil, List.drop_zero, List.drop_succ_cons, Nat.reduceAdd, Nat.le_refl, and_self, true_and, if_true, Bool.and_self, Nat.reduceLeDiff, _root_.eq_self, and_true, t3, wc_eq (wa _), wc_eq (wb _), len_rlink, r0, z00, z, wc_eq (wt _), Bool.not_false]
      exact ⟨_, rfl⟩
    | true =>
      rw [ex] at wt
      refine call_body rfl rfl (.inl rfl) ?_
      simp only [a4, a4_0, a4_1, a4_2, Slots.ofList, s3, reduceIte, Nat.reduceEqDiff, aBin, aInt, negIf, Option.some.injEq, exists_eq_left', Option.map_some, Option.bind_some, h3, List.length_cons, List.length_nil, List.drop_zero, List.drop_succ_cons, Nat.reduceAdd, Nat.le_refl, and_self, true_and, if_true, Bool.and_self, Nat.reduceLeDiff, _root_.eq_self, and_true, t3, wc_eq (wa _), wc_eq (wb _), len_rlink, r0, z00, z, wc_eq (wt _), Bool.not_true, q0]
      exact ⟨_, rfl⟩
  | true =>
  rw [rlen_ok tb] at wb
  have hok : Oks [a, b] := by rw [Oks, Oks, Oks]; exact ⟨oka, okb, trivial⟩
  have hall : ∀ t, t ∈ [a, b] → isT t = true := by
    intro t m
    rcases List.mem_cons.1 m with rfl | m
    · exact ta
    · rcases List.mem_cons.1 m with rfl | m
      · exact tb
      · cases m
  have kv := sl_two a b
  have hl : [a, b].length < 1000000 := by simp
  obtain ⟨r1, ok1, e1, w1⟩ := call_fine hok hall kv hl find_lt (boolT_ok _) (isT_boolT _) (c38_lt kv oka okb ta tb)
  obtain ⟨r2, ok2, e2, w2⟩ := call_fine hok hall kv hl find_eq (boolT_ok _) (isT_boolT _) (c38_eq kv oka okb ta tb)
  obtain ⟨r3, ok3, e3, w3⟩ := call_fine hok hall kv hl find_gt (boolT_ok _) (isT_boolT _) (c38_gt kv oka okb ta tb)
  have t1 := eqF_of_bool e1
  have t2 := eqF_of_bool e2
  have t3' := eqF_of_bool e3
  obtain ⟨f1, f2, f3, f4, ff⟩ := find_max
  obtain ⟨d1, d2, d3, d4, fd⟩ := find_min
  have okm : ∀ p : Prop, [Decidable p] → (if p then b else a).Ok := fun p _ => by split <;> assumption
  have ttm : ∀ p : Prop, [Decidable p] → isT (if p then b else a) = true := fun p _ => by split <;> assumption
  obtain ⟨x, okx, ex, wx⟩ := call_fine hok hall kv hl ff (okm _) (ttm _) (c38_max kv oka okb ta tb)
  obtain ⟨y, oky, ey, wy⟩ := call_fine hok hall kv hl fd (okm _) (ttm _) (c38_min kv oka okb ta tb)
  have tx : isT x = true := by rw [isT_same ex]; exact ttm _
  have ty : isT y = true := by rw [isT_same ey]; exact ttm _
  have hab := ord_anti a b
  refine call_body rfl rfl (.inl rfl) ?_
  have eb : a4.body = (.seq (.ops a4_0) (.seq (.seq (.ops a4_1) (.cond (.t 24) (.seq (.ops a4_2) .ret) .skip)) (.seq (.ops a4_3) (.seq (.ops a4_4) (.seq (.seq (.ops a4_5) (.block 0 (.loop a4_l13))) ordTail))))) := rfl
  rw [eb]
  obtain ⟨T, eT⟩ : ∃ T, T = ordTail := ⟨_, rfl⟩
  rw [← eT]
  have op : AV.fs true 3 [.str [60], .str [61, 61], .str [62]] = opsAV := rfl
  have l3 : ([AV.str [60], .str [61, 61], .str [62]] : List AV).length = 3 * 1 := rfl
  simp only [a4_0, a4_1, a4_3, a4_4, a4_5, Slots.ofList, s3, reduceIte, Nat.reduceEqDiff, aBin, aInt, negIf, Option.some.injEq, exists_eq_left', Option.map_some, Option.bind_some, h3, List.length_cons, List.length_nil, List.drop_zero, List.drop_succ_cons, Nat.reduceAdd, Nat.le_refl, and_self, true_and, if_true, Bool.and_self, Nat.reduceLeDiff, _root_.eq_self, and_true, t3, wc_eq (wa _), wc_eq (wb _), len_rlink, r0, z00, fillOps, l3, op]
  have ho1 : HeapOk (Heap.empty.new (tc a)) := HeapOk.empty.new _
  have ho2 : HeapOk ((Heap.empty.new (tc a)).new (tc b)) := ho1.new _
  refine wpr_round' fun q hq => orders_round (i := 0) (n := 0) (a := a) (b := b) ho2 (by simp only [h3, List.length_cons, List.length_nil, List.drop_zero, List.drop_succ_cons, Nat.reduceAdd, Nat.le_refl, and_self, true_and, if_true, Bool.and_self, Nat.reduceLeDiff, _root_.eq_self, and_true, reduceIte, Nat.reduceEqDiff]) (by simp only [h3, List.length_cons, List.length_nil, List.drop_zero, List.drop_succ_cons, Nat.reduceAdd, Nat.le_refl, and_self, true_and, if_true, Bool.and_self, Nat.reduceLeDiff, _root_.eq_self, and_true, reduceIte, Nat.reduceEqDiff]) ?_ ?_ ?_ ?_ ?_ (by omega) (by omega) opsIdx0 rfl ok1 w1 t1 fun σ1 h1 ho1 a1 b1 p2 p3 p5 p6 p7 => ?_
  · simp only [get_put, reduceIte, Nat.reduceEqDiff]
  · simp only [get_put, reduceIte, Nat.reduceEqDiff]
  · simp only [get_put, reduceIte, Nat.reduceEqDiff]; rfl
  · simp only [get_put, reduceIte, Nat.reduceEqDiff]
  · simp only [get_put, reduceIte, Nat.reduceEqDiff]; rfl
  subst hq
  show WPr env _ _ _
  refine wpr_round' fun q hq => orders_round (i := 1) (a := a) (b := b) ho1 a1 b1 p2 p3 p5 p6 p7 (by omega) (by split <;> omega) opsIdx1 rfl ok2 w2 t2 fun σ2 h2 ho2 a2 b2 q2 q3 q5 q6 q7 => ?_
  subst hq
  show WPr env _ _ _
  refine wpr_round' fun q hq => orders_round (i := 2) (a := a) (b := b) ho2 a2 b2 q2 q3 q5 q6 q7 (by omega) (by (repeat' split) <;> omega) opsIdx2 rfl ok3 w3 t3' fun σ3 h3 ho3 a3 b3 s2 s3 s5 s6 s7 => ?_
  subst hq
  show WPr env _ _ _
  refine wpr_round' fun q hq => orders_end s6 s7 fun σ4 s4 => ?_
  rw [← s4 2 (by omega)] at s2
  rw [← s4 3 (by omega)] at s3
  rw [← s4 5 (by omega)] at s5
  show wpc env T ⟨σ4, h3⟩ _
  rw [eT]
  rcases Int.lt_trichotomy (ordF a b) 0 with c | c | c
  · have y1 : decide (ordF a b < 0) = true := decide_eq_true c
    have y2 : (ordF a b == 0) = false := by simp; omega
    have y3 : decide (ordF a b > 0) = false := decide_eq_false (by omega)
    rw [y1, y2, y3] at s5
    rw [if_pos c] at ex
    rw [if_neg (show ¬ ordF a b > 0 by omega)] at ey
    have oxy : ordF x y = ordF b a := ord_same ex ey
    refine tail_two ho3 a3 b3 s2 s3 s5 oka okb okx oky tx ty (by rw [oxy]; omega) wx wy ?_ ?_ ?_
    · cases e : sameF x a with
      | false => rfl
      | true =>
        have := (same_er _ _).1 e
        have h1 : ordF a b = 0 := by rw [ord_same (rfl : er a = er a) (ex.symm.trans this), ord_self]
        omega
    · exact same_of ex
    · exact same_of ey
  · have y1 : decide (ordF a b < 0) = false := decide_eq_false (by omega)
    have y2 : (ordF a b == 0) = true := by simp; omega
    have y3 : decide (ordF a b > 0) = false := decide_eq_false (by omega)
    rw [y1, y2, y3] at s5
    rw [if_neg (show ¬ ordF a b < 0 by omega)] at ex
    rw [if_neg (show ¬ ordF a b > 0 by omega)] at ey
    have oxy : ordF x y = ordF a a := ord_same ex ey
    have eab := ord_zero a b (isT_wf ta) (isT_wf tb) c
    refine tail_one ho3 a3 b3 s2 s3 s5 oka okb okx oky tx ty (by rw [oxy, ord_self]; omega) wx wy (same_of ex) (same_of (ey.trans eab))
  · have y1 : decide (ordF a b < 0) = false := decide_eq_false (by omega)
    have y2 : (ordF a b == 0) = false := by simp; omega
    have y3 : decide (ordF a b > 0) = true := decide_eq_true c
    rw [y1, y2, y3] at s5
    rw [if_neg (show ¬ ordF a b < 0 by omega)] at ex
    rw [if_pos c] at ey
    have oxy : ordF x y = ordF a b := ord_same ex ey
    refine tail_one ho3 a3 b3 s2 s3 s5 oka okb okx oky tx ty (by rw [oxy]; omega) wx wy (same_of ex) (same_of ey)
end Go.Bf
