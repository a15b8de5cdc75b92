/-
  BifTuples answers true.
-/
import Derived.Test.YtaielgjmhbjfhaaGreatDoorBfLists2
import Derived.Test.YtaielgjmhbjfhaaGreatDoorAmD
set_option linter.unusedVariables false
set_option linter.unusedSimpArgs false
set_option maxRecDepth 20000
namespace Go.Bf
open Go.AM
theorem r44_set {v : AV} {r : Tm} {cd : Int} (hv : v.noRef = true) (hr : ∀ h, WC env 78 [.str [115, 101, 116, 101, 108, 101, 109, 101, 110, 116], v] h (fun o => o = .ret ⟨.tup [.agg (tc r), .int .i64 cd], h, .none⟩)) (h : Heap) : WC env 44 [.str [115, 101, 116, 101, 108, 101, 109, 101, 110, 116], v] h (fun o => o = .ret ⟨.tup [.agg (tc r), .int .i64 cd], h, .none⟩) := by
  have n0 : (([115, 101, 116, 101, 108, 101, 109, 101, 110, 116] : List UInt8) == [43]) = false := by decide
  have n1 : (([115, 101, 116, 101, 108, 101, 109, 101, 110, 116] : List UInt8) == [45]) = false := by decide
  have n2 : (([115, 101, 116, 101, 108, 101, 109, 101, 110, 116] : List UInt8) == [42]) = false := by decide
  have n3 : (([115, 101, 116, 101, 108, 101, 109, 101, 110, 116] : List UInt8) == [100, 105, 118]) = false := by decide
  have n4 : (([115, 101, 116, 101, 108, 101, 109, 101, 110, 116] : List UInt8) == [114, 101, 109]) = false := by decide
  have n5 : (([115, 101, 116, 101, 108, 101, 109, 101, 110, 116] : List UInt8) == [110, 111, 116]) = false := by decide
  have n6 : (([115, 101, 116, 101, 108, 101, 109, 101, 110, 116] : List UInt8) == [97, 110, 100]) = false := by decide
  have n7 : (([115, 101, 116, 101, 108, 101, 109, 101, 110, 116] : List UInt8) == [111, 114]) = false := by decide
  have n8 : (([115, 101, 116, 101, 108, 101, 109, 101, 110, 116] : List UInt8) == [120, 111, 114]) = false := by decide
  have n9 : (([115, 101, 116, 101, 108, 101, 109, 101, 110, 116] : List UInt8) == [43, 43]) = false := by decide
  have n10 : (([115, 101, 116, 101, 108, 101, 109, 101, 110, 116] : List UInt8) == [45, 45]) = false := by decide
  have n11 : (([115, 101, 116, 101, 108, 101, 109, 101, 110, 116] : List UInt8) == [61, 61]) = false := by decide
  have n12 : (([115, 101, 116, 101, 108, 101, 109, 101, 110, 116] : List UInt8) == [61, 58, 61]) = false := by decide
  have n13 : (([115, 101, 116, 101, 108, 101, 109, 101, 110, 116] : List UInt8) == [47, 61]) = false := by decide
  have n14 : (([115, 101, 116, 101, 108, 101, 109, 101, 110, 116] : List UInt8) == [61, 47, 61]) = false := by decide
  have n15 : (([115, 101, 116, 101, 108, 101, 109, 101, 110, 116] : List UInt8) == [61, 60]) = false := by decide
  have n16 : (([115, 101, 116, 101, 108, 101, 109, 101, 110, 116] : List UInt8) == [60]) = false := by decide
  have n17 : (([115, 101, 116, 101, 108, 101, 109, 101, 110, 116] : List UInt8) == [62, 61]) = false := by decide
  have n18 : (([115, 101, 116, 101, 108, 101, 109, 101, 110, 116] : List UInt8) == [62]) = false := by decide
  have n19 : (([115, 101, 116, 101, 108, 101, 109, 101, 110, 116] : List UInt8) == [109, 97, 120]) = false := by decide
  have n20 : (([115, 101, 116, 101, 108, 101, 109, 101, 110, 116] : List UInt8) == [109, 105, 110]) = false := by decide
  refine call_pure rfl rfl rfl (by simp only [AV.noRefs, AV.noRef, hv, Bool.and_self]) ?_
  simp only [a44, a44_0, a44_1, a44_2, a44_3, a44_4, a44_5, a44_6, a44_7, a44_8, a44_9, a44_10, a44_11, a44_12, a44_13, a44_14, a44_15, a44_16, a44_17, a44_18, a44_19, a44_20, a44_21, a44_22, a44_23, a44_24, a44_25, a44_26, a44_27, a44_28, a44_29, a44_30, a44_31, a44_32, a44_33, a44_34, a44_35, a44_36, a44_37, a44_38, Slots.ofList, wpc_draw, s3, reduceIte, Nat.reduceEqDiff, aBin, aInt, negIf, Option.some.injEq, exists_eq_left', Option.map_some, Option.bind_some, aStr, n0, n1, n2, n3, n4, n5, n6, n7, n8, n9, n10, n11, n12, n13, n14, n15, n16, n17, n18, n19, n20, wc_eq (hr _), h3, List.length_cons, List.length_nil, List.drop_zero, List.drop_succ_cons, Nat.reduceAdd, Nat.le_refl, and_self, true_and, if_true, Bool.and_self, Nat.reduceLeDiff, _root_.eq_self, and_true, exists_eq', t3, reduceIte, Nat.reduceEqDiff]
theorem r78_set {v : AV} {t u w : Tm} (kv : Sl v [t, u, w]) {r : Tm} {cd : Int} (hr : ∀ h, WC env 117 [.str [115, 101, 116, 101, 108, 101, 109, 101, 110, 116], v] h (fun o => o = .ret ⟨.tup [.agg (tc r), .int .i64 cd], h, .none⟩)) (h : Heap) : WC env 78 [.str [115, 101, 116, 101, 108, 101, 109, 101, 110, 116], v] h (fun o => o = .ret ⟨.tup [.agg (tc r), .int .i64 cd], h, .none⟩) := by
  have n0 : (([115, 101, 116, 101, 108, 101, 109, 101, 110, 116] : List UInt8) == [97, 98, 115]) = false := by decide
  have n1 : (([115, 101, 116, 101, 108, 101, 109, 101, 110, 116] : List UInt8) == [105, 115, 95, 97, 116, 111, 109]) = false := by decide
  have n2 : (([115, 101, 116, 101, 108, 101, 109, 101, 110, 116] : List UInt8) == [105, 115, 95, 98, 111, 111, 108, 101, 97, 110]) = false := by decide
  have n3 : (([115, 101, 116, 101, 108, 101, 109, 101, 110, 116] : List UInt8) == [105, 115, 95, 105, 110, 116, 101, 103, 101, 114]) = false := by decide
  have n4 : (([115, 101, 116, 101, 108, 101, 109, 101, 110, 116] : List UInt8) == [105, 115, 95, 108, 105, 115, 116]) = false := by decide
  have n5 : (([115, 101, 116, 101, 108, 101, 109, 101, 110, 116] : List UInt8) == [105, 115, 95, 112, 105, 100]) = false := by decide
  have n6 : (([115, 101, 116, 101, 108, 101, 109, 101, 110, 116] : List UInt8) == [105, 115, 95, 114, 101, 102, 101, 114, 101, 110, 99, 101]) = false := by decide
  have n7 : (([115, 101, 116, 101, 108, 101, 109, 101, 110, 116] : List UInt8) == [105, 115, 95, 116, 117, 112, 108, 101]) = false := by decide
  have n8 : (([115, 101, 116, 101, 108, 101, 109, 101, 110, 116] : List UInt8) == [110, 111, 100, 101]) = false := by decide
  obtain ⟨A, B, C, x0, x1, x2⟩ := sl3r kv
  refine call_pure rfl rfl rfl (by simp only [AV.noRefs, AV.noRef, kv.noRef, Bool.and_self]) ?_
  simp only [a78, a78_0, a78_1, a78_2, a78_3, a78_4, a78_5, a78_6, a78_7, a78_8, a78_9, a78_10, a78_11, a78_12, a78_13, a78_14, a78_15, a78_16, a78_17, a78_18, a78_19, a78_20, a78_21, a78_22, a78_23, a78_24, a78_25, a78_26, a78_27, a78_28, Slots.ofList, wpc_draw, s3, reduceIte, Nat.reduceEqDiff, aBin, aInt, negIf, Option.some.injEq, exists_eq_left', Option.map_some, Option.bind_some, aStr, n0, n1, n2, n3, n4, n5, n6, n7, n8, x0, rd_tc, wc_eq (hr _), h3, List.length_cons, List.length_nil, List.drop_zero, List.drop_succ_cons, Nat.reduceAdd, Nat.le_refl, and_self, true_and, if_true, Bool.and_self, Nat.reduceLeDiff, _root_.eq_self, and_true, exists_eq', t3, reduceIte, Nat.reduceEqDiff]
theorem proper_int (n : Int) (h : Heap) : WC env 116 [.agg (tc (intT n))] h (fun o => o = .ret ⟨.tup [.nils, .bool false], h, .none⟩) := wc_run (n := 30) (by kernel_rfl)
theorem r117_no {v : AV} {n : Int} {u w : Tm} (kv : Sl v [intT n, u, w]) (hu : u.args.length < 100000) (e : elemI (intT n) u = none) (h : Heap) : WC env 117 [.str [115, 101, 116, 101, 108, 101, 109, 101, 110, 116], v] h (fun o => o = .ret ⟨.tup [.agg (tc zeroT), .int .i64 261], h, .none⟩) := by
  have n0 : (([115, 101, 116, 101, 108, 101, 109, 101, 110, 116] : List UInt8) == [104, 100]) = false := by decide
  have n1 : (([115, 101, 116, 101, 108, 101, 109, 101, 110, 116] : List UInt8) == [116, 108]) = false := by decide
  have n2 : (([115, 101, 116, 101, 108, 101, 109, 101, 110, 116] : List UInt8) == [108, 101, 110, 103, 116, 104]) = false := by decide
  have n3 : (([115, 101, 116, 101, 108, 101, 109, 101, 110, 116] : List UInt8) == [108, 105, 115, 116, 95, 116, 111, 95, 116, 117, 112, 108, 101]) = false := by decide
  have n4 : (([115, 101, 116, 101, 108, 101, 109, 101, 110, 116] : List UInt8) == [116, 117, 112, 108, 101, 95, 115, 105, 122, 101]) = false := by decide
  have n5 : (([115, 101, 116, 101, 108, 101, 109, 101, 110, 116] : List UInt8) == [116, 117, 112, 108, 101, 95, 116, 111, 95, 108, 105, 115, 116]) = false := by decide
  have n6 : (([115, 101, 116, 101, 108, 101, 109, 101, 110, 116] : List UInt8) == [101, 108, 101, 109, 101, 110, 116]) = false := by decide
  obtain ⟨A, B, C, x0, x1, x2⟩ := sl3r kv
  have nl : ∀ h, aLenOp false h v = some ⟨.int .i64 3, h, .none⟩ := kv.len
  have nu := (arAV_sl u).len
  have ki : (intT n).kind = 1 := rfl
  have ii : (intT n).int = n := rfl
  have k1 : ((1 : Int) != 1) = false := by decide
  have l1 : ((3 : Int) == 1) = false := by decide
  rw [elemI] at e
  simp only [ki, ii, true_and] at e
  refine call_pure rfl rfl rfl (by simp only [AV.noRefs, AV.noRef, kv.noRef, Bool.and_self]) ?_
  by_cases c2 : u.kind = 5
  · have z2 : (u.kind != 5) = false := by simpa using c2
    by_cases c3 : n < 1
    · have z3 : (n < 1) = True := eq_true c3
      simp only [a117, a117_0, a117_1, a117_2, a117_3, a117_4, a117_5, a117_6, a117_7, a117_8, a117_9, a117_10, a117_11, a117_12, a117_13, a117_14, a117_15, a117_16, a117_17, a117_18, a117_19, a117_20, a117_21, a117_22, a117_23, a117_24, a117_25, a117_26, a117_27, a117_28, a117_29, a117_30, a117_31, a117_32, a117_33, a117_34, a117_35, a117_36, a117_37, Slots.ofList, wpc_draw, s3, reduceIte, Nat.reduceEqDiff, aBin, aInt, negIf, Option.some.injEq, exists_eq_left', Option.map_some, Option.bind_some, aStr, n0, n1, n2, n3, n4, n5, n6, x0, x1, rd_tc, nl, nu, ki, ii, k1, l1, z2, z3, wc_eq (proper_int n _), zeroT_tc, h3, List.length_cons, List.length_nil, List.drop_zero, List.drop_succ_cons, Nat.reduceAdd, Nat.le_refl, and_self, true_and, if_true, Bool.and_self, Nat.reduceLeDiff, _root_.eq_self, and_true, exists_eq', t3, reduceIte, Nat.reduceEqDiff]
    · have z3 : (n < 1) = False := eq_false c3
      have z4 : (n > (u.args.length : Int)) = True := eq_true (by
        by_cases c4 : n ≤ (u.args.length : Int)
        · rw [if_pos ⟨c2, by omega, c4⟩] at e; cases e
        · omega)
      simp only [a117, a117_0, a117_1, a117_2, a117_3, a117_4, a117_5, a117_6, a117_7, a117_8, a117_9, a117_10, a117_11, a117_12, a117_13, a117_14, a117_15, a117_16, a117_17, a117_18, a117_19, a117_20, a117_21, a117_22, a117_23, a117_24, a117_25, a117_26, a117_27, a117_28, a117_29, a117_30, a117_31, a117_32, a117_33, a117_34, a117_35, a117_36, a117_37, Slots.ofList, wpc_draw, s3, reduceIte, Nat.reduceEqDiff, aBin, aInt, negIf, Option.some.injEq, exists_eq_left', Option.map_some, Option.bind_some, aStr, n0, n1, n2, n3, n4, n5, n6, x0, x1, rd_tc, nl, nu, ki, ii, k1, l1, z2, z3, z4, wc_eq (proper_int n _), zeroT_tc, h3, List.length_cons, List.length_nil, List.drop_zero, List.drop_succ_cons, Nat.reduceAdd, Nat.le_refl, and_self, true_and, if_true, Bool.and_self, Nat.reduceLeDiff, _root_.eq_self, and_true, exists_eq', t3, reduceIte, Nat.reduceEqDiff]
  · have z2 : (u.kind != 5) = true := by simpa using c2
    simp only [a117, a117_0, a117_1, a117_2, a117_3, a117_4, a117_5, a117_6, a117_7, a117_8, a117_9, a117_10, a117_11, a117_12, a117_13, a117_14, a117_15, a117_16, a117_17, a117_18, a117_19, a117_20, a117_21, a117_22, a117_23, a117_24, a117_25, a117_26, a117_27, a117_28, a117_29, a117_30, a117_31, a117_32, a117_33, a117_34, a117_35, a117_36, a117_37, Slots.ofList, wpc_draw, s3, reduceIte, Nat.reduceEqDiff, aBin, aInt, negIf, Option.some.injEq, exists_eq_left', Option.map_some, Option.bind_some, aStr, n0, n1, n2, n3, n4, n5, n6, x0, x1, rd_tc, nl, nu, ki, ii, k1, l1, z2, wc_eq (proper_int n _), zeroT_tc, h3, List.length_cons, List.length_nil, List.drop_zero, List.drop_succ_cons, Nat.reduceAdd, Nat.le_refl, and_self, true_and, if_true, Bool.and_self, Nat.reduceLeDiff, _root_.eq_self, and_true, exists_eq', t3, reduceIte, Nat.reduceEqDiff]
theorem r117_set {v : AV} {n : Int} {u w : Tm} (kv : Sl v [intT n, u, w]) (hu : u.args.length < 100000) {i : Nat} (e : elemI (intT n) u = some i) : ∃ f, ∀ h, WC env 117 [.str [115, 101, 116, 101, 108, 101, 109, 101, 110, 116], v] h (fun o => o = .ret ⟨.tup [.agg (tc (.mk 5 0 [] 0 none [] f (u.args.set i w))), .int .i64 0], h, .none⟩) := by
  have n0 : (([115, 101, 116, 101, 108, 101, 109, 101, 110, 116] : List UInt8) == [104, 100]) = false := by decide
  have n1 : (([115, 101, 116, 101, 108, 101, 109, 101, 110, 116] : List UInt8) == [116, 108]) = false := by decide
  have n2 : (([115, 101, 116, 101, 108, 101, 109, 101, 110, 116] : List UInt8) == [108, 101, 110, 103, 116, 104]) = false := by decide
  have n3 : (([115, 101, 116, 101, 108, 101, 109, 101, 110, 116] : List UInt8) == [108, 105, 115, 116, 95, 116, 111, 95, 116, 117, 112, 108, 101]) = false := by decide
  have n4 : (([115, 101, 116, 101, 108, 101, 109, 101, 110, 116] : List UInt8) == [116, 117, 112, 108, 101, 95, 115, 105, 122, 101]) = false := by decide
  have n5 : (([115, 101, 116, 101, 108, 101, 109, 101, 110, 116] : List UInt8) == [116, 117, 112, 108, 101, 95, 116, 111, 95, 108, 105, 115, 116]) = false := by decide
  have n6 : (([115, 101, 116, 101, 108, 101, 109, 101, 110, 116] : List UInt8) == [101, 108, 101, 109, 101, 110, 116]) = false := by decide
  obtain ⟨_, c2, hi, hn⟩ := elemI_some e
  have hn : n = (i : Int) + 1 := hn
  obtain ⟨A, B, C, x0, x1, x2⟩ := sl3r kv
  have nl : ∀ h, aLenOp false h v = some ⟨.int .i64 3, h, .none⟩ := kv.len
  have nu := (arAV_sl u).len
  have ki : (intT n).kind = 1 := rfl
  have ii : (intT n).int = n := rfl
  have k1 : ((1 : Int) != 1) = false := by decide
  have l1 : ((3 : Int) == 1) = false := by decide
  have z2 : (u.kind != 5) = false := by simpa using c2
  have z3 : (n < 1) = False := eq_false (by omega)
  have z4 : (n > (u.args.length : Int)) = False := eq_false (by omega)
  have wn : IntKind.wrap .i64 (n - 1) = (i : Int) := wrap_nat (by omega) (by omega)
  obtain ⟨H, eH⟩ : ∃ H, H = ((((Heap.empty.new [.int .i64 0, .int .i64 0, .str [], .int .u32 0, .nils, .nils]).new [.int .i64 0, .int .i64 0, .str [], .int .u32 0, .nils, .nils]).upd 1 0 (tc (intT n))).new [.int .i64 0, .int .i64 0, .str [], .int .u32 0, .nils, .nils]).upd 2 0 (tc u) := ⟨_, rfl⟩
  have ho : HeapOk H := by rw [eH]; exact ((((HeapOk.empty.new _).new _).upd (at_look.1 (at_new _)) _ _).new _).upd (at_look.1 (at_new _)) _ _
  have hN : H.next = 3 := by rw [eH]; rfl
  have a0 : H.at_ 0 0 = some zero6 := by rw [eH]; simp only [h3, List.length_cons, List.length_nil, List.drop_zero, List.drop_succ_cons, Nat.reduceAdd, Nat.le_refl, and_self, true_and, if_true, Bool.and_self, Nat.reduceLeDiff, _root_.eq_self, and_true, exists_eq', reduceIte, Nat.reduceEqDiff]; rfl
  have a1 : H.at_ 1 0 = some (tc (intT n)) := by rw [eH]; simp only [h3, List.length_cons, List.length_nil, List.drop_zero, List.drop_succ_cons, Nat.reduceAdd, Nat.le_refl, and_self, true_and, if_true, Bool.and_self, Nat.reduceLeDiff, _root_.eq_self, and_true, exists_eq', reduceIte, Nat.reduceEqDiff]
  have a2 : H.at_ 2 0 = some (tc u) := by rw [eH]; simp only [h3, List.length_cons, List.length_nil, List.drop_zero, List.drop_succ_cons, Nat.reduceAdd, Nat.le_refl, and_self, true_and, if_true, Bool.and_self, Nat.reduceLeDiff, _root_.eq_self, and_true, exists_eq', reduceIte, Nat.reduceEqDiff]
  have ks := (arAV_sl u).src H
  obtain ⟨c, hc⟩ := ks.cells
  have ll : u.args.length ≠ 0 := by omega
  have ap : aAppend H 6 88 (.fs true 0 []) (arAV u) = some ⟨.sl 3 0 0 6 u.args.length none, H.new (tcs u.args), .write⟩ := by
    unfold aAppend
    rw [ks.len, Option.bind_some]
    simp only [aLen, Option.bind_some]
    rw [if_pos ⟨by omega, by omega, by omega⟩, if_neg ll, hc, hN]
    simp [sliceCells]
  have y1 : aFill [] [] = some [] := rfl
  obtain ⟨G, eG⟩ : ∃ G, G = H.new (tcs u.args) := ⟨_, rfl⟩
  rw [← eG] at ap
  have hG : G.next = 4 := by rw [eG, next_new, hN]
  have g0 : G.at_ 0 0 = some zero6 := by rw [eG]; exact (le_new ho _).2 _ _ _ a0
  have g1 : G.at_ 1 0 = some (tc (intT n)) := by rw [eG]; exact (le_new ho _).2 _ _ _ a1
  have g3 : G.at_ 3 0 = some (tcs u.args) := by rw [eG, ← hN]; exact at_new _
  have fl := fillKV (v := .sl 3 0 0 6 u.args.length none) (k := 5) rfl
  have ix : aIdxAddr 6 (.sl 3 0 0 6 u.args.length none) (.int .i64 i) = some (.ptr 3 0 (0 + i * 6)) := by
    simp only [aIdxAddr, if_true, aIndex_nat (kd := .i64) hi, Option.map_some]
  rw [Nat.zero_add] at ix
  have st : aStore G 6 (.ptr 3 0 (i * 6)) (.agg (tc w)) = some ⟨.undef, G.upd 3 0 (tcs (u.args.set i w)), .write⟩ := by
    rw [aStore_at g3 (by rw [tcs_length]; omega), tcs_set _ _ _ hi]
  refine ⟨some false, fun h => call_pure rfl rfl rfl (by simp only [AV.noRefs, AV.noRef, kv.noRef, Bool.and_self]) ?_⟩
  simp only [a117, a117_0, a117_1, a117_2, a117_3, a117_4, a117_5, a117_6, a117_7, a117_8, a117_9, a117_10, a117_11, a117_12, a117_13, a117_14, a117_15, a117_16, a117_17, a117_18, a117_19, a117_20, a117_21, a117_22, a117_23, a117_24, a117_25, a117_26, a117_27, a117_28, a117_29, a117_30, a117_31, a117_32, a117_33, a117_34, a117_35, Slots.ofList, s3, reduceIte, Nat.reduceEqDiff, aBin, aInt, negIf, Option.some.injEq, exists_eq_left', Option.map_some, Option.bind_some, aStr, n0, n1, n2, n3, n4, n5, n6, x0, x1, rd_tc, nl, nu, ki, ii, k1, l1, z2, z3, z4, wc_eq (proper_int n _), h3, List.length_cons, List.length_nil, List.drop_zero, List.drop_succ_cons, Nat.reduceAdd, Nat.le_refl, and_self, true_and, if_true, Bool.and_self, Nat.reduceLeDiff, _root_.eq_self, and_true, exists_eq', t3, reduceIte, Nat.reduceEqDiff, ← eH, a1, a2, y1, Nat.reduceMul, Nat.zero_mul, ap]
  refine wpc_draw_k ?_
  simp only [s3, reduceIte, Nat.reduceEqDiff, aBin, aInt, negIf, Option.some.injEq, exists_eq_left', Option.map_some, Option.bind_some, k3, h3, List.length_cons, List.length_nil, List.drop_zero, List.drop_succ_cons, Nat.reduceAdd, Nat.le_refl, and_self, true_and, if_true, Bool.and_self, Nat.reduceLeDiff, _root_.eq_self, and_true, exists_eq', t3, a117_36, a117_37, x2, g1, ii, wn, rd_tc, ix, st, hG, g0, fl, reduceIte, Nat.reduceEqDiff]
  refine ⟨rfl, ?_⟩
  have ls : (u.args.set i w).length = u.args.length := List.length_set
  have ht : ((tcs (u.args.set i w)).drop 0).take (u.args.length * 6) = tcs (u.args.set i w) := by
    rw [List.drop_zero]; exact List.take_of_length_le (by rw [tcs_length, ls]; exact Nat.le_refl _)
  refine ⟨.tup [.agg (tc (.mk 5 0 [] 0 none [] (some false) (u.args.set i w))), .int .i64 0], frz_tup ⟨_, _, rfl, frz_agg ⟨_, _, rfl, (frz_noRef (v := .int .i64 5) rfl).2 rfl, _, _, rfl, (frz_noRef (v := .int .i64 0) rfl).2 rfl, _, _, rfl, (frz_noRef (v := .str []) rfl).2 rfl, _, _, rfl, (frz_noRef (v := .int .u32 0) rfl).2 rfl, _, _, rfl, (frz_noRef (v := .nils) rfl).2 rfl, _, _, rfl, ?_, rfl⟩, _, _, rfl, (frz_noRef (v := .int .i64 0) rfl).2 rfl, rfl⟩, rfl⟩
  refine (frz_sl (cs := tcs (u.args.set i w)) (by simp only [at_upd_if, at_new_if, hG, reduceIte, Nat.reduceEqDiff]) (by rw [tcs_length, ls]; omega) (by rw [ht]; exact noRef_tcs _)).2 ?_
  rw [ht, ls]
  rfl
end Go.Bf

set_option linter.unusedVariables false
set_option linter.unusedSimpArgs false
set_option maxRecDepth 20000
namespace Go.Bf
open Go.AM
theorem as_spec {h : Heap} {cs os : List AV} {id : Nat} (hat : h.at_ id 0 = some os) (hl : 0 < os.length) : WC env 37 [.ifc 69 (.fp cs), .ifc 71 (.ptr id 0 0)] h (fun o => o = .ret ⟨.bool true, h.upd id 0 (splice os 0 [.fp cs]), .write⟩) :=
  ⟨_, ⟨1, fun m hm => by
    cases m with
    | zero => omega
    | succ m =>
      show (((h.at_ id 0).bind fun os => if 0 < os.length then some (AV.bool true, h.upd id 0 (splice os 0 [.fp cs])) else none).map fun (v, h') => COut.ret ⟨v, h', .write⟩) = _
      rw [hat, Option.bind_some, if_pos hl]; rfl⟩, rfl⟩
/-- links: a layer, a place, a number -/
abbrev Lnk := List UInt8 × Int × Int
def errL : List Lnk → AV
  | [] => .nili
  | (s, a, c) :: r => .ifc 69 (.fp [.str s, .int .i64 a, .int .i64 c, errL r])
def lnkC : List Lnk → List AV
  | [] => []
  | (s, a, c) :: r => .str s :: .int .i64 a :: .int .i64 c :: lnkC r
theorem lnkC_length : ∀ l : List Lnk, (lnkC l).length = l.length * 3
  | [] => rfl
  | (s, a, c) :: l => by rw [lnkC]; simp only [List.length_cons, lnkC_length l]; omega
theorem lnkC_append : ∀ l m : List Lnk, lnkC (l ++ m) = lnkC l ++ lnkC m
  | [], m => rfl
  | (s, a, c) :: l, m => by rw [List.cons_append, lnkC, lnkC_append l m, lnkC]; rfl
theorem noRef_lnkC : ∀ l : List Lnk, AV.noRefs (lnkC l) = true
  | [] => rfl
  | (s, a, c) :: l => by rw [lnkC]; simp only [AV.noRefs, AV.noRef, noRef_lnkC l, Bool.and_self]
theorem noRef_errL : ∀ l : List Lnk, (errL l).noRef = true
  | [] => rfl
  | (s, a, c) :: l => by rw [errL]; simp only [AV.noRef, AV.noRefs, noRef_errL l, Bool.and_self]
theorem one_lnk (h : Heap) (x : Lnk) : sliceCells h 3 1 (.fs true 1 [.str x.1, .int .i64 x.2.1, .int .i64 x.2.2]) = some (lnkC [x], .none) := rfl
theorem eq_errL (L : List Lnk) : aEq (.iface true) (errL L) .nili = some (L.isEmpty) := by
  rcases L with _ | ⟨⟨s, a, c⟩, r⟩ <;> rfl
theorem ld_np {v : AV} {l : List AV} : ldCells false 1 (v :: l) = some v := rfl
theorem acc_lt {h : Heap} {st : Nat} {v : AV} {L : List AV} {id : Nat} (ho : HeapOk h) (k : Acc h st v L) (e : v.own = some id) : id < h.next := by
  cases k with
  | nils => cases e
  | full => cases e
  | sl id' gen n _ hat' _ =>
    cases e
    exact ho.lt hat'
theorem chain_loop {Q : AExit → St → Prop} : ∀ (rest done : List Lnk) (σ : Slots) (h : Heap) (v : AV), HeapOk h → Acc h 3 v (lnkC done) → aLen v = some done.length → done.length + rest.length ≤ 15 →
    σ.get 0 = errL rest → σ.get 3 = v → σ.get 4 = .int .i64 done.length →
    (∀ σ' h' v', HeapOk h' → Acc h' 3 v' (lnkC (done ++ rest)) → aLen v' = some (done.length + rest.length) → σ'.get 3 = v' → Q (.exit 0) ⟨σ', h'⟩) → WPr env a45_l10 ⟨σ, h⟩ Q := by
  intro rest
  induction rest with
  | nil =>
    intro done σ h v ho k nv hl g0 g3 g4 hQ
    refine wpr_round' fun b hb => ?_
    have z0 : ((done.length : Int) < 16) = True := eq_true (by simp at hl; omega)
    rw [errL] at g0
    simp only [a45_l10, a45_3, wpc_draw, s3, reduceIte, Nat.reduceEqDiff, aBin, aInt, negIf, Option.some.injEq, exists_eq_left', Option.map_some, Option.bind_some, g0, g4, z0, eq_nil, Bool.not_true, aPk_t]
    exact hQ _ h v ho (by rw [List.append_nil]; exact k) nv (by simp only [get_put, reduceIte, Nat.reduceEqDiff, g3])
  | cons x rest ih =>
    intro done σ h v ho k nv hl g0 g3 g4 hQ
    obtain ⟨s, a, c⟩ := x
    refine wpr_round' fun b hb => ?_
    simp only [List.length_cons] at hl
    have z0 : ((done.length : Int) < 16) = True := eq_true (by omega)
    have zi : IntKind.wrap .i64 ((done.length : Int) + 1) = ((done.length + 1 : Nat) : Int) := wrap_nat (by omega) (by omega)
    rw [errL] at g0
    have en : ∀ x, aEq (.iface true) (.ifc 69 x) .nili = some false := fun _ => rfl
    obtain ⟨h1, e1⟩ : ∃ h1, h1 = h.new [.nilp] := ⟨_, rfl⟩
    have ho1 : HeapOk h1 := by rw [e1]; exact ho.new _
    have a1 : h1.at_ h.next 0 = some [.nilp] := by rw [e1]; exact at_new _
    have wa := as_spec (cs := [.str s, .int .i64 a, .int .i64 c, errL rest]) a1 (by simp)
    have sp : splice [AV.nilp] 0 [AV.fp [.str s, .int .i64 a, .int .i64 c, errL rest]] = [AV.fp [.str s, .int .i64 a, .int .i64 c, errL rest]] := rfl
    rw [sp] at wa
    obtain ⟨h2, e2⟩ : ∃ h2, h2 = h1.upd h.next 0 [AV.fp [.str s, .int .i64 a, .int .i64 c, errL rest]] := ⟨_, rfl⟩
    have ho2 : HeapOk h2 := by rw [e2]; exact ho1.upd (at_look.1 a1) _ _
    have a2 : h2.at_ h.next 0 = some [AV.fp [.str s, .int .i64 a, .int .i64 c, errL rest]] := by rw [e2]; exact at_upd
    rw [← e2] at wa
    have k2 : Acc h2 3 v (lnkC done) := by
      rw [e2, e1]
      refine (k.le (le_new ho _)).chg (upd_chg (S := fun j => j = h.next) rfl) fun id e => ?_
      have := acc_lt ho k e
      omega
    have np : aEq .ptr (.fp [.str s, .int .i64 a, .int .i64 c, errL rest]) .nilp = some false := rfl
    have nc : ∀ cs, aNil (.fp cs) = some (.fp cs) := fun _ => rfl
    have f0 : ∀ cs : List AV, cs.drop 0 = cs := fun _ => rfl
    have q1 : ldCells false 1 (([.str s, .int .i64 a, .int .i64 c, errL rest] : List AV).drop 1) = some (.int .i64 a) := rfl
    have q2 : ldCells false 1 (([.str s, .int .i64 a, .int .i64 c, errL rest] : List AV).drop 2) = some (.int .i64 c) := rfl
    have q3 : ldCells false 1 (([.str s, .int .i64 a, .int .i64 c, errL rest] : List AV).drop 3) = some (errL rest) := rfl
    have fl : aFill [.str [], .int .i64 0, .int .i64 0] [(0, 1, .str s), (1, 1, .int .i64 a), (2, 1, .int .i64 c)] = some [.str s, .int .i64 a, .int .i64 c] := rfl
    have f2 : aFill [.str [], .int .i64 0, .int .i64 0] [(0, 3, .agg [.str s, .int .i64 a, .int .i64 c])] = some [.str s, .int .i64 a, .int .i64 c] := rfl
    obtain ⟨v3, h3', c3, w3, kk, lb3, ho3, ow3, n3⟩ := Acc.append (bt := 32) ho2 (by omega : 0 < 3) k2 nv (show aLen (.fs true 1 [.str s, .int .i64 a, .int .i64 c]) = some 1 from rfl) (one_lnk h2 (s, a, c)) (lnkC_length _) (by omega) (by omega)
    rw [← lnkC_append] at kk
    have a3 : h3'.at_ h.next 0 = some [AV.fp [.str s, .int .i64 a, .int .i64 c, errL rest]] := lb3.2 _ _ _ (fun e => by
      have := acc_lt ho k e
      omega) a2
    simp only [a45_l10, a45_3, a45_4, a45_5, s3, reduceIte, Nat.reduceEqDiff, aBin, aInt, negIf, Option.some.injEq, exists_eq_left', Option.map_some, Option.bind_some, g0, g3, g4, z0, en, Bool.not_false, aPk_t, aPk_f, ← e1, wc_eq wa, aNot, Bool.not_true, aLoad_ptr, a2, List.drop_zero, ld_np, np]
    refine wpc_draw_k ?_
    simp only [a45_7, a45_8, a45_9, s3, reduceIte, Nat.reduceEqDiff, aBin, aInt, negIf, Option.some.injEq, exists_eq_left', Option.map_some, Option.bind_some, k3, aLoad_ptr, aLoad_fp, a2, List.drop_zero, ld_np, nc, aFld_f, q1, q2, q3, fl, f2, List.length_cons, List.length_nil, Nat.reduceAdd, Nat.reduceMul, if_true, g3, w3, isC c3, a3, g4, zi]
    refine ⟨by cases c3 <;> rfl, ?_⟩
    subst hb
    refine ih (done ++ [(s, a, c)]) _ h3' v3 ho3 kk (by rw [n3]; simp) (by simp; omega) ?_ ?_ ?_ fun σ' h' v' p1 p2 p3 p4 => hQ σ' h' v' p1 (by rw [List.append_assoc] at p2; exact p2) (by rw [p3]; simp; omega) p4
    · simp only [get_put, reduceIte, Nat.reduceEqDiff]
    · simp only [get_put, reduceIte, Nat.reduceEqDiff]
    · simp only [get_put, reduceIte, Nat.reduceEqDiff, List.length_append, List.length_cons, List.length_nil]
theorem chain_spec (L : List Lnk) (hL : L.length ≤ 15) : ∃ f, ∀ h, WC env 45 [errL L] h (fun o => o = .ret ⟨slAV f L.length (lnkC L), h, .none⟩) := by
  have hr : AV.noRefs [errL L] = true := by simp only [AV.noRefs, noRef_errL, Bool.and_self]
  have hw : WC env 45 [errL L] .empty (fun o => ∃ f, o = .ret ⟨slAV f L.length (lnkC L), .empty, .none⟩) := by
    refine call_pure rfl rfl rfl hr ?_
    have eb : a45.body = (.seq (.ops a45_0) (.seq (.ops a45_1) (.seq (.seq (.ops a45_2) (.block 0 (.loop a45_l10))) (.seq (.ops a45_11) .ret)))) := rfl
    rw [eb]
    simp only [a45_0, a45_1, a45_2, Slots.ofList, wpc_draw, s3, reduceIte, Nat.reduceEqDiff, aBin, aInt, negIf, Option.some.injEq, exists_eq_left', Option.map_some, Option.bind_some]
    refine chain_loop L [] _ .empty .nils HeapOk.empty .nils rfl (by simpa using hL) ?_ ?_ ?_ fun σ' h' v' ho' k n g3 => ?_
    · simp only [get_put, reduceIte, Nat.reduceEqDiff]
    · simp only [get_put, reduceIte, Nat.reduceEqDiff]
    · simp only [get_put, reduceIte, Nat.reduceEqDiff]; rfl
    rw [List.nil_append] at k
    have n : aLen v' = some L.length := by rw [n]; simp
    obtain ⟨f, hf⟩ := frz_acc k (noRef_lnkC _) n
    simp only [a45_11, wpc_draw, s3, reduceIte, Nat.reduceEqDiff, aBin, aInt, negIf, Option.some.injEq, exists_eq_left', Option.map_some, Option.bind_some, g3]
    exact ⟨[v'], _, by simp only [a45, Env.results, Option.map_some, get_put, reduceIte, Nat.reduceEqDiff], hf, f, rfl⟩
  obtain ⟨o, hn, f, e⟩ := hw
  subst e
  exact ⟨f, fun h => pure_any rfl rfl rfl hr ⟨_, hn, rfl⟩⟩
end Go.Bf

set_option linter.unusedVariables false
set_option linter.unusedSimpArgs false
set_option maxRecDepth 20000
namespace Go.Bf
open Go.AM
def linksU : Int × Int × Und → List Lnk
  | (a, c, none) => [([116, 101, 114, 109], a, c)]
  | (a, c, some (p, d)) => [([116, 101, 114, 109], a, c), ([97, 116, 111, 109], p, d)]
theorem walk_errL (x : Int × Int × Und) : walkAV (some x) = errL (linksU x) := by
  rcases x with ⟨a, c, _ | ⟨p, d⟩⟩ <;> rfl
/-- the chain of a call's fault -/
def badL (j : Int) (x : Int × Int × Und) : List Lnk := ([98, 105, 102], j, x.2.1) :: linksU x
theorem badL_len (j : Int) (x : Int × Int × Und) : (badL j x).length ≤ 3 ∧ 0 < (badL j x).length := by
  rcases x with ⟨a, c, _ | ⟨p, d⟩⟩ <;> exact ⟨by simp [badL, linksU], by simp [badL, linksU]⟩
theorem lnk_drop : ∀ (L : List Lnk) (i : Nat) (hi : i < L.length), (lnkC L).drop (i * 3) = lnkC (L.drop i)
  | [], i, h => by simp at h
  | x :: L, 0, h => by simp
  | (s, a, c) :: L, i + 1, h => by
    have e : (i + 1) * 3 = i * 3 + 3 := by omega
    rw [e, lnkC, List.drop_succ_cons, List.drop_succ_cons, List.drop_succ_cons, List.drop_succ_cons]
    exact lnk_drop L i (by simpa using h)
theorem lnk_idx {f : Option Bool} {L : List Lnk} {i : Nat} (hi : i < L.length) : aIdxAddr 3 (slAV f L.length (lnkC L)) (.int .i64 i) = some (.fp (lnkC (L.drop i))) := by
  have hl := lnkC_length L
  have go : ∀ b, aIdxAddr 3 (.fs b L.length (lnkC L)) (.int .i64 i) = some (.fp (lnkC (L.drop i))) := by
    intro b
    rw [← lnk_drop L i hi]
    cases e : lnkC L with
    | nil => rw [e] at hl; simp at hl; omega
    | cons c cs =>
      simp only [aIdxAddr, aIndex_nat (kd := .i64) hi, Option.map_some]
  cases f with
  | none =>
    cases n : L.length with
    | zero => omega
    | succ n => have := go false; rw [n] at this; exact this
  | some b => exact go b
theorem lnk_len (f : Option Bool) (L : List Lnk) (h : Heap) : aLenOp false h (slAV f L.length (lnkC L)) = some ⟨.int .i64 L.length, h, .none⟩ := by
  cases f with
  | none => cases L <;> rfl
  | some b => rfl
theorem lnk_ld {L : List Lnk} {i : Nat} (hi : i < L.length) : ldCells true 3 (lnkC (L.drop i)) = some (.agg [.str L[i].1, .int .i64 L[i].2.1, .int .i64 L[i].2.2]) := by
  rw [List.drop_eq_getElem_cons hi]
  rcases L[i] with ⟨s, a, c⟩
  rfl
theorem lnk_ld2 {L : List Lnk} {i : Nat} (hi : i < L.length) : ldCells false 1 ((lnkC (L.drop i)).drop 2) = some (.int .i64 L[i].2.2) := by
  rw [List.drop_eq_getElem_cons hi]
  rcases L[i] with ⟨s, a, c⟩
  rfl
theorem noRef_lsl (f : Option Bool) (L : List Lnk) : (slAV f L.length (lnkC L)).noRef = true := by
  cases f with
  | none =>
    cases L with
    | nil => rfl
    | cons x L => exact noRef_lnkC (x :: L)
  | some b => exact noRef_lnkC L
theorem eqs_lnk (l : List UInt8) (a c : Int) : aEq (.struct [(0, 1, false, .str), (1, 1, false, .int), (2, 1, false, .int)]) (.agg [.str l, .int .i64 a, .int .i64 c]) (.agg [.str l, .int .i64 a, .int .i64 c]) = some true := by
  simp [aEq, aEqs, aEqScalar]
theorem wc_prim {f : Nat} {p : List AV → Heap → Option (AV × Heap)} {args : List AV} {h h' : Heap} {v : AV} (hp : env.prim f = some p) (hv : p args h = some (v, h')) : WC env f args h (fun o => o = .ret ⟨v, h', .write⟩) := by
  refine ⟨_, ⟨1, fun m hm => ?_⟩, rfl⟩
  obtain ⟨m, rfl⟩ : ∃ k, m = k + 1 := ⟨m - 1, by omega⟩
  simp only [Env.call, hp, hv, Option.map_some]
theorem is_lnk : ∀ (L : List Lnk) (h0 : 0 < L.length), L.length ≤ 3 → ∀ h, WC env 46 [errL L, .ifc 67 (.int .i64 L[L.length - 1].2.2)] h (fun o => o = .ret ⟨.bool true, h, .write⟩)
  | [], h0, _, h => by simp at h0
  | [(s, a, c)], _, _, h => wc_prim (p := isP) rfl (by simp [isP, errL])
  | [(s, a, c), (s2, a2, c2)], _, _, h => wc_prim (p := isP) rfl (by simp [isP, errL])
  | [(s, a, c), (s2, a2, c2), (s3', a3, c3)], _, _, h => wc_prim (p := isP) rfl (by simp [isP, errL])
  | _ :: _ :: _ :: _ :: _, _, h3', h => by simp at h3'
theorem refused_loop {L : List Lnk} {f g : Option Bool} (hlen : L.length < 1000) {h : Heap} {Q : AExit → St → Prop} : ∀ (k i : Nat) (σ : Slots), L.length - i < k → i ≤ L.length →
    σ.get 5 = slAV f L.length (lnkC L) → σ.get 1 = slAV g L.length (lnkC L) → σ.get 6 = .int .i64 i → (∀ σ', σ'.get 0 = σ.get 0 → σ'.get 1 = σ.get 1 → Q (.exit 0) ⟨σ', h⟩) → WPr env a26_l11 ⟨σ, h⟩ Q := by
  intro k
  induction k with
  | zero => intro i σ h1; omega
  | succ k ih =>
    intro i σ hk hi g5 g1 g6 hQ
    refine wpr_round' fun b hb => ?_
    have ln := fun h => lnk_len g L h
    by_cases c1 : i < L.length
    · have z0 : ((i : Int) < (L.length : Int)) = True := eq_true (by omega)
      have zi : IntKind.wrap .i64 ((i : Int) + 1) = ((i + 1 : Nat) : Int) := wrap_nat (by omega) (by omega)
      have x1 := lnk_idx (f := f) c1
      have x2 := lnk_idx (f := g) c1
      have ld := lnk_ld c1
      simp only [a26_l11, a26_7, s3, reduceIte, Nat.reduceEqDiff, aBin, aInt, negIf, Option.some.injEq, exists_eq_left', Option.map_some, Option.bind_some, g1, g6, ln, z0]
      refine wpc_draw_k ?_
      simp only [a26_8, a26_10, s3, reduceIte, Nat.reduceEqDiff, aBin, aInt, negIf, Option.some.injEq, exists_eq_left', Option.map_some, Option.bind_some, k3, h3, List.length_cons, List.length_nil, List.drop_zero, List.drop_succ_cons, Nat.reduceAdd, Nat.le_refl, and_self, true_and, if_true, Bool.and_self, Nat.reduceLeDiff, _root_.eq_self, and_true, exists_eq', g1, g5, g6, x1, x2, ld, eqs_lnk, Bool.not_true, zi]
      refine ⟨rfl, ?_⟩
      subst hb
      refine ih (i + 1) _ (by omega) (by omega) ?_ ?_ ?_ fun σ' p0 p1 => hQ σ' ?_ ?_
      · simp only [get_put, reduceIte, Nat.reduceEqDiff, g5]
      · simp only [get_put, reduceIte, Nat.reduceEqDiff, g1]
      · simp only [get_put, reduceIte, Nat.reduceEqDiff]
      · rw [p0]; simp only [get_put, reduceIte, Nat.reduceEqDiff]
      · rw [p1]; simp only [get_put, reduceIte, Nat.reduceEqDiff]
    · have z0 : ((i : Int) < (L.length : Int)) = False := eq_false (by omega)
      simp only [a26_l11, a26_7, wpc_draw, s3, reduceIte, Nat.reduceEqDiff, aBin, aInt, negIf, Option.some.injEq, exists_eq_left', Option.map_some, Option.bind_some, g1, g6, ln, z0]
      refine hQ _ ?_ ?_
      · simp only [get_put, reduceIte, Nat.reduceEqDiff]
      · simp only [get_put, reduceIte, Nat.reduceEqDiff]
theorem refused_chain {L : List Lnk} (h0 : 0 < L.length) (h3' : L.length ≤ 3) (g : Option Bool) (h : Heap) : WC env 26 [errL L, slAV g L.length (lnkC L)] h (fun o => o = .ret ⟨.bool true, h, .none⟩) := by
  obtain ⟨f, wch⟩ := chain_spec L (by omega)
  have ln := fun h => lnk_len g L h
  have lf := fun h => lnk_len f L h
  have z0 : (((L.length : Nat) : Int) == 0) = false := by rw [beq_eq_false_iff_ne]; omega
  have z1 : (((L.length : Nat) : Int) != (L.length : Int)) = false := by simp
  have w1 : IntKind.wrap .i64 ((L.length : Int) - 1) = ((L.length - 1 : Nat) : Int) := wrap_nat (by omega) (by omega)
  have x2 := lnk_idx (f := g) (L := L) (i := L.length - 1) (by omega)
  have ld := lnk_ld2 (L := L) (i := L.length - 1) (by omega)
  have wi := is_lnk L h0 h3'
  refine call_pure rfl rfl rfl (by simp only [AV.noRefs, noRef_errL, noRef_lsl, Bool.and_self, Bool.and_true]) ?_
  have eb : a26.body = (.seq (.ops a26_0) (.seq (.seq (.ops a26_1) (.cond (.t 9) (.seq (.ops a26_2) .ret) .skip)) (.seq (.ops a26_3) (.seq (.seq (.ops a26_4) (.cond (.t 18) (.seq (.ops a26_5) .ret) .skip)) (.seq (.seq (.ops a26_6) (.block 0 (.loop a26_l11))) (.seq (.ops a26_12) .ret)))))) := rfl
  rw [eb]
  simp only [a26_0, a26_1, a26_3, a26_4, a26_6, Slots.ofList, wpc_draw, s3, reduceIte, Nat.reduceEqDiff, aBin, aInt, negIf, Option.some.injEq, exists_eq_left', Option.map_some, Option.bind_some, ln, lf, z0, z1, wc_eq (wch _)]
  refine refused_loop (L := L) (f := f) (g := g) (by omega) (L.length + 1) 0 _ (by omega) (by omega) ?_ ?_ ?_ fun σ' p0 p1 => ?_
  · simp only [get_put, reduceIte, Nat.reduceEqDiff]
  · simp only [get_put, reduceIte, Nat.reduceEqDiff]
  · simp only [get_put, reduceIte, Nat.reduceEqDiff]; rfl
  simp only [get_put, reduceIte, Nat.reduceEqDiff] at p0 p1
  simp only [a26_12, wpc_draw, s3, reduceIte, Nat.reduceEqDiff, aBin, aInt, negIf, Option.some.injEq, exists_eq_left', Option.map_some, Option.bind_some, h3, List.length_cons, List.length_nil, List.drop_zero, List.drop_succ_cons, Nat.reduceAdd, Nat.le_refl, and_self, true_and, if_true, Bool.and_self, Nat.reduceLeDiff, _root_.eq_self, and_true, exists_eq', p0, p1, ln, w1, x2, ld, wc_eq (wi _)]
  exact ⟨[.bool true], by simp only [a26, Env.results, Option.map_some, get_put, reduceIte, Nat.reduceEqDiff], _, (frz_noRef (v := .bool true) rfl).2 rfl, rfl⟩
/-- the arguments are looked at: one is no term -/
theorem call_loop_bad {ts : List Tm} (hok : Oks ts) {v : AV} (kv : Sl v ts) (hlen : ts.length < 1000000) {j : Nat} (hj : j < ts.length) (hall : ∀ i (hi : i < j), isT (ts[i]'(by omega)) = true) {x : Int × Int × Und} (hx : chkF ts[j] = some x) {i4 : Nat} {Q : AExit → St → Prop} :
    ∀ (f i : Nat) (σ : Slots) (h : Heap), j - i < f → i ≤ j → HeapOk h → h.at_ i4 0 = some zero6 → σ.get 4 = .ptr i4 0 0 → σ.get 25 = v → σ.get 26 = .int .i64 ts.length → σ.get 27 = .int .i64 i →
    (∀ σ' h', h'.at_ i4 0 = some zero6 → σ'.get 4 = .ptr i4 0 0 → σ'.get 5 = errL (badL j x) → Q .ret ⟨σ', h'⟩) → WPr env a18_l13 ⟨σ, h⟩ Q := by
  intro f
  induction f with
  | zero => intro i σ h h1; omega
  | succ f ih =>
    intro i σ h hf hi ho a4 g4 g25 g26 g27 hQ
    refine wpr_round' fun b hb => ?_
    have c1 : i < ts.length := by omega
    have z0 : ((i : Int) < (ts.length : Int)) = True := eq_true (by omega)
    have zi : IntKind.wrap .i64 ((i : Int) + 1) = ((i + 1 : Nat) : Int) := wrap_nat (by omega) (by omega)
    have lx := kv.idx c1
    have ld := ld_args c1 h
    obtain ⟨h3', st3, ho3, le3, at3⟩ := box_t ho ts[i]
    have lt3 := ld_t at3
    by_cases c2 : i < j
    · have q1 := eq_chk ts[i]
      rw [hall i c2] at q1
      simp only [a18_l13, a18_5, a18_6, a18_7, a18_8, a18_12, wpc_draw, s3, reduceIte, Nat.reduceEqDiff, aBin, aInt, negIf, Option.some.injEq, exists_eq_left', Option.map_some, Option.bind_some, g25, g26, g27, z0, zi, lx, ld, st3, lt3, wc_eq (check_spec ts[i] (hok.get (List.getElem_mem c1)) _), q1, Bool.not_true]
      subst hb
      refine ih (i + 1) _ h3' (by omega) (by omega) ho3 (le3.2 _ _ _ a4) ?_ ?_ ?_ ?_ hQ
      · simp only [get_put, reduceIte, Nat.reduceEqDiff, g4]
      · simp only [get_put, reduceIte, Nat.reduceEqDiff, g25]
      · simp only [get_put, reduceIte, Nat.reduceEqDiff, g26]
      · simp only [get_put, reduceIte, Nat.reduceEqDiff]
    · have ej : i = j := by omega
      subst ej
      have wk := check_spec ts[i] (hok.get (List.getElem_mem c1))
      rw [hx, walk_errL] at wk
      obtain ⟨s, a, R, e1⟩ : ∃ s a R, errL (linksU x) = .ifc 69 (.fp [.str s, .int .i64 a, .int .i64 x.2.1, R]) := by
        rcases x with ⟨a, c, _ | ⟨p, d⟩⟩ <;> exact ⟨_, _, _, rfl⟩
      have e0 : errL (badL i x) = .ifc 69 (.fp [.str [98, 105, 102], .int .i64 i, .int .i64 x.2.1, errL (linksU x)]) := rfl
      rw [e0] at hQ
      rw [e1] at wk hQ
      have lt4 := ho.lt a4
      obtain ⟨h4, e4⟩ : ∃ h4, h4 = h3'.new [.nilp] := ⟨_, rfl⟩
      have ho4 : HeapOk h4 := by rw [e4]; exact ho3.new _
      have a5 : h4.at_ h3'.next 0 = some [.nilp] := by rw [e4]; exact at_new _
      have wa := as_spec (cs := [.str s, .int .i64 a, .int .i64 x.2.1, R]) a5 (by simp)
      have sp : splice [AV.nilp] 0 [AV.fp [.str s, .int .i64 a, .int .i64 x.2.1, R]] = [AV.fp [.str s, .int .i64 a, .int .i64 x.2.1, R]] := rfl
      rw [sp] at wa
      obtain ⟨h5, e5⟩ : ∃ h5, h5 = h4.upd h3'.next 0 [AV.fp [.str s, .int .i64 a, .int .i64 x.2.1, R]] := ⟨_, rfl⟩
      have a6 : h5.at_ h3'.next 0 = some [AV.fp [.str s, .int .i64 a, .int .i64 x.2.1, R]] := by rw [e5]; exact at_upd
      rw [← e5] at wa
      have le := le3.1
      have a7 : h5.at_ i4 0 = some zero6 := by
        rw [e5, at_upd_ne (by omega), e4]
        exact (le_new ho3 _).2 _ _ _ (le3.2 _ _ _ a4)
      have sx : aStore h5 6 (.ptr i4 0 0) (.agg zero6) = some ⟨.undef, h5.upd i4 0 zero6, .write⟩ := st6 a7
      have q1 : aEq (.iface true) (.ifc 69 (.fp [.str s, .int .i64 a, .int .i64 x.2.1, R])) .nili = some false := rfl
      have np : aEq .ptr (.fp [.str s, .int .i64 a, .int .i64 x.2.1, R]) .nilp = some false := rfl
      have nc : ∀ cs, aNil (.fp cs) = some (.fp cs) := fun _ => rfl
      have q2 : ldCells false 1 (([.str s, .int .i64 a, .int .i64 x.2.1, R] : List AV).drop 2) = some (.int .i64 x.2.1) := rfl
      have ldn : ∀ (v : AV) (l : List AV), ldCells false 1 (v :: l) = some v := fun _ _ => rfl
      have fb : aFill [.str [], .int .i64 0, .int .i64 0, .nili] [(0, 1, .str [98, 105, 102]), (1, 1, .int .i64 i), (2, 1, .int .i64 x.2.1), (3, 1, .ifc 69 (.fp [.str s, .int .i64 a, .int .i64 x.2.1, R]))] = some [.str [98, 105, 102], .int .i64 i, .int .i64 x.2.1, .ifc 69 (.fp [.str s, .int .i64 a, .int .i64 x.2.1, R])] := rfl
      simp only [a18_l13, a18_5, a18_6, a18_7, a18_8, a18_9, a18_10, s3, reduceIte, Nat.reduceEqDiff, aBin, aInt, negIf, Option.some.injEq, exists_eq_left', Option.map_some, Option.bind_some, g25, g26, g27, z0, lx, ld, st3, lt3, wc_eq (wk _), q1, Bool.not_false, ← e4, wc_eq wa]
      have y5 : aFill [.int .i64 0, .int .i64 0, .str [], .int .u32 0, .nils, .nils] [] = some zero6 := rfl
      have ne : ¬ h3'.next = i4 := by omega
      apply draw_to
      · simp only [a18_11, s3, reduceIte, Nat.reduceEqDiff, aBin, aInt, negIf, Option.some.injEq, exists_eq_left', Option.map_some, Option.bind_some, wpl_nil', wpl_none, wpl_some, gval_bool, logK_c, logQ_apply, guardL_tt, guardL_ff, guardL_tf, guardL_ft, drawQ_apply, endQ_apply, y5, aLoad_ptr, aLoad_fp, a6, List.drop_zero, ldn, nc, aFld_f, q2, fb, AV.row, Option.some.injEq, List.length_cons, List.length_nil, Nat.reduceAdd, if_true, g4, sx]
        refine ⟨draw_of_cls3 [2] rfl ⟨?_, trivial⟩, rfl⟩
        refine steady_load (.ptr h3'.next 0 0) (.fp [.str s, .int .i64 a, .int .i64 x.2.1, R]) ?_ ?_
        · simp only [opd_t, get_put, reduceIte, Nat.reduceEqDiff]
        · simp only [allLd_cons, allLd_nil, List.map_cons, List.map_nil, aLoad_ptr, at_upd_if, ne, if_false, a6, Option.map_some, Option.bind_some, ldn, List.drop_zero, and_self]
      simp only [s3, reduceIte, Nat.reduceEqDiff, aBin, aInt, negIf, Option.some.injEq, exists_eq_left', Option.map_some, Option.bind_some]
      refine hQ _ _ ?_ ?_ ?_
      · exact at_upd
      · simp only [get_put, reduceIte, Nat.reduceEqDiff, g4]
      · simp only [get_put, reduceIte, Nat.reduceEqDiff]
theorem call_bad {name : List UInt8} {ts : List Tm} (hok : Oks ts) {v : AV} (kv : Sl v ts) (hlen : ts.length < 1000000) {j : Nat} (hj : j < ts.length) (hall : ∀ i (hi : i < j), isT (ts[i]'(by omega)) = true) {x : Int × Int × Und} (hx : chkF ts[j] = some x)
    {a b c d : AV} (hf : findV name ts.length = .tup [.agg [a, b, c, d], .bool true]) (h : Heap) : WC env 18 [.str name, v] h (fun o => o = .ret ⟨.tup [.agg zero6, errL (badL j x)], h, .none⟩) := by
  refine call_pure rfl rfl rfl (by simp only [AV.noRefs, AV.noRef, kv.noRef, Bool.and_self]) ?_
  obtain ⟨i4, e4⟩ : ∃ i4, i4 = Heap.empty.next := ⟨_, rfl⟩
  obtain ⟨h1, eh1⟩ : ∃ h1, h1 = Heap.empty.new [.int .i64 0, .int .i64 0, .str [], .int .u32 0, .nils, .nils] := ⟨_, rfl⟩
  have ho1 : HeapOk h1 := by rw [eh1]; exact HeapOk.empty.new _
  have a1 : h1.at_ i4 0 = some zero6 := by rw [eh1, e4]; exact at_new _
  obtain ⟨h2, s2, ho2, hl2, a2⟩ := box4 ho1 a b c d
  have fs : ∀ h, WC env 13 [.str name, .int .i64 ts.length] h (fun o => o = .ret ⟨.tup [.agg [a, b, c, d], .bool true], h, .none⟩) := fun h => by rw [← hf]; exact find_spec h name ts.length
  have nl := kv.len
  have eb : a18.body = (.seq (.ops a18_0) (.seq (.seq (.ops a18_1) (.seq (.ops a18_2) (.cond (.t 22) (.seq (.ops a18_3) .ret) .skip))) (.seq (.seq (.ops a18_4) (.block 0 (.loop a18_l13))) (.seq (.ops a18_14) (.seq (.seq (.ops a18_15) (.cond (.t 62) (.ops a18_16) .skip)) (.seq (.seq (.ops a18_17) (.cond (.t 64) (.seq (.ops a18_18) .ret) .skip)) (.seq (.ops a18_19) .ret))))))) := rfl
  rw [eb, wpc_seq]
  obtain ⟨R, eR⟩ : ∃ R, R = AC.seq (.ops a18_14) (.seq (.seq (.ops a18_15) (.cond (.t 62) (.ops a18_16) .skip)) (.seq (.seq (.ops a18_17) (.cond (.t 64) (.seq (.ops a18_18) .ret) .skip)) (.seq (.ops a18_19) .ret))) := ⟨_, rfl⟩
  rw [← eR]
  simp only [a18_0, a18_1, a18_2, a18_4, Slots.ofList, wpc_draw, s3, reduceIte, Nat.reduceEqDiff, aBin, aInt, negIf, Option.some.injEq, exists_eq_left', Option.map_some, Option.bind_some, ← eh1, ← e4, nl, wc_eq (fs _), aExtract, ex0, ex1, s2, aUn, Bool.not_true]
  refine call_loop_bad hok kv hlen hj hall hx (i4 := i4) (j + 1) 0 _ h2 (by omega) (by omega) ho2 (hl2.2 _ _ _ a1) ?_ ?_ ?_ ?_ fun σ' h' a9 g4 g5 => ?_
  · simp only [get_put, reduceIte, Nat.reduceEqDiff]
  · simp only [get_put, reduceIte, Nat.reduceEqDiff]
  · simp only [get_put, reduceIte, Nat.reduceEqDiff]
  · simp only [get_put, reduceIte, Nat.reduceEqDiff]; rfl
  have l6 : aLoad h' true 6 (.ptr i4 0 0) = some ⟨.agg zero6, h', .read⟩ := ld6 a9
  exact ⟨[.agg zero6, errL (badL j x)], .tup [.agg zero6, errL (badL j x)], by simp only [a18, Env.results, Option.map_some, get_put, reduceIte, Nat.reduceEqDiff, g4, g5, l6, Option.bind_some] <;> rfl, (frz_noRef (v := .tup [.agg zero6, errL (badL j x)]) (by simp only [AV.noRef, AV.noRefs, noRefs_zero6, noRef_errL, Bool.and_self])).2 rfl, rfl⟩
end Go.Bf

set_option linter.unusedVariables false
set_option linter.unusedSimpArgs false
set_option maxRecDepth 20000
namespace Go.Bf
open Go.AM
theorem over_spec (j : Int) (x : Int × Int × Und) : ∃ f, ∀ h, WC env 43 [.str [98, 105, 102], .int .i64 j, .int .i64 x.2.1, rlinkAV (some x)] h (fun o => o = .ret ⟨slAV f (badL j x).length (lnkC (badL j x)), h, .none⟩) := by
  rcases x with ⟨a, c, _ | ⟨p, d⟩⟩
  · exact ⟨some false, fun h => wc_run (n := 30) (by kernel_rfl)⟩
  · exact ⟨some false, fun h => wc_run (n := 30) (by kernel_rfl)⟩
theorem no_spec (c : Int) (h : Heap) : WC env 42 [.int .i64 0, .int .i64 c] h (fun o => o = .ret ⟨slAV (some true) 1 (lnkC [([98, 105, 102], 0, c)]), h, .none⟩) := wc_run (n := 30) (by kernel_rfl)
theorem rcall_loop {ts : List Tm} (hok : Oks ts) {v : AV} (kv : Sl v ts) (hlen : ts.length < 1000000) {m : Nat} (hm : m ≤ ts.length) (hall : ∀ i (hi : i < m), isT (ts[i]'(by omega)) = true) {h : Heap} {Q : AExit → St → Prop} :
    ∀ (f i : Nat) (σ : Slots), m - i < f → i ≤ m → σ.get 1 = v → σ.get 8 = .int .i64 i →
    (∀ σ', σ'.get 0 = σ.get 0 → σ'.get 1 = v → σ'.get 4 = σ.get 4 → σ'.get 8 = .int .i64 m → WPr env a25_l10 ⟨σ', h⟩ Q) → WPr env a25_l10 ⟨σ, h⟩ Q := by
  intro f
  induction f with
  | zero => intro i σ h1; omega
  | succ f ih =>
    intro i σ hf hi g1 g8 hQ
    by_cases c1 : i < m
    · refine wpr_round' fun b hb => ?_
      have c2 : i < ts.length := by omega
      have nl := kv.len
      have z0 : ((i : Int) < (ts.length : Int)) = True := eq_true (by omega)
      have zi : IntKind.wrap .i64 ((i : Int) + 1) = ((i + 1 : Nat) : Int) := wrap_nat (by omega) (by omega)
      have lx := kv.idx c2
      have ld := ld_args c2 h
      have wk := rcheck_spec ts[i] (hok.get (List.getElem_mem c2))
      have zr : (rlen (chkF ts[i]) > 0) = False := eq_false (by rw [rlen_ok (hall i c1)]; decide)
      simp only [a25_l10, a25_5, a25_6, a25_7, a25_9, wpc_draw, s3, reduceIte, Nat.reduceEqDiff, aBin, aInt, negIf, Option.some.injEq, exists_eq_left', Option.map_some, Option.bind_some, g1, g8, nl, z0, zi, lx, ld, wc_eq (wk _), len_rlink, zr]
      subst hb
      refine ih (i + 1) _ (by omega) (by omega) ?_ ?_ fun σ' p0 p1 p4 p8 => hQ σ' ?_ p1 ?_ p8
      · simp only [get_put, reduceIte, Nat.reduceEqDiff, g1]
      · simp only [get_put, reduceIte, Nat.reduceEqDiff]
      · rw [p0]; simp only [get_put, reduceIte, Nat.reduceEqDiff]
      · rw [p4]; simp only [get_put, reduceIte, Nat.reduceEqDiff]
    · have e : i = m := by omega
      subst e
      exact hQ σ rfl g1 rfl g8
section
variable {name : List UInt8} {ts : List Tm} {v : AV} (hok : Oks ts) (kv : Sl v ts) (hlen : ts.length < 1000000) {a b c d : AV} (hf : findV name ts.length = .tup [.agg [a, b, c, d], .bool true])
include hok kv hlen hf
theorem rcallh {m : Nat} (hm : m ≤ ts.length) (hall : ∀ i (hi : i < m), isT (ts[i]'(by omega)) = true) {Q : AExit → St → Prop}
    (hQ : ∀ σ h i4, HeapOk h → h.at_ i4 0 = some zero6 → σ.get 0 = .str name → σ.get 1 = v → σ.get 4 = .ptr i4 0 0 → σ.get 8 = .int .i64 m →
      WPr env a25_l10 ⟨σ, h⟩ (blockQ' 0 (seqQ env (.seq (.ops a25_11) (.seq (.seq (.ops a25_12) (.cond (.t 52) (.seq (.ops a25_13) .ret) .skip)) (.seq (.seq (.ops a25_14) (.cond (.t 59) (.seq (.ops a25_15) .ret) .skip)) (.seq (.ops a25_16) .ret)))) Q))) :
    wpc env a25.body ⟨Slots.ofList 0 [.str name, v] .empty, .empty⟩ Q := by
  obtain ⟨i4, e4⟩ : ∃ i4, i4 = Heap.empty.next := ⟨_, rfl⟩
  obtain ⟨h1, eh1⟩ : ∃ h1, h1 = Heap.empty.new [.int .i64 0, .int .i64 0, .str [], .int .u32 0, .nils, .nils] := ⟨_, rfl⟩
  have ho1 : HeapOk h1 := by rw [eh1]; exact HeapOk.empty.new _
  have a1 : h1.at_ i4 0 = some zero6 := by rw [eh1, e4]; exact at_new _
  obtain ⟨h2, s2, ho2, hl2, a2⟩ := box4 ho1 a b c d
  have fs : ∀ h, WC env 14 [.str name, .int .i64 ts.length] h (fun o => o = .ret ⟨.tup [.agg [a, b, c, d], .bool true], h, .none⟩) := fun h => by rw [← hf]; exact rfind_spec h name ts.length
  have nl := kv.len
  have eb : a25.body = (.seq (.ops a25_0) (.seq (.ops a25_1) (.seq (.seq (.ops a25_2) (.cond (.t 20) (.seq (.ops a25_3) .ret) .skip)) (.seq (.seq (.ops a25_4) (.block 0 (.loop a25_l10))) (.seq (.ops a25_11) (.seq (.seq (.ops a25_12) (.cond (.t 52) (.seq (.ops a25_13) .ret) .skip)) (.seq (.seq (.ops a25_14) (.cond (.t 59) (.seq (.ops a25_15) .ret) .skip)) (.seq (.ops a25_16) .ret)))))))) := rfl
  rw [eb]
  obtain ⟨R, eR⟩ : ∃ R, R = AC.seq (.ops a25_11) (.seq (.seq (.ops a25_12) (.cond (.t 52) (.seq (.ops a25_13) .ret) .skip)) (.seq (.seq (.ops a25_14) (.cond (.t 59) (.seq (.ops a25_15) .ret) .skip)) (.seq (.ops a25_16) .ret))) := ⟨_, rfl⟩
  rw [← eR]
  rw [← eR] at hQ
  simp only [a25_0, a25_1, a25_2, a25_4, Slots.ofList, wpc_draw, s3, reduceIte, Nat.reduceEqDiff, aBin, aInt, negIf, Option.some.injEq, exists_eq_left', Option.map_some, Option.bind_some, ← eh1, ← e4, nl, wc_eq (fs _), aExtract, ex0, ex1, s2, aUn, Bool.not_true]
  refine rcall_loop hok kv hlen hm hall (m + 1) 0 _ (by omega) (by omega) ?_ ?_ fun σ' p0 p1 p4 p8 => hQ σ' h2 i4 ho2 (hl2.2 _ _ _ a1) ?_ p1 ?_ p8
  · simp only [get_put, reduceIte, Nat.reduceEqDiff]
  · simp only [get_put, reduceIte, Nat.reduceEqDiff]; rfl
  · rw [p0]; simp only [get_put, reduceIte, Nat.reduceEqDiff]
  · rw [p4]; simp only [get_put, reduceIte, Nat.reduceEqDiff]
theorem rcall_bad {j : Nat} (hj : j < ts.length) (hall : ∀ i (hi : i < j), isT (ts[i]'(by omega)) = true) {x : Int × Int × Und} (hx : chkF ts[j] = some x) :
    ∃ f, ∀ h, WC env 25 [.str name, v] h (fun o => o = .ret ⟨.tup [.agg zero6, slAV f (badL j x).length (lnkC (badL j x))], h, .none⟩) := by
  obtain ⟨f, wo⟩ := over_spec j x
  refine ⟨f, fun h => call_pure rfl rfl rfl (by simp only [AV.noRefs, AV.noRef, kv.noRef, Bool.and_self]) (rcallh hok kv hlen hf (m := j) (by omega) hall fun σ h1 i4 ho1 a4 g0 g1 g4 g8 => ?_)⟩
  refine wpr_round' fun b hb => ?_
  have nl := kv.len
  have z0 : ((j : Int) < (ts.length : Int)) = True := eq_true (by omega)
  have lx := kv.idx hj
  have ld := ld_args hj h1
  have wk := rcheck_spec ts[j] (hok.get (List.getElem_mem hj))
  rw [hx] at wk
  have zr : (rlen (some x) > 0) = True := eq_true (by rcases x with ⟨a, c, _ | ⟨p, d⟩⟩ <;> (rw [rlen]; decide))
  have y5 : aFill [.int .i64 0, .int .i64 0, .str [], .int .u32 0, .nils, .nils] [] = some zero6 := rfl
  have ix : aIdxAddr 3 (rlinkAV (some x)) (.int .i64 0) = some (.fp (lnkC (linksU x))) := by rcases x with ⟨a, c, _ | ⟨p, d⟩⟩ <;> rfl
  have q2 : ldCells false 1 ((lnkC (linksU x)).drop 2) = some (.int .i64 x.2.1) := by rcases x with ⟨a, c, _ | ⟨p, d⟩⟩ <;> rfl
  have sx : aStore h1 6 (.ptr i4 0 0) (.agg zero6) = some ⟨.undef, h1.upd i4 0 zero6, .write⟩ := st6 a4
  have l6 : aLoad (h1.upd i4 0 zero6) true 6 (.ptr i4 0 0) = some ⟨.agg zero6, h1.upd i4 0 zero6, .read⟩ := ld6 at_upd
  simp only [a25_l10, a25_5, a25_6, a25_7, a25_8, wpc_draw, s3, reduceIte, Nat.reduceEqDiff, aBin, aInt, negIf, Option.some.injEq, exists_eq_left', Option.map_some, Option.bind_some, g1, g4, g8, nl, z0, lx, ld, wc_eq (wk _), len_rlink, zr, y5, ix, aFld_f, aLoad_fp, q2, Option.map_some, wc_eq (wo _), sx]
  exact ⟨[.agg zero6, slAV f (badL j x).length (lnkC (badL j x))], .tup [.agg zero6, slAV f (badL j x).length (lnkC (badL j x))], by simp only [a25, Env.results, Option.map_some, get_put, reduceIte, Nat.reduceEqDiff, g4, l6, Option.bind_some] <;> rfl, (frz_noRef (v := .tup [.agg zero6, slAV f (badL j x).length (lnkC (badL j x))]) (by simp only [AV.noRef, AV.noRefs, noRefs_zero6, noRef_lsl, Bool.and_self])).2 rfl, rfl⟩
variable (hall : ∀ t, t ∈ ts → isT t = true)
include hall
theorem rcall_fin {Q : AExit → St → Prop} (hQ : ∀ σ h i4, HeapOk h → h.at_ i4 0 = some zero6 → σ.get 0 = .str name → σ.get 1 = v → σ.get 4 = .ptr i4 0 0 →
      wpc env (.seq (.ops a25_11) (.seq (.seq (.ops a25_12) (.cond (.t 52) (.seq (.ops a25_13) .ret) .skip)) (.seq (.seq (.ops a25_14) (.cond (.t 59) (.seq (.ops a25_15) .ret) .skip)) (.seq (.ops a25_16) .ret)))) ⟨σ, h⟩ Q) :
    wpc env a25.body ⟨Slots.ofList 0 [.str name, v] .empty, .empty⟩ Q := by
  refine rcallh hok kv hlen hf (m := ts.length) (Nat.le_refl _) (fun i hi => hall _ (List.getElem_mem hi)) fun σ h i4 ho a4 g0 g1 g4 g8 => ?_
  refine wpr_round' fun b hb => ?_
  have nl := kv.len
  have z0 : ((ts.length : Int) < (ts.length : Int)) = False := eq_false (by omega)
  obtain ⟨R, eR⟩ : ∃ R, R = AC.seq (.ops a25_11) (.seq (.seq (.ops a25_12) (.cond (.t 52) (.seq (.ops a25_13) .ret) .skip)) (.seq (.seq (.ops a25_14) (.cond (.t 59) (.seq (.ops a25_15) .ret) .skip)) (.seq (.ops a25_16) .ret))) := ⟨_, rfl⟩
  rw [← eR] at hQ ⊢
  simp only [a25_l10, a25_5, wpc_draw, s3, reduceIte, Nat.reduceEqDiff, aBin, aInt, negIf, Option.some.injEq, exists_eq_left', Option.map_some, Option.bind_some, g1, g8, nl, z0]
  refine hQ _ h i4 ho a4 ?_ ?_ ?_
  · simp only [get_put, reduceIte, Nat.reduceEqDiff, g0]
  · simp only [get_put, reduceIte, Nat.reduceEqDiff, g1]
  · simp only [get_put, reduceIte, Nat.reduceEqDiff, g4]
theorem rcall_code {r : Tm} {cd : Int} (hcd : cd ≠ 0) (hc : ∀ h, WC env 44 [.str name, v] h (fun o => o = .ret ⟨.tup [.agg (tc r), .int .i64 cd], h, .none⟩)) (h : Heap) :
    WC env 25 [.str name, v] h (fun o => o = .ret ⟨.tup [.agg zero6, slAV (some true) 1 (lnkC [([98, 105, 102], 0, cd)])], h, .none⟩) := by
  refine call_pure rfl rfl rfl (by simp only [AV.noRefs, AV.noRef, kv.noRef, Bool.and_self]) (rcall_fin hok kv hlen hf hall fun σ h1 i4 ho1 a4 g0 g1 g4 => ?_)
  obtain ⟨h2, s2, ho2, hl2, a2⟩ := box_t ho1 r
  have sx : aStore h2 6 (.ptr i4 0 0) (.agg zero6) = some ⟨.undef, h2.upd i4 0 zero6, .write⟩ := st6 (hl2.2 _ _ _ a4)
  have l6 : aLoad (h2.upd i4 0 zero6) true 6 (.ptr i4 0 0) = some ⟨.agg zero6, h2.upd i4 0 zero6, .read⟩ := ld6 at_upd
  have y5 : aFill [.int .i64 0, .int .i64 0, .str [], .int .u32 0, .nils, .nils] [] = some zero6 := rfl
  have u1 : (cd != 0) = true := by simpa using hcd
  simp only [a25_11, a25_12, a25_13, wpc_draw, s3, reduceIte, Nat.reduceEqDiff, aBin, aInt, negIf, Option.some.injEq, exists_eq_left', Option.map_some, Option.bind_some, g0, g1, g4, wc_eq (hc _), aExtract, ex0, ex1, s2, u1, y5, wc_eq (no_spec _ _), sx]
  exact ⟨[.agg zero6, slAV (some true) 1 (lnkC [([98, 105, 102], 0, cd)])], .tup [.agg zero6, slAV (some true) 1 (lnkC [([98, 105, 102], 0, cd)])], by simp only [a25, Env.results, Option.map_some, get_put, reduceIte, Nat.reduceEqDiff, g4, l6, Option.bind_some] <;> rfl, (frz_noRef (v := .tup [.agg zero6, slAV (some true) 1 (lnkC [([98, 105, 102], 0, cd)])]) rfl).2 rfl, rfl⟩
theorem rcall_limit {r : Tm} (okr : r.Ok) (hr : isT r = false) (hc : ∀ h, WC env 44 [.str name, v] h (fun o => o = .ret ⟨.tup [.agg (tc r), .int .i64 0], h, .none⟩)) (h : Heap) :
    WC env 25 [.str name, v] h (fun o => o = .ret ⟨.tup [.agg zero6, slAV (some true) 1 (lnkC [([98, 105, 102], 0, 262)])], h, .none⟩) := by
  refine call_pure rfl rfl rfl (by simp only [AV.noRefs, AV.noRef, kv.noRef, Bool.and_self]) (rcall_fin hok kv hlen hf hall fun σ h1 i4 ho1 a4 g0 g1 g4 => ?_)
  obtain ⟨h2, s2, ho2, hl2, a2⟩ := box_t ho1 r
  have l2 := ld_t a2
  have sx : aStore h2 6 (.ptr i4 0 0) (.agg zero6) = some ⟨.undef, h2.upd i4 0 zero6, .write⟩ := st6 (hl2.2 _ _ _ a4)
  have l6 : aLoad (h2.upd i4 0 zero6) true 6 (.ptr i4 0 0) = some ⟨.agg zero6, h2.upd i4 0 zero6, .read⟩ := ld6 at_upd
  have y5 : aFill [.int .i64 0, .int .i64 0, .str [], .int .u32 0, .nils, .nils] [] = some zero6 := rfl
  have wk := rcheck_spec r okr
  have zr : (rlen (chkF r) > 0) = True := eq_true (rlen_bad hr)
  simp only [a25_11, a25_12, a25_14, a25_15, wpc_draw, s3, reduceIte, Nat.reduceEqDiff, aBin, aInt, negIf, Option.some.injEq, exists_eq_left', Option.map_some, Option.bind_some, g0, g1, g4, wc_eq (hc _), aExtract, ex0, ex1, s2, Int.reduceBNe, l2, wc_eq (wk _), len_rlink, zr, y5, wc_eq (no_spec _ _), sx]
  exact ⟨[.agg zero6, slAV (some true) 1 (lnkC [([98, 105, 102], 0, 262)])], .tup [.agg zero6, slAV (some true) 1 (lnkC [([98, 105, 102], 0, 262)])], by simp only [a25, Env.results, Option.map_some, get_put, reduceIte, Nat.reduceEqDiff, g4, l6, Option.bind_some] <;> rfl, (frz_noRef (v := .tup [.agg zero6, slAV (some true) 1 (lnkC [([98, 105, 102], 0, 262)])]) rfl).2 rfl, rfl⟩
end
end Go.Bf

set_option linter.unusedVariables false
set_option linter.unusedSimpArgs false
set_option maxRecDepth 20000
namespace Go.Bf
open Go.AM
def tupT (l : List Tm) (f : Option Bool) : Tm := .mk 5 0 [] 0 none [] f l
theorem walkFs_prefix : ∀ (l m : List Tm) (deep n d : Nat), (walkFs (l ++ m) deep n d).1 = none → (walkFs l deep n d).1 = none
  | [], m, _, _, _, _ => by rw [walkFs]
  | t :: l, m, deep, n, d, h => by
    rw [List.cons_append, walkFs] at h
    rw [walkFs]
    cases e : walkF t deep n d with
    | mk r nd =>
      obtain ⟨n', d'⟩ := nd
      rw [e] at h
      cases r with
      | some x => cases h
      | none => exact walkFs_prefix l m deep n' d' h
theorem isT_tup {l : List Tm} {f g : Option Bool} (h : isT (listT l nilT g) = true) : isT (tupT l f) = true := by
  have hf : formF (tupT l f) = none := by kernel_rfl
  rw [isT_iff, chkF, tupT, walkF, if_neg (by decide), if_neg (by decide)]
  rw [tupT] at hf
  rw [hf]
  by_cases hl : l = []
  · subst hl; rfl
  · have e7 : ¬ nilT.kind = 7 := by decide
    rw [listT, if_neg hl, if_neg e7, isT_iff, chkF, walkF, if_neg (by decide), if_neg (by decide)] at h
    cases ef : formF (.mk 7 0 [] 0 none [] g (l ++ [nilT])) with
    | some x => rw [ef] at h; cases h
    | none =>
      rw [ef] at h
      exact walkFs_prefix l [nilT] _ _ _ h
theorem ok_tup {l : List Tm} (h : Oks l) (f : Option Bool) (hn : l.length ≤ 1000000000) : (tupT l f).Ok := by
  rw [tupT, Tm.Ok]
  exact ⟨⟨by decide, by decide⟩, ⟨by decide, by decide⟩, ⟨by decide, by decide⟩, by simp, by decide, by decide, by omega, h⟩
theorem ok_intA {n : Int} (h1 : -9223372036854775808 ≤ n) (h2 : n < 9223372036854775808) : (intT n).Ok := by
  rw [intT, Tm.Ok, Oks]
  exact ⟨⟨by decide, by decide⟩, ⟨h1, by omega⟩, ⟨by decide, by decide⟩, by simp, by decide, by decide, by decide, trivial⟩
theorem oks_set {l : List Tm} (h : Oks l) {w : Tm} (hw : w.Ok) (i : Nat) : Oks (l.set i w) := oks_of fun x m => by
  rcases List.mem_or_eq_of_mem_set m with m | rfl
  · exact h.get m
  · exact hw
theorem er_tup {l m : List Tm} (h : ers l = ers m) (f g : Option Bool) : er (tupT l f) = er (tupT m g) := by
  rw [tupT, tupT, er, er, h]
theorem ers_get {l m : List Tm} (h : ers l = ers m) (i : Nat) (h1 : i < l.length) (h2 : i < m.length) : er l[i] = er m[i] := by
  rw [ers_map, ers_map] at h
  have e : (l.map er)[i]'(by simpa using h1) = (m.map er)[i]'(by simpa using h2) := by simp only [h]
  simpa using e
theorem ers_set {l m : List Tm} (h : ers l = ers m) (i : Nat) (w : Tm) : ers (l.set i w) = ers (m.set i w) := by
  rw [ers_map, ers_map, List.map_set, List.map_set, ← ers_map, ← ers_map, h]
theorem find_set : ∃ p q r s, findV [115, 101, 116, 101, 108, 101, 109, 101, 110, 116] 3 = .tup [.agg [p, q, r, s], .bool true] := ⟨_, _, _, _, rfl⟩
theorem find_l2t : ∃ p q r s, findV [108, 105, 115, 116, 95, 116, 111, 95, 116, 117, 112, 108, 101] 1 = .tup [.agg [p, q, r, s], .bool true] := ⟨_, _, _, _, rfl⟩
theorem find_t2l : ∃ p q r s, findV [116, 117, 112, 108, 101, 95, 116, 111, 95, 108, 105, 115, 116] 1 = .tup [.agg [p, q, r, s], .bool true] := ⟨_, _, _, _, rfl⟩
theorem find_elm : ∃ p q r s, findV [101, 108, 101, 109, 101, 110, 116] 2 = .tup [.agg [p, q, r, s], .bool true] := ⟨_, _, _, _, rfl⟩
theorem fill18t {a b c : Tm} : aFill [.int .i64 0, .int .i64 0, .str [], .int .u32 0, .nils, .nils, .int .i64 0, .int .i64 0, .str [], .int .u32 0, .nils, .nils, .int .i64 0, .int .i64 0, .str [], .int .u32 0, .nils, .nils] [(0, 6, .agg (tc a)), (6, 6, .agg (tc b)), (12, 6, .agg (tc c))] = some (tcs [a, b, c]) := by
  cases a; cases b; cases c; rfl
theorem len18t {a b c : Tm} : (tcs [a, b, c]).length = 3 * 6 := tcs_length _
def args3 (a b c : Tm) : AV := .fs true 3 (tcs [a, b, c])
theorem sl_three (a b c : Tm) : Sl (args3 a b c) [a, b, c] := .fs true [a, b, c]
theorem oks3 {a b c : Tm} (oka : a.Ok) (okb : b.Ok) (okc : c.Ok) : Oks [a, b, c] := ⟨oka, okb, okc, trivial⟩
theorem all3 {a b c : Tm} (ta : isT a = true) (tb : isT b = true) (td : isT c = true) : ∀ t, t ∈ [a, b, c] → isT t = true := by
  intro t m
  rcases List.mem_cons.1 m with rfl | m
  · exact ta
  · exact all2 tb td t m
def SetNo (v : AV) : Prop := ∃ L g, 0 < List.length L ∧ L.length ≤ 3 ∧ (∀ h, WC env 18 [.str [115, 101, 116, 101, 108, 101, 109, 101, 110, 116], v] h (fun o => o = .ret ⟨.tup [.agg zero6, errL L], h, .none⟩)) ∧ (∀ h, WC env 25 [.str [115, 101, 116, 101, 108, 101, 109, 101, 110, 116], v] h (fun o => o = .ret ⟨.tup [.agg zero6, slAV g L.length (lnkC L)], h, .none⟩))
def SetYes (n : Int) (t w : Tm) (v : AV) : Prop := ∃ (u : Tm) (k : Nat), u.Ok ∧ isT u = true ∧ n = (k : Int) + 1 ∧ k < t.args.length ∧ u.kind = 5 ∧ ers u.args = ers (t.args.set k w) ∧ isT w = true ∧ (∀ h, WC env 18 [.str [115, 101, 116, 101, 108, 101, 109, 101, 110, 116], v] h (fun o => o = .ret ⟨.tup [.agg (tc u), .nili], h, .none⟩))
theorem set_call {n : Int} (h1 : -9223372036854775808 ≤ n) (h2 : n < 9223372036854775808) {t w : Tm} (okt : t.Ok) (okw : w.Ok) (tt : isT t = true) : SetNo (args3 (intT n) t w) ∨ SetYes n t w (args3 (intT n) t w) := by
  have kv := sl_three (intT n) t w
  have okn := ok_intA h1 h2
  have hok := oks3 okn okt okw
  have hlen : [intT n, t, w].length < 1000000 := by simp
  obtain ⟨d1, d2, d3, d4, fp⟩ := find_set
  obtain ⟨hw, _⟩ := wf_any (isT_wf tt)
  cases en : chkF (intT n) with
  | some x =>
    left
    have hb := badL_len 0 x
    obtain ⟨g, wr⟩ := rcall_bad hok kv hlen fp (j := 0) (by simp) (fun i hi => absurd hi (by omega)) en
    exact ⟨badL 0 x, g, hb.2, hb.1, fun h => call_bad hok kv hlen (j := 0) (by simp) (fun i hi => absurd hi (by omega)) en fp h, wr⟩
  | none =>
  have tn : isT (intT n) = true := (isT_iff _).2 en
  cases ew : chkF w with
  | some x =>
    left
    have hb := badL_len 2 x
    have hall : ∀ i (hi : i < 2), isT ([intT n, t, w][i]'(by simp; omega)) = true := by
      intro i hi
      match i, hi with
      | 0, _ => exact tn
      | 1, _ => exact tt
    obtain ⟨g, wr⟩ := rcall_bad hok kv hlen fp (j := 2) (by simp) hall ew
    exact ⟨badL 2 x, g, hb.2, hb.1, fun h => call_bad hok kv hlen (j := 2) (by simp) hall ew fp h, wr⟩
  | none =>
  have tw : isT w = true := (isT_iff _).2 ew
  have hall := all3 tn tt tw
  cases ee : elemI (intT n) t with
  | none =>
    left
    exact ⟨[([98, 105, 102], 0, 261)], some true, by simp, by simp, fun h => call_code hok hall kv hlen fp (by decide) (c38_setelement kv.noRef (part_setelement_no kv (by omega) ee)) h,
      fun h => rcall_code hok kv hlen fp hall (by decide) (r44_set kv.noRef (r78_set kv (r117_no kv (by omega) ee))) h⟩
  | some i =>
  obtain ⟨_, k5, hi, hn⟩ := elemI_some ee
  have hn : n = (i : Int) + 1 := hn
  obtain ⟨f, w1⟩ := part_setelement kv (by omega) ee
  obtain ⟨g, w2⟩ := r117_set kv (by omega) ee
  have okr : ∀ f, (Tm.mk 5 0 [] 0 none [] f (t.args.set i w)).Ok := fun f => ok_tup (oks_set (ok_args okt) okw i) f (by rw [List.length_set]; omega)
  have same : er (Tm.mk 5 0 [] 0 none [] g (t.args.set i w)) = er (Tm.mk 5 0 [] 0 none [] f (t.args.set i w)) := er_tup rfl g f
  cases er : isT (Tm.mk 5 0 [] 0 none [] f (t.args.set i w)) with
  | false =>
    left
    exact ⟨[([98, 105, 102], 0, 262)], some true, by simp, by simp, fun h => call_limit hok hall kv hlen fp (okr f) er (c38_setelement kv.noRef w1) h,
      fun h => rcall_limit hok kv hlen fp hall (okr g) (by rw [isT_same same]; exact er) (r44_set kv.noRef (r78_set kv w2)) h⟩
  | true =>
    right
    obtain ⟨u, oku, eu, wu⟩ := call_fine hok hall kv hlen fp (okr f) er (c38_setelement kv.noRef w1)
    refine ⟨u, i, oku, by rw [isT_same eu]; exact er, hn, hi, by rw [← er_kind u, eu]; rfl, ?_, tw, wu⟩
    rw [← er_args, eu, er_args]; rfl
theorem elm_call {u : Tm} (oku : u.Ok) (tu : isT u = true) (k5 : u.kind = 5) {i : Nat} (hi : i < u.args.length) : ∃ x : Tm, x.Ok ∧ er x = er u.args[i] ∧ ∀ h, WC env 18 [.str [101, 108, 101, 109, 101, 110, 116], .fs true 2 (tc (intT ((i + 1 : Nat) : Int)) ++ tc u)] h (fun o => o = .ret ⟨.tup [.agg (tc x), .nili], h, .none⟩) := by
  obtain ⟨hw, _⟩ := wf_any (isT_wf tu)
  have sm : Small ((i + 1 : Nat) : Int) := ⟨by omega, by omega⟩
  have kv := sl_two (intT ((i + 1 : Nat) : Int)) u
  have ee : elemI (intT ((i + 1 : Nat) : Int)) u = some i := by
    have e1 : (intT ((i + 1 : Nat) : Int)).kind = 1 := rfl
    have e2 : (intT ((i + 1 : Nat) : Int)).int = ((i + 1 : Nat) : Int) := rfl
    rw [elemI, e1, e2, if_pos ⟨rfl, k5, by omega, by omega⟩]
    congr 1
    omega
  obtain ⟨d1, d2, d3, d4, fp⟩ := find_elm
  exact call_fine (oks2 (ok_int sm) oku) (all2 (isT_int sm) tu) kv (by simp) fp ((ok_args oku).get (List.getElem_mem hi)) (isT_args tu _ (List.getElem_mem hi)) (c38_element kv.noRef (part_element kv (by omega) ee hi))
theorem tup_loop {v : AV} {l : List Tm} (kv : Sl v l) (okl : Oks l) (hl : l.length ≤ 2000000) {n : Int} {k : Nat} (hn : n = (k : Int) + 1) {u w : Tm} (oku : u.Ok) (okw : w.Ok) (tu : isT u = true) (k5 : u.kind = 5) (lu : u.args.length = l.length)
    (hs : ∀ i (hi : i < l.length), er (u.args[i]'(by omega)) = er (if i = k then w else l[i])) {i5 i13 : Nat} {Q : AExit → St → Prop} :
    ∀ (f i : Nat) (σ : Slots) (h : Heap), l.length - i < f → i ≤ l.length → HeapOk h → h.at_ i5 0 = some (tc w) → h.at_ i13 0 = some (tc u) → σ.get 0 = v → σ.get 1 = .int .i64 n → σ.get 5 = .ptr i5 0 0 → σ.get 13 = .ptr i13 0 0 → σ.get 17 = .int .i64 i →
    (∀ σ' h', Q (.exit 0) ⟨σ', h'⟩) → WPr env a10_l23 ⟨σ, h⟩ Q := by
  intro f
  induction f with
  | zero => intro i σ h h1; omega
  | succ f ih =>
    intro i σ h hf hi ho a5 a13 g0 g1 g5 g13 g17 hQ
    refine wpr_round' fun b hb => ?_
    have nl := kv.len
    by_cases c1 : i < l.length
    · have z0 : ((i : Int) < (l.length : Int)) = True := eq_true (by omega)
      have zi : IntKind.wrap .i64 ((i : Int) + 1) = ((i + 1 : Nat) : Int) := wrap_nat (by omega) (by omega)
      obtain ⟨x, okx, ex, wx⟩ := elm_call oku tu k5 (i := i) (by omega)
      have lx := kv.idx c1
      have ld := fun h => ld_args c1 h
      have s13 := ld_t a13
      have a13n := (le_new ho [AV.int .i64 0, .int .i64 0, .str [], .int .u32 0, .nils, .nils]).2 _ _ _ a13
      obtain ⟨h2, s2, ho2, le2, a2⟩ := box_t ho x
      have l2 := ld_t a2
      have a13b := le2.2 _ _ _ a13
      obtain ⟨h4, s4, ho4, le4, a4⟩ := box_t ho2 l[i]
      have l4 := ld_t a4
      have a2' := le4.2 _ _ _ a2
      have l2' := ld_t a2'
      have a5' := le4.2 _ _ _ (le2.2 _ _ _ a5)
      have l5' := ld_t a5'
      have okl' := okl.get (List.getElem_mem c1)
      have n24 := ho2.lt a2
      simp only [a10_l23, a10_15, s3, reduceIte, Nat.reduceEqDiff, aBin, aInt, negIf, Option.some.injEq, exists_eq_left', Option.map_some, Option.bind_some, g0, g17, nl, z0]
      apply drawTo_seq
      · simp only [a10_16, s3, reduceIte, Nat.reduceEqDiff, aBin, aInt, negIf, Option.some.injEq, exists_eq_left', Option.map_some, Option.bind_some, wpl_nil', wpl_none, wpl_some, gval_bool, logK_c, logQ_apply, guardL_tt, guardL_ff, guardL_tf, guardL_ft, drawQ_apply, endQ_apply, g13, g17, zi, wc_eq (rint_spec' _ _), s13, fill12t, len12t, Nat.reduceMul, if_true, wc_eq (wx _), aExt0, aExt1, s2]
        refine ⟨draw_of_cls3 [3] rfl ⟨?_, trivial⟩, rfl⟩
        refine steady_load (.ptr i13 0 0) (.agg (tc u)) ?_ ?_
        · simp only [opd_t, get_put, reduceIte, Nat.reduceEqDiff, g13]
        · simp only [allLd_cons, allLd_nil, List.map_cons, List.map_nil, s13, ld_t a13n, ld_t a13b, and_self]
      have hsi := hs i c1
      by_cases c3 : i = k
      · have zn : (((i + 1 : Nat) : Int) == n) = true := by rw [hn, c3]; simp
        rw [if_pos c3] at hsi
        have s5 := st_t (t := w) a4
        have la : aLoad (h4.upd h2.next 0 (tc w)) true 6 (.ptr h2.next 0 0) = some ⟨.agg (tc w), h4.upd h2.next 0 (tc w), .read⟩ := ld_t at_upd
        have lb : aLoad (h4.upd h2.next 0 (tc w)) true 6 (.ptr h.next 0 0) = some ⟨.agg (tc x), h4.upd h2.next 0 (tc w), .read⟩ := ld_t (by rw [at_upd_ne (by omega)]; exact a2')
        have ws := same_spec x okx w okw
        rw [show sameF x w = true from same_of (ex.trans hsi)] at ws
        simp only [a10_17, a10_18, a10_19, a10_20, a10_22, wpc_draw, s3, reduceIte, Nat.reduceEqDiff, aBin, aInt, negIf, Option.some.injEq, exists_eq_left', Option.map_some, Option.bind_some, g0, g1, g5, g17, lx, ld, s4, zi, zn, l5', s5, eq_nil, Bool.not_true, la, lb, wc_eq (ws _), aUn, aPk_t, aPk_f, Bool.not_true]
        subst hb
        have lt5 := ho.lt a5
        have lt13 := ho.lt a13
        have n2 := le2.1
        refine ih (i + 1) _ _ (by omega) (by omega) (ho4.upd (at_look.1 a4) _ _) ?_ ?_ ?_ ?_ ?_ ?_ ?_ hQ
        · rw [at_upd_ne (by omega)]; exact a5'
        · rw [at_upd_ne (by omega)]; exact le4.2 _ _ _ a13b
        · simp only [get_put, reduceIte, Nat.reduceEqDiff, g0]
        · simp only [get_put, reduceIte, Nat.reduceEqDiff, g1]
        · simp only [get_put, reduceIte, Nat.reduceEqDiff, g5]
        · simp only [get_put, reduceIte, Nat.reduceEqDiff, g13]
        · simp only [get_put, reduceIte, Nat.reduceEqDiff]
      · have zn : (((i + 1 : Nat) : Int) == n) = false := by rw [beq_eq_false_iff_ne]; omega
        rw [if_neg c3] at hsi
        have ws := same_spec x okx l[i] okl'
        rw [show sameF x l[i] = true from same_of (ex.trans hsi)] at ws
        simp only [a10_17, a10_18, a10_20, a10_22, wpc_draw, s3, reduceIte, Nat.reduceEqDiff, aBin, aInt, negIf, Option.some.injEq, exists_eq_left', Option.map_some, Option.bind_some, g0, g1, g17, lx, ld, s4, zi, zn, eq_nil, Bool.not_true, l4, l2', wc_eq (ws _), aUn, aPk_t, aPk_f, Bool.not_true]
        subst hb
        refine ih (i + 1) _ _ (by omega) (by omega) ho4 a5' (le4.2 _ _ _ a13b) ?_ ?_ ?_ ?_ ?_ hQ
        · simp only [get_put, reduceIte, Nat.reduceEqDiff, g0]
        · simp only [get_put, reduceIte, Nat.reduceEqDiff, g1]
        · simp only [get_put, reduceIte, Nat.reduceEqDiff, g5]
        · simp only [get_put, reduceIte, Nat.reduceEqDiff, g13]
        · simp only [get_put, reduceIte, Nat.reduceEqDiff]
    · have z0 : ((i : Int) < (l.length : Int)) = False := eq_false (by omega)
      simp only [a10_l23, a10_15, wpc_draw, s3, reduceIte, Nat.reduceEqDiff, aBin, aInt, negIf, Option.some.injEq, exists_eq_left', Option.map_some, Option.bind_some, g0, g17, nl, z0]
      exact hQ _ _
theorem tup_rest {v : AV} {l : List Tm} (kv : Sl v l) (okl : Oks l) (hl : l.length ≤ 2000000) {n : Int} (h1 : -9223372036854775808 ≤ n) (h2' : n < 9223372036854775808) {t w : Tm} (okt : t.Ok) (okw : w.Ok) (tt : isT t = true) (k5 : t.kind = 5) (et : ers t.args = ers l)
    {σ : Slots} {h : Heap} (ho : HeapOk h) {i5 i9 : Nat} (a5 : h.at_ i5 0 = some (tc w)) (a9 : h.at_ i9 0 = some (tc t)) (g0 : σ.get 0 = v) (g1 : σ.get 1 = .int .i64 n) (g5 : σ.get 5 = .ptr i5 0 0) (g9 : σ.get 9 = .ptr i9 0 0) :
    wpc env (.seq (.draw a10_10 a10_10b) (.seq (.seq (.ops a10_11) (.cond (.t 61) (.seq (.draw a10_12 a10_12b) (.seq (.ops a10_13) .ret)) .skip)) (.seq (.seq (.ops a10_14) (.block 0 (.loop a10_l23))) (.seq (.ops a10_24) .ret)))) ⟨σ, h⟩ (retQ env a10.results (fun o => ∃ h', o = .ret ⟨.bool true, h', .write⟩)) := by
  have lt : t.args.length = l.length := by rw [← ers_length, et, ers_length]
  have l5 := ld_t a5
  have l9 := ld_t a9
  rcases set_call h1 h2' okt okw tt with ⟨L, g, hL0, hL3, wa, wb⟩ | ⟨u, k, oku, tu, hn, hk, ku, eu, tw, wa⟩
  · have wa : ∀ h, WC env 18 [.str [115, 101, 116, 101, 108, 101, 109, 101, 110, 116], .fs true 3 (tcs [intT n, t, w])] h (fun o => o = .ret ⟨.tup [.agg (tc zeroT), errL L], h, .none⟩) := wa
    have wb : ∀ h, WC env 25 [.str [115, 101, 116, 101, 108, 101, 109, 101, 110, 116], .fs true 3 (tcs [intT n, t, w])] h (fun o => o = .ret ⟨.tup [.agg (tc zeroT), slAV g L.length (lnkC L)], h, .none⟩) := wb
    obtain ⟨h2, s2, ho2, le2, a2⟩ := box_t ho zeroT
    have a5n := (le_new ho [AV.int .i64 0, .int .i64 0, .str [], .int .u32 0, .nils, .nils]).2 _ _ _ a5
    have a9n := (le_new ho [AV.int .i64 0, .int .i64 0, .str [], .int .u32 0, .nils, .nils]).2 _ _ _ a9
    have a5b := le2.2 _ _ _ a5
    have a9b := le2.2 _ _ _ a9
    obtain ⟨h4, s4, ho4, le4, a4⟩ := box_t ho2 zeroT
    have a5c := (le_new ho2 [AV.int .i64 0, .int .i64 0, .str [], .int .u32 0, .nils, .nils]).2 _ _ _ a5b
    have a9c := (le_new ho2 [AV.int .i64 0, .int .i64 0, .str [], .int .u32 0, .nils, .nils]).2 _ _ _ a9b
    have a5d := le4.2 _ _ _ a5b
    have a9d := le4.2 _ _ _ a9b
    have eL : aEq (.iface true) (errL L) .nili = some false := by
      rw [eq_errL]
      cases L with
      | nil => simp at hL0
      | cons x L => rfl
    have wf := refused_chain hL0 hL3 g
    apply drawTo_seq
    · simp only [a10_10, s3, reduceIte, Nat.reduceEqDiff, aBin, aInt, negIf, Option.some.injEq, exists_eq_left', Option.map_some, Option.bind_some, wpl_nil', wpl_none, wpl_some, gval_bool, logK_c, logQ_apply, guardL_tt, guardL_ff, guardL_tf, guardL_ft, drawQ_apply, endQ_apply, g1, g5, g9, wc_eq (rint_spec' _ _), l5, l9, fill18t, len18t, Nat.reduceMul, if_true, wc_eq (wa _), aExt0, aExt1, s2]
      refine ⟨draw_of_cls3 [2, 3] rfl ⟨?_, ?_, trivial⟩, rfl⟩
      · refine steady_load (.ptr i9 0 0) (.agg (tc t)) ?_ ?_
        · simp only [opd_t, get_put, reduceIte, Nat.reduceEqDiff, g9]
        · simp only [allLd_cons, allLd_nil, List.map_cons, List.map_nil, l9, ld_t a9n, ld_t a9b, and_self]
      · refine steady_load (.ptr i5 0 0) (.agg (tc w)) ?_ ?_
        · simp only [opd_t, get_put, reduceIte, Nat.reduceEqDiff, g5]
        · simp only [allLd_cons, allLd_nil, List.map_cons, List.map_nil, l5, ld_t a5n, ld_t a5b, and_self]
    simp only [a10_11, s3, reduceIte, Nat.reduceEqDiff, aBin, aInt, negIf, Option.some.injEq, exists_eq_left', Option.map_some, Option.bind_some, eL, Bool.not_false]
    apply draw_to
    · simp only [a10_12, s3, reduceIte, Nat.reduceEqDiff, aBin, aInt, negIf, Option.some.injEq, exists_eq_left', Option.map_some, Option.bind_some, wpl_nil', wpl_none, wpl_some, gval_bool, logK_c, logQ_apply, guardL_tt, guardL_ff, guardL_tf, guardL_ft, drawQ_apply, endQ_apply, g1, g5, g9, wc_eq (rint_spec' _ _), ld_t a5b, ld_t a9b, fill18t, len18t, Nat.reduceMul, if_true, wc_eq (wb _), aExt0, aExt1, s4]
      refine ⟨draw_of_cls3 [2, 3] rfl ⟨?_, ?_, trivial⟩, rfl⟩
      · refine steady_load (.ptr i9 0 0) (.agg (tc t)) ?_ ?_
        · simp only [opd_t, get_put, reduceIte, Nat.reduceEqDiff, g9]
        · simp only [allLd_cons, allLd_nil, List.map_cons, List.map_nil, ld_t a9b, ld_t a9c, ld_t a9d, and_self]
      · refine steady_load (.ptr i5 0 0) (.agg (tc w)) ?_ ?_
        · simp only [opd_t, get_put, reduceIte, Nat.reduceEqDiff, g5]
        · simp only [allLd_cons, allLd_nil, List.map_cons, List.map_nil, ld_t a5b, ld_t a5c, ld_t a5d, and_self]
    simp only [a10_13, s3, reduceIte, Nat.reduceEqDiff, aBin, aInt, negIf, Option.some.injEq, exists_eq_left', Option.map_some, Option.bind_some, wc_eq (wf _), wc_eq (alive_spec _), aPk_t]
    exact ⟨[.bool true], by simp only [a10, Env.results, Option.map_some, get_put, reduceIte, Nat.reduceEqDiff], _, rfl⟩
  · have wa : ∀ h, WC env 18 [.str [115, 101, 116, 101, 108, 101, 109, 101, 110, 116], .fs true 3 (tcs [intT n, t, w])] h (fun o => o = .ret ⟨.tup [.agg (tc u), .nili], h, .none⟩) := wa
    obtain ⟨h2, s2, ho2, le2, a2⟩ := box_t ho u
    have a5n := (le_new ho [AV.int .i64 0, .int .i64 0, .str [], .int .u32 0, .nils, .nils]).2 _ _ _ a5
    have a9n := (le_new ho [AV.int .i64 0, .int .i64 0, .str [], .int .u32 0, .nils, .nils]).2 _ _ _ a9
    have a5b := le2.2 _ _ _ a5
    have a9b := le2.2 _ _ _ a9
    have lu : u.args.length = l.length := by rw [← ers_length, eu, ers_length, List.length_set, lt]
    have hs : ∀ i (hi : i < l.length), er (u.args[i]'(by omega)) = er (if i = k then w else l[i]) := by
      intro i hi
      rw [ers_get (eu.trans (ers_set et k w)) i (by omega) (by rw [List.length_set]; exact hi), List.getElem_set]
      by_cases c : k = i
      · rw [if_pos c, if_pos c.symm]
      · rw [if_neg c, if_neg (fun e => c e.symm)]
    apply drawTo_seq
    · simp only [a10_10, s3, reduceIte, Nat.reduceEqDiff, aBin, aInt, negIf, Option.some.injEq, exists_eq_left', Option.map_some, Option.bind_some, wpl_nil', wpl_none, wpl_some, gval_bool, logK_c, logQ_apply, guardL_tt, guardL_ff, guardL_tf, guardL_ft, drawQ_apply, endQ_apply, g1, g5, g9, wc_eq (rint_spec' _ _), l5, l9, fill18t, len18t, Nat.reduceMul, if_true, wc_eq (wa _), aExt0, aExt1, s2]
      refine ⟨draw_of_cls3 [2, 3] rfl ⟨?_, ?_, trivial⟩, rfl⟩
      · refine steady_load (.ptr i9 0 0) (.agg (tc t)) ?_ ?_
        · simp only [opd_t, get_put, reduceIte, Nat.reduceEqDiff, g9]
        · simp only [allLd_cons, allLd_nil, List.map_cons, List.map_nil, l9, ld_t a9n, ld_t a9b, and_self]
      · refine steady_load (.ptr i5 0 0) (.agg (tc w)) ?_ ?_
        · simp only [opd_t, get_put, reduceIte, Nat.reduceEqDiff, g5]
        · simp only [allLd_cons, allLd_nil, List.map_cons, List.map_nil, l5, ld_t a5n, ld_t a5b, and_self]
    simp only [a10_11, a10_14, s3, reduceIte, Nat.reduceEqDiff, aBin, aInt, negIf, Option.some.injEq, exists_eq_left', Option.map_some, Option.bind_some, eq_nil, Bool.not_true]
    refine tup_loop kv okl hl hn oku okw tu ku lu hs (i5 := i5) (i13 := h.next) (l.length + 1) 0 _ h2 (by omega) (by omega) ho2 a5b a2 ?_ ?_ ?_ ?_ ?_ fun σ' h' => ?_
    · simp only [get_put, reduceIte, Nat.reduceEqDiff, g0]
    · simp only [get_put, reduceIte, Nat.reduceEqDiff, g1]
    · simp only [get_put, reduceIte, Nat.reduceEqDiff, g5]
    · simp only [get_put, reduceIte, Nat.reduceEqDiff]
    · simp only [get_put, reduceIte, Nat.reduceEqDiff]; rfl
    simp only [a10_24, wpc_draw, s3, reduceIte, Nat.reduceEqDiff, aBin, aInt, negIf, Option.some.injEq, exists_eq_left', Option.map_some, Option.bind_some, wc_eq (alive_spec _)]
    exact ⟨[.bool true], by simp only [a10, Env.results, Option.map_some, get_put, reduceIte, Nat.reduceEqDiff], _, rfl⟩
theorem tuples_row {v : AV} {l : List Tm} (kv : Sl v l) (okl : Oks l) (hl : l.length ≤ 2000000) {n : Int} (h1 : -9223372036854775808 ≤ n) (h2' : n < 9223372036854775808) {w : Tm} (okw : w.Ok) : WC env 10 [v, .int .i64 n, .agg (tc w)] .empty (fun o => ∃ h', o = .ret ⟨.bool true, h', .write⟩) := by
  obtain ⟨f1, p1⟩ := proper_spec kv okl (by omega)
  have oka : (listT l nilT f1).Ok := ok_listT okl ok_nilT f1 (by omega) (by show (0 : Nat) ≤ _; omega)
  have ea := elems_list l f1
  have itp := fun f => isT_tup (l := l) (f := f) (g := f1)
  have lb : ∀ (l2 : List Tm) g, ers l2 = ers l → er (listT l2 nilT g) = er (listT l nilT f1) := fun l2 g h => er_listT h g f1
  generalize ha : listT l nilT f1 = a at *
  refine call_body rfl rfl (.inl rfl) ?_
  have eb : a10.body = (.seq (.ops a10_0) (.seq (.ops a10_1) (.seq (.seq (.ops a10_2) (.cond (.t 27) (.seq (.ops a10_3) .ret) .skip)) (.seq (.ops a10_4) (.seq (.seq (.ops a10_5) (.cond (.t 36) (.seq (.ops a10_6) .ret) .skip)) (.seq (.ops a10_7) (.seq (.seq (.ops a10_8) (.cond (.t 50) (.seq (.ops a10_9) .ret) .skip)) (.seq (.draw a10_10 a10_10b) (.seq (.seq (.ops a10_11) (.cond (.t 61) (.seq (.draw a10_12 a10_12b) (.seq (.ops a10_13) .ret)) .skip)) (.seq (.seq (.ops a10_14) (.block 0 (.loop a10_l23))) (.seq (.ops a10_24) .ret))))))))))) := rfl
  cases ta : isT a with
  | false =>
    rw [ta] at p1
    simp only [a10, a10_0, a10_1, a10_2, a10_3, Slots.ofList, wpc_draw, s3, reduceIte, Nat.reduceEqDiff, aBin, aInt, negIf, Option.some.injEq, exists_eq_left', Option.map_some, Option.bind_some, h3, List.length_cons, List.length_nil, List.drop_zero, List.drop_succ_cons, Nat.reduceAdd, Nat.le_refl, and_self, true_and, if_true, Bool.and_self, Nat.reduceLeDiff, _root_.eq_self, and_true, exists_eq', t3, wc_eq (p1 _), Bool.not_false, wc_eq (alive_spec _), reduceIte, Nat.reduceEqDiff]
    exact ⟨_, rfl⟩
  | true =>
  rw [ta] at p1
  have wfa := isT_wf ta
  have hl1 := (elems_len wfa ea).1
  -- the tuple
  obtain ⟨f2, q1⟩ := part_l2t (sl_one a) wfa ea
  obtain ⟨d1, d2, d3, d4, fp⟩ := find_l2t
  obtain ⟨t, okt, ett, wt⟩ := call_fine (ts := [a]) ⟨oka, trivial⟩ (all1 ta) (sl_one a) (by simp) fp (ok_tup okl f2 (by omega)) (itp f2 ta) (c38_l2t (v := .fs true 1 (tc a)) (sl_one a).noRef q1)
  have tt : isT t = true := by rw [isT_same ett]; exact itp f2 ta
  have k5 : t.kind = 5 := by rw [← er_kind t, ett]; rfl
  have et : ers t.args = ers l := by rw [← er_args, ett, er_args]; rfl
  have lt : t.args.length = l.length := by rw [← ers_length, et, ers_length]
  -- and back
  obtain ⟨f3, q2⟩ := part_t2l (sl_one t) k5 (by omega)
  have eb2 := lb _ f3 et
  have okr : (listT t.args nilT f3).Ok := ok_listT (ok_args okt) ok_nilT f3 (by omega) (by show (0 : Nat) ≤ _; omega)
  have tr : isT (listT t.args nilT f3) = true := by rw [isT_same eb2]; exact ta
  obtain ⟨d5, d6, d7, d8, fp2⟩ := find_t2l
  obtain ⟨b, okb, ebb, wb⟩ := call_fine (ts := [t]) ⟨okt, trivial⟩ (all1 tt) (sl_one t) (by simp) fp2 okr tr (c38_t2l (v := .fs true 1 (tc t)) (sl_one t).noRef q2)
  have ws := same_spec a oka b okb
  rw [show sameF a b = true from same_of (ebb.trans eb2).symm] at ws
  rw [eb]
  obtain ⟨R, eR⟩ : ∃ R, R = AC.seq (.draw a10_10 a10_10b) (.seq (.seq (.ops a10_11) (.cond (.t 61) (.seq (.draw a10_12 a10_12b) (.seq (.ops a10_13) .ret)) .skip)) (.seq (.seq (.ops a10_14) (.block 0 (.loop a10_l23))) (.seq (.ops a10_24) .ret))) := ⟨_, rfl⟩
  rw [← eR]
  have hz : HeapOk ((((((((Heap.empty.new (tc w)).new [.int .i64 0, .int .i64 0, .str [], .int .u32 0, .nils, .nils]).upd 1 0 (tc a)).new [.int .i64 0, .int .i64 0, .str [], .int .u32 0, .nils, .nils]).upd 2 0 (tc t)).new [.int .i64 0, .int .i64 0, .str [], .int .u32 0, .nils, .nils]).upd 3 0 (tc b))) :=
    (((((((HeapOk.empty.new _).new _).upd (at_look.1 (at_new _)) _ _).new _).upd (at_look.1 (at_new _)) _ _).new _).upd (at_look.1 (at_new _)) _ _)
  simp only [a10_0, a10_1, a10_2, a10_4, a10_5, a10_7, a10_8, Slots.ofList, wpc_draw, s3, reduceIte, Nat.reduceEqDiff, aBin, aInt, negIf, Option.some.injEq, exists_eq_left', Option.map_some, Option.bind_some, h3, List.length_cons, List.length_nil, List.drop_zero, List.drop_succ_cons, Nat.reduceAdd, Nat.le_refl, and_self, true_and, if_true, Bool.and_self, Nat.reduceLeDiff, _root_.eq_self, and_true, exists_eq', t3, wc_eq (p1 _), Bool.not_true, wc_eq (wt _), wc_eq (wb _), eq_nil, wc_eq (ws _), reduceIte, Nat.reduceEqDiff]
  rw [eR]
  refine tup_rest kv okl hl h1 h2' okt okw tt k5 et hz (i5 := 0) (i9 := 2) ?_ ?_ ?_ ?_ ?_ ?_
  · simp only [h3, List.length_cons, List.length_nil, List.drop_zero, List.drop_succ_cons, Nat.reduceAdd, Nat.le_refl, and_self, true_and, if_true, Bool.and_self, Nat.reduceLeDiff, _root_.eq_self, and_true, exists_eq', reduceIte, Nat.reduceEqDiff]
  · simp only [h3, List.length_cons, List.length_nil, List.drop_zero, List.drop_succ_cons, Nat.reduceAdd, Nat.le_refl, and_self, true_and, if_true, Bool.and_self, Nat.reduceLeDiff, _root_.eq_self, and_true, exists_eq', reduceIte, Nat.reduceEqDiff]
  · simp only [get_put, reduceIte, Nat.reduceEqDiff]
  · simp only [get_put, reduceIte, Nat.reduceEqDiff]
  · simp only [get_put, reduceIte, Nat.reduceEqDiff]
  · simp only [get_put, reduceIte, Nat.reduceEqDiff]
end Go.Bf
