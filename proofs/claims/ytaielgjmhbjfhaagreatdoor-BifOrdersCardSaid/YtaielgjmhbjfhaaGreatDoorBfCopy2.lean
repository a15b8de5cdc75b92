/-
  Copy: the same term in memory of its own.
-/
import Derived.Test.YtaielgjmhbjfhaaGreatDoorBfRPart
import Derived.Test.YtaielgjmhbjfhaaGreatDoorAmD
set_option linter.unusedVariables false
set_option linter.unusedSimpArgs false
set_option maxRecDepth 20000
namespace Go.Bf
open Go.AM
def cmpI (a b : Int) : Int := if a < b then -1 else if a > b then 1 else 0
def cmpS (a b : List UInt8) : Int := if Op.bytesLess a b then -1 else if a == b then 0 else 1
theorem finI {s : St} {n : Nat} {x : Int} {h : Heap} {Q : COut → Prop} (hg : s.σ.get n = .int .i64 x) (hq : Q (.ret ⟨.int .i64 x, h, .none⟩)) : pureQ env [.tmp n] h Q .ret s := fin1 hg rfl rfl hq
theorem finB {s : St} {n : Nat} {x : Bool} {h : Heap} {Q : COut → Prop} (hg : s.σ.get n = .bool x) (hq : Q (.ret ⟨.bool x, h, .none⟩)) : pureQ env [.tmp n] h Q .ret s := fin1 hg rfl rfl hq
theorem nan123 (a : Int) (h : Heap) : WC env 123 [.int .i64 a] h (fun o => o = .ret ⟨.bool false, h, .none⟩) := by
  refine call_pure rfl rfl rfl rfl ?_
  have z : (a != a) = false := by simp
  simp only [a123, a123_0, a123_1, Slots.ofList, wpc_draw, s3, reduceIte, Nat.reduceEqDiff, aBin, aInt, negIf, Option.some.injEq, exists_eq_left', Option.map_some, Option.bind_some, z]
  exact finB (by simp only [get_put, reduceIte, Nat.reduceEqDiff]) rfl
theorem cmp88 (a b : Int) (h : Heap) : WC env 88 [.int .i64 a, .int .i64 b] h (fun o => o = .ret ⟨.int .i64 (cmpI a b), h, .none⟩) := by
  refine call_pure rfl rfl rfl rfl ?_
  by_cases c1 : a < b
  · have z1 : (a < b) = True := eq_true c1
    have e : cmpI a b = -1 := if_pos c1
    simp only [a88, a88_0, a88_1, a88_2, a88_3, a88_7, a88_9, a88_10, Slots.ofList, wpc_draw, s3, reduceIte, Nat.reduceEqDiff, aBin, aInt, negIf, Option.some.injEq, exists_eq_left', Option.map_some, Option.bind_some, z1, wc_eq (nan123 _ _)]
    exact finI (by simp only [get_put, reduceIte, Nat.reduceEqDiff]; rw [e]) rfl
  have z1 : (a < b) = False := eq_false c1
  by_cases c2 : a > b
  · have z2 : (a > b) = True := eq_true c2
    have e : cmpI a b = 1 := by rw [cmpI, if_neg c1, if_pos c2]
    simp only [a88, a88_0, a88_1, a88_2, a88_3, a88_7, a88_9, a88_11, a88_12, Slots.ofList, wpc_draw, s3, reduceIte, Nat.reduceEqDiff, aBin, aInt, negIf, Option.some.injEq, exists_eq_left', Option.map_some, Option.bind_some, z1, z2, wc_eq (nan123 _ _)]
    exact finI (by simp only [get_put, reduceIte, Nat.reduceEqDiff]; rw [e]) rfl
  have z2 : (a > b) = False := eq_false c2
  have e : cmpI a b = 0 := by rw [cmpI, if_neg c1, if_neg c2]
  simp only [a88, a88_0, a88_1, a88_2, a88_3, a88_7, a88_9, a88_11, a88_13, Slots.ofList, wpc_draw, s3, reduceIte, Nat.reduceEqDiff, aBin, aInt, negIf, Option.some.injEq, exists_eq_left', Option.map_some, Option.bind_some, z1, z2, wc_eq (nan123 _ _)]
  exact finI (by simp only [get_put, reduceIte, Nat.reduceEqDiff]; rw [e]) rfl
theorem nan124 (a : Int) (h : Heap) : WC env 124 [.int .i64 a] h (fun o => o = .ret ⟨.bool false, h, .none⟩) := by
  refine call_pure rfl rfl rfl rfl ?_
  have z : (a != a) = false := by simp
  simp only [a124, a124_0, a124_1, Slots.ofList, wpc_draw, s3, reduceIte, Nat.reduceEqDiff, aBin, aInt, negIf, Option.some.injEq, exists_eq_left', Option.map_some, Option.bind_some, z]
  exact finB (by simp only [get_put, reduceIte, Nat.reduceEqDiff]) rfl
theorem cmp89 (a b : Int) (h : Heap) : WC env 89 [.int .i64 a, .int .i64 b] h (fun o => o = .ret ⟨.int .i64 (cmpI a b), h, .none⟩) := by
  refine call_pure rfl rfl rfl rfl ?_
  by_cases c1 : a < b
  · have z1 : (a < b) = True := eq_true c1
    have e : cmpI a b = -1 := if_pos c1
    simp only [a89, a89_0, a89_1, a89_2, a89_3, a89_7, a89_9, a89_10, Slots.ofList, wpc_draw, s3, reduceIte, Nat.reduceEqDiff, aBin, aInt, negIf, Option.some.injEq, exists_eq_left', Option.map_some, Option.bind_some, z1, wc_eq (nan124 _ _)]
    exact finI (by simp only [get_put, reduceIte, Nat.reduceEqDiff]; rw [e]) rfl
  have z1 : (a < b) = False := eq_false c1
  by_cases c2 : a > b
  · have z2 : (a > b) = True := eq_true c2
    have e : cmpI a b = 1 := by rw [cmpI, if_neg c1, if_pos c2]
    simp only [a89, a89_0, a89_1, a89_2, a89_3, a89_7, a89_9, a89_11, a89_12, Slots.ofList, wpc_draw, s3, reduceIte, Nat.reduceEqDiff, aBin, aInt, negIf, Option.some.injEq, exists_eq_left', Option.map_some, Option.bind_some, z1, z2, wc_eq (nan124 _ _)]
    exact finI (by simp only [get_put, reduceIte, Nat.reduceEqDiff]; rw [e]) rfl
  have z2 : (a > b) = False := eq_false c2
  have e : cmpI a b = 0 := by rw [cmpI, if_neg c1, if_neg c2]
  simp only [a89, a89_0, a89_1, a89_2, a89_3, a89_7, a89_9, a89_11, a89_13, Slots.ofList, wpc_draw, s3, reduceIte, Nat.reduceEqDiff, aBin, aInt, negIf, Option.some.injEq, exists_eq_left', Option.map_some, Option.bind_some, z1, z2, wc_eq (nan124 _ _)]
  exact finI (by simp only [get_put, reduceIte, Nat.reduceEqDiff]; rw [e]) rfl
theorem nan126 (a : Int) (h : Heap) : WC env 126 [.int .u32 a] h (fun o => o = .ret ⟨.bool false, h, .none⟩) := by
  refine call_pure rfl rfl rfl rfl ?_
  have z : (a != a) = false := by simp
  simp only [a126, a126_0, a126_1, Slots.ofList, wpc_draw, s3, reduceIte, Nat.reduceEqDiff, aBin, aInt, negIf, Option.some.injEq, exists_eq_left', Option.map_some, Option.bind_some, z]
  exact finB (by simp only [get_put, reduceIte, Nat.reduceEqDiff]) rfl
theorem cmp92 (a b : Int) (h : Heap) : WC env 92 [.int .u32 a, .int .u32 b] h (fun o => o = .ret ⟨.int .i64 (cmpI a b), h, .none⟩) := by
  refine call_pure rfl rfl rfl rfl ?_
  by_cases c1 : a < b
  · have z1 : (a < b) = True := eq_true c1
    have e : cmpI a b = -1 := if_pos c1
    simp only [a92, a92_0, a92_1, a92_2, a92_3, a92_7, a92_9, a92_10, Slots.ofList, wpc_draw, s3, reduceIte, Nat.reduceEqDiff, aBin, aInt, negIf, Option.some.injEq, exists_eq_left', Option.map_some, Option.bind_some, z1, wc_eq (nan126 _ _)]
    exact finI (by simp only [get_put, reduceIte, Nat.reduceEqDiff]; rw [e]) rfl
  have z1 : (a < b) = False := eq_false c1
  by_cases c2 : a > b
  · have z2 : (a > b) = True := eq_true c2
    have e : cmpI a b = 1 := by rw [cmpI, if_neg c1, if_pos c2]
    simp only [a92, a92_0, a92_1, a92_2, a92_3, a92_7, a92_9, a92_11, a92_12, Slots.ofList, wpc_draw, s3, reduceIte, Nat.reduceEqDiff, aBin, aInt, negIf, Option.some.injEq, exists_eq_left', Option.map_some, Option.bind_some, z1, z2, wc_eq (nan126 _ _)]
    exact finI (by simp only [get_put, reduceIte, Nat.reduceEqDiff]; rw [e]) rfl
  have z2 : (a > b) = False := eq_false c2
  have e : cmpI a b = 0 := by rw [cmpI, if_neg c1, if_neg c2]
  simp only [a92, a92_0, a92_1, a92_2, a92_3, a92_7, a92_9, a92_11, a92_13, Slots.ofList, wpc_draw, s3, reduceIte, Nat.reduceEqDiff, aBin, aInt, negIf, Option.some.injEq, exists_eq_left', Option.map_some, Option.bind_some, z1, z2, wc_eq (nan126 _ _)]
  exact finI (by simp only [get_put, reduceIte, Nat.reduceEqDiff]; rw [e]) rfl
theorem nan127 (a : Int) (h : Heap) : WC env 127 [.int .i64 a] h (fun o => o = .ret ⟨.bool false, h, .none⟩) := by
  refine call_pure rfl rfl rfl rfl ?_
  have z : (a != a) = false := by simp
  simp only [a127, a127_0, a127_1, Slots.ofList, wpc_draw, s3, reduceIte, Nat.reduceEqDiff, aBin, aInt, negIf, Option.some.injEq, exists_eq_left', Option.map_some, Option.bind_some, z]
  exact finB (by simp only [get_put, reduceIte, Nat.reduceEqDiff]) rfl
theorem cmp94 (a b : Int) (h : Heap) : WC env 94 [.int .i64 a, .int .i64 b] h (fun o => o = .ret ⟨.int .i64 (cmpI a b), h, .none⟩) := by
  refine call_pure rfl rfl rfl rfl ?_
  by_cases c1 : a < b
  · have z1 : (a < b) = True := eq_true c1
    have e : cmpI a b = -1 := if_pos c1
    simp only [a94, a94_0, a94_1, a94_2, a94_3, a94_7, a94_9, a94_10, Slots.ofList, wpc_draw, s3, reduceIte, Nat.reduceEqDiff, aBin, aInt, negIf, Option.some.injEq, exists_eq_left', Option.map_some, Option.bind_some, z1, wc_eq (nan127 _ _)]
    exact finI (by simp only [get_put, reduceIte, Nat.reduceEqDiff]; rw [e]) rfl
  have z1 : (a < b) = False := eq_false c1
  by_cases c2 : a > b
  · have z2 : (a > b) = True := eq_true c2
    have e : cmpI a b = 1 := by rw [cmpI, if_neg c1, if_pos c2]
    simp only [a94, a94_0, a94_1, a94_2, a94_3, a94_7, a94_9, a94_11, a94_12, Slots.ofList, wpc_draw, s3, reduceIte, Nat.reduceEqDiff, aBin, aInt, negIf, Option.some.injEq, exists_eq_left', Option.map_some, Option.bind_some, z1, z2, wc_eq (nan127 _ _)]
    exact finI (by simp only [get_put, reduceIte, Nat.reduceEqDiff]; rw [e]) rfl
  have z2 : (a > b) = False := eq_false c2
  have e : cmpI a b = 0 := by rw [cmpI, if_neg c1, if_neg c2]
  simp only [a94, a94_0, a94_1, a94_2, a94_3, a94_7, a94_9, a94_11, a94_13, Slots.ofList, wpc_draw, s3, reduceIte, Nat.reduceEqDiff, aBin, aInt, negIf, Option.some.injEq, exists_eq_left', Option.map_some, Option.bind_some, z1, z2, wc_eq (nan127 _ _)]
  exact finI (by simp only [get_put, reduceIte, Nat.reduceEqDiff]; rw [e]) rfl
theorem nan125 (a : List UInt8) (h : Heap) : WC env 125 [.str a] h (fun o => o = .ret ⟨.bool false, h, .none⟩) := by
  refine call_pure rfl rfl rfl rfl ?_
  have z : (a == a) = true := by simp
  simp only [a125, a125_0, a125_1, Slots.ofList, wpc_draw, s3, reduceIte, Nat.reduceEqDiff, aBin, aInt, negIf, Option.some.injEq, exists_eq_left', Option.map_some, Option.bind_some, aStr, z, Bool.not_true]
  exact finB (by simp only [get_put, reduceIte, Nat.reduceEqDiff]) rfl
theorem cmp90 (a b : List UInt8) (h : Heap) : WC env 90 [.str a, .str b] h (fun o => o = .ret ⟨.int .i64 (cmpS a b), h, .none⟩) := by
  refine call_pure rfl rfl rfl rfl ?_
  cases z1 : Op.bytesLess a b with
  | true =>
    have e : cmpS a b = -1 := by rw [cmpS, z1]; rfl
    simp only [a90, a90_0, a90_1, a90_2, a90_3, a90_7, a90_9, a90_10, Slots.ofList, wpc_draw, s3, reduceIte, Nat.reduceEqDiff, aBin, aInt, negIf, Option.some.injEq, exists_eq_left', Option.map_some, Option.bind_some, aStr, z1, wc_eq (nan125 _ _)]
    exact finI (by simp only [get_put, reduceIte, Nat.reduceEqDiff]; rw [e]) rfl
  | false =>
  cases z2 : (a == b) with
  | false =>
    have e : cmpS a b = 1 := by rw [cmpS, z1, z2]; rfl
    simp only [a90, a90_0, a90_1, a90_2, a90_3, a90_7, a90_9, a90_11, a90_12, Slots.ofList, wpc_draw, s3, reduceIte, Nat.reduceEqDiff, aBin, aInt, negIf, Option.some.injEq, exists_eq_left', Option.map_some, Option.bind_some, aStr, z1, z2, Bool.or_false, Bool.not_false, wc_eq (nan125 _ _)]
    exact finI (by simp only [get_put, reduceIte, Nat.reduceEqDiff]; rw [e]) rfl
  | true =>
  have e : cmpS a b = 0 := by rw [cmpS, z1, z2]; rfl
  simp only [a90, a90_0, a90_1, a90_2, a90_3, a90_7, a90_9, a90_11, a90_13, Slots.ofList, wpc_draw, s3, reduceIte, Nat.reduceEqDiff, aBin, aInt, negIf, Option.some.injEq, exists_eq_left', Option.map_some, Option.bind_some, aStr, z1, z2, Bool.or_true, Bool.not_true, wc_eq (nan125 _ _)]
  exact finI (by simp only [get_put, reduceIte, Nat.reduceEqDiff]; rw [e]) rfl
/-- the first of them that is not zero -/
def orI : List Int → Int
  | [] => 0
  | x :: l => if x ≠ 0 then x else orI l
theorem or2 (x y : Int) (h : Heap) : WC env 91 [.fs true 2 [.int .i64 x, .int .i64 y]] h (fun o => o = .ret ⟨.int .i64 (orI [x, y]), h, .none⟩) := by
  have go : ran a91 [.fs true 2 [.int .i64 x, .int .i64 y]] = some (.int .i64 (orI [x, y])) := by
    cases i0 x <;> cases i0 y <;> kernel_rfl
  exact pure_run (n := 29) rfl rfl rfl rfl rfl go
theorem or3 (x y z : Int) (h : Heap) : WC env 91 [.fs true 3 [.int .i64 x, .int .i64 y, .int .i64 z]] h (fun o => o = .ret ⟨.int .i64 (orI [x, y, z]), h, .none⟩) := by
  have go : ran a91 [.fs true 3 [.int .i64 x, .int .i64 y, .int .i64 z]] = some (.int .i64 (orI [x, y, z])) := by
    cases i0 x <;> cases i0 y <;> cases i0 z <;> kernel_rfl
  exact pure_run (n := 29) rfl rfl rfl rfl rfl go
def cmpNs : List Int → List Int → Int
  | [], [] => 0
  | [], _ :: _ => -1
  | _ :: _, [] => 1
  | a :: l, b :: m => if cmpI a b ≠ 0 then cmpI a b else cmpNs l m
theorem u32_length (l : List Int) : (u32s l).length = l.length := List.length_map _
theorem idx_nums {f : Option Bool} {l : List Int} {i : Nat} (hi : i < l.length) : aIdxAddr 1 (slAV f l.length (u32s l)) (.int .i64 i) = some (.fp ((u32s l).drop i)) := by
  have hl := u32_length l
  have go : ∀ b, aIdxAddr 1 (.fs b l.length (u32s l)) (.int .i64 i) = some (.fp ((u32s l).drop i)) := by
    intro b
    cases e : u32s l with
    | nil => rw [e] at hl; simp at hl; omega
    | cons c cs => simp only [aIdxAddr, aIndex_nat (kd := .i64) hi, Option.map_some, Nat.mul_one]
  cases f with
  | none =>
    cases n : l.length with
    | zero => omega
    | succ n => have := go false; rw [n] at this; exact this
  | some b => exact go b
theorem ld_nums {l : List Int} {i : Nat} (hi : i < l.length) (h : Heap) : aLoad h false 1 (.fp ((u32s l).drop i)) = some ⟨.int .u32 l[i], h, .none⟩ := by
  have : (u32s l).drop i = .int .u32 l[i] :: u32s (l.drop (i + 1)) := by
    rw [u32s, List.drop_eq_getElem_cons (by simpa using hi)]
    simp [u32s]
  rw [this]; rfl
theorem nums_loop {f1 f2 : Option Bool} {l m : List Int} (hl : l.length < 9223372036854775808) (hm : m.length < 9223372036854775808) {h : Heap} {Q : AExit → St → Prop} :
    ∀ (f i : Nat) (σ : Slots), l.length - i < f → i ≤ l.length → i ≤ m.length → σ.get 0 = slAV f1 l.length (u32s l) → σ.get 1 = slAV f2 m.length (u32s m) → σ.get 9 = slAV f1 l.length (u32s l) → σ.get 10 = .int .i64 l.length → σ.get 11 = .int .i64 i →
    (∀ σ', (∀ x, σ'.get 4 = .int .i64 x → x = cmpNs (l.drop i) (m.drop i) → Q .ret ⟨σ', h⟩) ∧ (σ'.get 0 = σ.get 0 → σ'.get 1 = σ.get 1 → (l.drop (min l.length m.length) = [] ∧ (cmpNs (l.drop i) (m.drop i) = if l.length < m.length then -1 else 0)) → Q (.exit 0) ⟨σ', h⟩)) →
    WPr env a93_l11 ⟨σ, h⟩ Q := by
  intro f
  induction f with
  | zero => intro i σ h1; omega
  | succ f ih =>
    intro i σ hf hi hi' g0 g1 g9 g10 g11 hQ
    refine wpr_round' fun b hb => ?_
    have nm : ∀ h, aLenOp false h (slAV f2 m.length (u32s m)) = some ⟨.int .i64 m.length, h, .none⟩ := fun h => len_sl _ _ _ (fun _ => trivial) h
    by_cases c1 : i < l.length
    · have z0 : ((i : Int) < (l.length : Int)) = True := eq_true (by omega)
      have zi : IntKind.wrap .i64 ((i : Int) + 1) = ((i + 1 : Nat) : Int) := wrap_nat (by omega) (by omega)
      have lx := idx_nums (f := f1) c1
      have ld := ld_nums c1 h
      have hd1 : l.drop i = l[i] :: l.drop (i + 1) := List.drop_eq_getElem_cons c1
      by_cases c2 : i < m.length
      · have z1 : ((i : Int) ≥ (m.length : Int)) = False := eq_false (by omega)
        have lx2 := idx_nums (f := f2) c2
        have ld2 := ld_nums c2 h
        have hd2 : m.drop i = m[i] :: m.drop (i + 1) := List.drop_eq_getElem_cons c2
        rw [hd1, hd2, cmpNs] at hQ
        by_cases c3 : cmpI l[i] m[i] = 0
        · have z3 : (cmpI l[i] m[i] != 0) = false := by simpa using c3
          rw [if_neg (by omega)] at hQ
          simp only [a93_l11, a93_2, a93_3, a93_4, a93_6, a93_7, a93_8, a93_10, wpc_draw, s3, reduceIte, Nat.reduceEqDiff, aBin, aInt, negIf, Option.some.injEq, exists_eq_left', Option.map_some, Option.bind_some, g0, g1, g9, g10, g11, z0, z1, zi, lx, ld, lx2, ld2, nm, wc_eq (cmp92 _ _ _), z3]
          subst hb
          refine ih (i + 1) _ (by omega) (by omega) (by omega) ?_ ?_ ?_ ?_ ?_ fun σ' => ⟨fun x => (hQ σ').1 x, fun e0 e1 => (hQ σ').2 (by rw [e0]; simp only [get_put, reduceIte, Nat.reduceEqDiff]) (by rw [e1]; simp only [get_put, reduceIte, Nat.reduceEqDiff])⟩
          · simp only [get_put, reduceIte, Nat.reduceEqDiff, g0]
          · simp only [get_put, reduceIte, Nat.reduceEqDiff, g1]
          · simp only [get_put, reduceIte, Nat.reduceEqDiff, g9]
          · simp only [get_put, reduceIte, Nat.reduceEqDiff, g10]
          · simp only [get_put, reduceIte, Nat.reduceEqDiff]
        · have z3 : (cmpI l[i] m[i] != 0) = true := by simpa using c3
          rw [if_pos c3] at hQ
          simp only [a93_l11, a93_2, a93_3, a93_4, a93_6, a93_7, a93_8, a93_9, wpc_draw, s3, reduceIte, Nat.reduceEqDiff, aBin, aInt, negIf, Option.some.injEq, exists_eq_left', Option.map_some, Option.bind_some, g0, g1, g9, g10, g11, z0, z1, zi, lx, ld, lx2, ld2, nm, wc_eq (cmp92 _ _ _), z3]
          exact (hQ _).1 _ (by simp only [get_put, reduceIte, Nat.reduceEqDiff]) rfl
      · have z1 : ((i : Int) ≥ (m.length : Int)) = True := eq_true (by omega)
        have hd2 : m.drop i = [] := List.drop_of_length_le (by omega)
        rw [hd1, hd2, cmpNs] at hQ
        simp only [a93_l11, a93_2, a93_3, a93_4, a93_5, wpc_draw, s3, reduceIte, Nat.reduceEqDiff, aBin, aInt, negIf, Option.some.injEq, exists_eq_left', Option.map_some, Option.bind_some, g0, g1, g9, g10, g11, z0, z1, zi, lx, ld, nm]
        exact (hQ _).1 _ (by simp only [get_put, reduceIte, Nat.reduceEqDiff]) rfl
    · have z0 : ((i : Int) < (l.length : Int)) = False := eq_false (by omega)
      have hd1 : l.drop i = [] := List.drop_of_length_le (by omega)
      simp only [a93_l11, a93_2, wpc_draw, s3, reduceIte, Nat.reduceEqDiff, aBin, aInt, negIf, Option.some.injEq, exists_eq_left', Option.map_some, Option.bind_some, g10, g11, z0]
      refine (hQ _).2 (by simp only [get_put, reduceIte, Nat.reduceEqDiff]) (by simp only [get_put, reduceIte, Nat.reduceEqDiff]) ⟨List.drop_of_length_le (by omega), ?_⟩
      rw [hd1]
      cases e : m.drop i with
      | nil =>
        have : m.length ≤ i := List.drop_eq_nil_iff.1 e
        rw [if_neg (by omega), cmpNs]
      | cons x y =>
        have : ¬ m.length ≤ i := fun c => by rw [List.drop_of_length_le c] at e; cases e
        rw [if_pos (by omega), cmpNs]
theorem nums_spec (f1 f2 : Option Bool) (l m : List Int) (hl : l.length < 9223372036854775808) (hm : m.length < 9223372036854775808) (h : Heap) : WC env 93 [slAV f1 l.length (u32s l), slAV f2 m.length (u32s m)] h (fun o => o = .ret ⟨.int .i64 (cmpNs l m), h, .none⟩) := by
  refine call_pure rfl rfl rfl (by simp only [AV.noRefs, noRef_sl _ _ (noRefs_u32 _), Bool.and_self]) ?_
  have nl : ∀ h, aLenOp false h (slAV f1 l.length (u32s l)) = some ⟨.int .i64 l.length, h, .none⟩ := fun h => len_sl _ _ _ (fun _ => trivial) h
  have nm : ∀ h, aLenOp false h (slAV f2 m.length (u32s m)) = some ⟨.int .i64 m.length, h, .none⟩ := fun h => len_sl _ _ _ (fun _ => trivial) h
  simp only [a93, a93_0, a93_1, Slots.ofList, wpc_draw, s3, reduceIte, Nat.reduceEqDiff, aBin, aInt, negIf, Option.some.injEq, exists_eq_left', Option.map_some, Option.bind_some, nl]
  refine nums_loop (f1 := f1) (f2 := f2) hl hm (l.length + 1) 0 _ (by omega) (by omega) (by omega) ?_ ?_ ?_ ?_ ?_ fun σ' => ⟨fun x g e => ?_, fun e0 e1 e => ?_⟩
  · simp only [get_put, reduceIte, Nat.reduceEqDiff]
  · simp only [get_put, reduceIte, Nat.reduceEqDiff]
  · simp only [get_put, reduceIte, Nat.reduceEqDiff]
  · simp only [get_put, reduceIte, Nat.reduceEqDiff]
  · simp only [get_put, reduceIte, Nat.reduceEqDiff]; rfl
  · simp only [wpc_draw, s3, reduceIte, Nat.reduceEqDiff, aBin, aInt, negIf, Option.some.injEq, exists_eq_left', Option.map_some, Option.bind_some]
    exact finI g (by rw [e]; rfl)
  · simp only [get_put, reduceIte, Nat.reduceEqDiff] at e0 e1
    by_cases c : l.length < m.length
    · have z : ((l.length : Int) < (m.length : Int)) = True := eq_true (by omega)
      have e := e.2
      rw [if_pos c, List.drop_zero, List.drop_zero] at e
      simp only [a93_12, a93_13, wpc_draw, s3, reduceIte, Nat.reduceEqDiff, aBin, aInt, negIf, Option.some.injEq, exists_eq_left', Option.map_some, Option.bind_some, e0, e1, nl, nm, z]
      exact finI (by simp only [get_put, reduceIte, Nat.reduceEqDiff]; rw [e]) rfl
    · have z : ((l.length : Int) < (m.length : Int)) = False := eq_false (by omega)
      have e := e.2
      rw [if_neg c, List.drop_zero, List.drop_zero] at e
      simp only [a93_12, a93_14, wpc_draw, s3, reduceIte, Nat.reduceEqDiff, aBin, aInt, negIf, Option.some.injEq, exists_eq_left', Option.map_some, Option.bind_some, e0, e1, nl, nm, z]
      exact finI (by simp only [get_put, reduceIte, Nat.reduceEqDiff]; rw [e]) rfl
end Go.Bf

set_option linter.unusedVariables false
set_option linter.unusedSimpArgs false
set_option maxRecDepth 20000
namespace Go.AM
/-- a call of a value that is known -/
def callvK (E : Env) : Option AV → Option (List AV) → Heap → (COut → Prop) → Prop
  | some (.fn (.func g) first cap), some vs, h, Q => WC E g (first ++ vs ++ cap) h Q
  | _, _, _, _ => False
theorem wp1_callv' {E : Env} {f : Opd} {args : List Opd} {d : Option Nat} {s : St} {K : St → Cls → Prop} {Q : AExit → St → Prop} : wp1 E (.callv f args) d s K Q = callvK E (E.opd s.σ f) (E.opds s.σ args) s.h (callK s d K Q) := by
  refine propext ⟨?_, ?_⟩
  · rintro ⟨g, first, cap, vs, h1, h2, h3⟩
    rw [h1, h2]; exact h3
  · intro h
    unfold callvK at h
    split at h
    · rename_i g first cap vs e1 e2
      exact ⟨g, first, cap, vs, e1, e2, h⟩
    · exact h.elim
theorem callvK_fn {E : Env} {g : Nat} {vs : List AV} {h : Heap} {Q : COut → Prop} : callvK E (some (.fn (.func g) [] [])) (some vs) h Q = WC E g vs h Q := by
  show WC E g ([] ++ vs ++ []) h Q = _
  rw [List.nil_append, List.append_nil]
end Go.AM
namespace Go.Bf
open Go.AM
mutual
def Wf : Tm → Prop
  | .mk k i s c nf ns af ar => (kindOk (.mk k i s c nf ns af ar) = true ∧ ar.length ≤ 4096) ∧ Wfs ar
def Wfs : List Tm → Prop
  | [] => True
  | t :: l => Wf t ∧ Wfs l
end
theorem Wfs.get : ∀ {l : List Tm} (h : Wfs l) {t : Tm}, t ∈ l → Wf t
  | [], h, t, m => by simp at m
  | u :: l, h, t, m => by
    rw [Wfs] at h
    rcases List.mem_cons.1 m with rfl | m
    · exact h.1
    · exact Wfs.get h.2 m
theorem walk_grows : ∀ t deep n d, (walkF t deep n d).1 = none → n + 1 ≤ (walkF t deep n d).2.1 := by
  refine tm_ind fun k i s c nf ns af ar ih deep n d h => ?_
  have go : ∀ (l : List Tm), (∀ t, t ∈ l → t ∈ ar) → ∀ deep n d, (walkFs l deep n d).1 = none → n + l.length ≤ (walkFs l deep n d).2.1 := by
    intro l
    induction l with
    | nil => intro _ _ _ _ _; exact Nat.le_refl _
    | cons t l ihl =>
      intro hl deep n d h
      have h1 := ih t (hl t (by simp)) deep n d
      rw [walkFs] at h ⊢
      split at h
      · rename_i n' d' e
        rw [e] at h1
        have h2 := ihl (fun t m => hl t (by simp [m])) _ _ _ h
        have h1 := h1 rfl
        simp only [List.length_cons] at h1 h2 ⊢
        omega
      · cases h
  rw [walkF] at h ⊢
  split at h
  · cases h
  rename_i c1
  rw [if_neg c1]
  split at h
  · cases h
  rename_i c2
  rw [if_neg c2]
  split at h
  · cases h
  rename_i c3
  exact Nat.le_trans (by omega) (go ar (fun _ m => m) _ _ _ h)
theorem walks_grow : ∀ (l : List Tm) deep n d, (walkFs l deep n d).1 = none → n + l.length ≤ (walkFs l deep n d).2.1
  | [], _, _, _, _ => Nat.le_refl _
  | t :: l, deep, n, d, h => by
    have h1 := walk_grows t deep n d
    rw [walkFs] at h ⊢
    split at h
    · rename_i n' d' e
      rw [e] at h1
      have h2 := walks_grow l _ _ _ h
      have h1 := h1 rfl
      simp only [List.length_cons] at h1 h2 ⊢
      omega
    · cases h
theorem walks_le : ∀ (l : List Tm) deep n d, n ≤ 4096 → d ≤ 256 → (walkFs l deep n d).2.1 ≤ 4096 ∧ (walkFs l deep n d).2.2 ≤ 256
  | [], _, _, _, hn, hd => ⟨hn, hd⟩
  | t :: l, deep, n, d, hn, hd => by
    have h1 := walk_le t deep n d hn hd
    rw [walkFs]
    split
    · rename_i n' d' e
      rw [e] at h1
      exact walks_le l _ _ _ h1.1 h1.2
    · rename_i n' d' e
      rw [e] at h1
      exact h1
theorem wf_walk : ∀ t deep n d, n ≤ 4096 → d ≤ 256 → (walkF t deep n d).1 = none → Wf t := by
  refine tm_ind fun k i s c nf ns af ar ih deep n d hn hd h => ?_
  have go : ∀ (l : List Tm), (∀ t, t ∈ l → t ∈ ar) → ∀ deep n d, n ≤ 4096 → d ≤ 256 → (walkFs l deep n d).1 = none → Wfs l := by
    intro l
    induction l with
    | nil => intro _ _ _ _ _ _ _; trivial
    | cons t l ihl =>
      intro hl deep n d hn hd h
      have h1 := ih t (hl t (by simp)) deep n d hn hd
      have hb := walk_le t deep n d hn hd
      rw [walkFs] at h
      split at h
      · rename_i n' d' e
        rw [e] at h1 hb
        exact ⟨h1 rfl, ihl (fun t m => hl t (by simp [m])) _ _ _ hb.1 hb.2 h⟩
      · cases h
  rw [walkF] at h
  split at h
  · cases h
  rename_i c1
  split at h
  · cases h
  rename_i c2
  split at h
  · cases h
  · rename_i e
    have h1 := walks_grow _ _ _ _ h
    have h2 := (walks_le ar (deep + 1) (n + 1) (max d deep) (by omega) (by omega)).1
    refine ⟨⟨?_, by omega⟩, go ar (fun _ m => m) _ _ _ (by omega) (by omega) h⟩
    cases hk : kindOk (.mk k i s c nf ns af ar) with
    | true => rfl
    | false => rw [formF, if_pos hk] at e; cases e
theorem wf_chk {t : Tm} (h : chkF t = none) : Wf t := wf_walk t 1 0 0 (by omega) (by omega) h
mutual
def ordF : Tm → Tm → Int
  | .mk k i s c nf ns af ar, .mk k' i' s' c' nf' ns' af' ar' =>
    if k ≠ k' then cmpI k k'
    else if k = 1 then cmpI i i'
    else if k = 2 then cmpS s s'
    else if k = 3 ∨ k = 4 then orI [cmpS s s', cmpI c c', cmpNs ns ns']
    else if k = 5 then orI [cmpI ar.length ar'.length, ordFs ar ar']
    else if k = 7 then ordL ar ar'
    else 0
def ordFs : List Tm → List Tm → Int
  | [], [] => 0
  | [], _ :: _ => -1
  | _ :: _, [] => 1
  | a :: l, b :: m => if ordF a b ≠ 0 then ordF a b else ordFs l m
def ordL : List Tm → List Tm → Int
  | [], _ => 0
  | _ :: _, [] => 0
  | a :: l, b :: m =>
    if l.length = 0 then (if m.length = 0 then ordF a b else cmpI a.kind 7)
    else if m.length = 0 then cmpI 7 b.kind
    else if ordF a b ≠ 0 then ordF a b else ordL l m
end
def OrdOk (a : Tm) : Prop := ∀ b, b.Ok → Wf b → ∀ h, WC env 53 [.agg (tc a), .agg (tc b)] h (fun o => o = .ret ⟨.int .i64 (ordF a b), h, .none⟩)
theorem cmpf_loop {f1 f2 : Option Bool} {l m : List Tm} (hP : ∀ t, t ∈ l → OrdOk t) (okm : Oks m) (wfm : Wfs m) (hl : l.length < 9223372036854775808) (hm : m.length < 9223372036854775808) {Q : AExit → St → Prop} :
    ∀ (f i : Nat) (σ : Slots) (h : Heap), l.length - i < f → i ≤ l.length → i ≤ m.length → HeapOk h → σ.get 0 = slAV f1 l.length (tcs l) → σ.get 1 = slAV f2 m.length (tcs m) → σ.get 2 = .fn (.func 53) [] [] → σ.get 11 = slAV f1 l.length (tcs l) → σ.get 12 = .int .i64 l.length → σ.get 13 = .int .i64 i →
    (∀ σ' h', (∀ x, σ'.get 6 = .int .i64 x → x = ordFs (l.drop i) (m.drop i) → Q .ret ⟨σ', h'⟩) ∧ (σ'.get 0 = σ.get 0 → σ'.get 1 = σ.get 1 → (ordFs (l.drop i) (m.drop i) = if l.length < m.length then -1 else 0) → Q (.exit 0) ⟨σ', h'⟩)) →
    WPr env a95_l11 ⟨σ, h⟩ Q := by
  intro f
  induction f with
  | zero => intro i σ h h1; omega
  | succ f ih =>
    intro i σ h hf hi hi' ho g0 g1 g2 g11 g12 g13 hQ
    refine wpr_round' fun b hb => ?_
    have nm : ∀ h, aLenOp false h (slAV f2 m.length (tcs m)) = some ⟨.int .i64 m.length, h, .none⟩ := fun h => len_sl _ _ _ (fun _ => trivial) h
    by_cases c1 : i < l.length
    · have z0 : ((i : Int) < (l.length : Int)) = True := eq_true (by omega)
      have zi : IntKind.wrap .i64 ((i : Int) + 1) = ((i + 1 : Nat) : Int) := wrap_nat (by omega) (by omega)
      have lx := idx_args (f := f1) c1
      have ld := ld_args c1 h
      have hd1 : l.drop i = l[i] :: l.drop (i + 1) := List.drop_eq_getElem_cons c1
      obtain ⟨h2, st2, ho2, le2, at2⟩ := box_t ho l[i]
      by_cases c2 : i < m.length
      · have z1 : ((i : Int) ≥ (m.length : Int)) = False := eq_false (by omega)
        have lx2 := idx_args (f := f2) c2
        have ld2 := ld_args c2 h2
        have hd2 : m.drop i = m[i] :: m.drop (i + 1) := List.drop_eq_getElem_cons c2
        obtain ⟨h3, st3, ho3, le3, at3⟩ := box_t ho2 m[i]
        have lt2 := ld_t (le3.2 _ _ _ at2)
        have lt3 := ld_t at3
        have wo := hP l[i] (List.getElem_mem c1) m[i] (okm.get (List.getElem_mem c2)) (wfm.get (List.getElem_mem c2))
        rw [hd1, hd2, ordFs] at hQ
        by_cases c3 : ordF l[i] m[i] = 0
        · have z3 : (ordF l[i] m[i] != 0) = false := by simpa using c3
          rw [if_neg (by omega)] at hQ
          simp only [a95_l11, a95_2, a95_3, a95_4, a95_6, a95_7, a95_8, a95_10, wpc_draw, s3, reduceIte, Nat.reduceEqDiff, aBin, aInt, negIf, Option.some.injEq, exists_eq_left', Option.map_some, Option.bind_some, wp1_callv', callvK_fn, g0, g1, g2, g11, g12, g13, z0, z1, zi, lx, ld, lx2, ld2, nm, st2, st3, lt2, lt3, wc_eq (wo _), z3]
          subst hb
          refine ih (i + 1) _ h3 (by omega) (by omega) (by omega) ho3 ?_ ?_ ?_ ?_ ?_ ?_ fun σ' h' => ⟨fun x => (hQ σ' h').1 x, fun e0 e1 => (hQ σ' h').2 (by rw [e0]; simp only [get_put, reduceIte, Nat.reduceEqDiff]) (by rw [e1]; simp only [get_put, reduceIte, Nat.reduceEqDiff])⟩
          · simp only [get_put, reduceIte, Nat.reduceEqDiff, g0]
          · simp only [get_put, reduceIte, Nat.reduceEqDiff, g1]
          · simp only [get_put, reduceIte, Nat.reduceEqDiff, g2]
          · simp only [get_put, reduceIte, Nat.reduceEqDiff, g11]
          · simp only [get_put, reduceIte, Nat.reduceEqDiff, g12]
          · simp only [get_put, reduceIte, Nat.reduceEqDiff]
        · have z3 : (ordF l[i] m[i] != 0) = true := by simpa using c3
          rw [if_pos c3] at hQ
          simp only [a95_l11, a95_2, a95_3, a95_4, a95_6, a95_7, a95_8, a95_9, wpc_draw, s3, reduceIte, Nat.reduceEqDiff, aBin, aInt, negIf, Option.some.injEq, exists_eq_left', Option.map_some, Option.bind_some, wp1_callv', callvK_fn, g0, g1, g2, g11, g12, g13, z0, z1, zi, lx, ld, lx2, ld2, nm, st2, st3, lt2, lt3, wc_eq (wo _), z3]
          exact (hQ _ _).1 _ (by simp only [get_put, reduceIte, Nat.reduceEqDiff]) rfl
      · have z1 : ((i : Int) ≥ (m.length : Int)) = True := eq_true (by omega)
        have hd2 : m.drop i = [] := List.drop_of_length_le (by omega)
        rw [hd1, hd2, ordFs] at hQ
        simp only [a95_l11, a95_2, a95_3, a95_4, a95_5, wpc_draw, s3, reduceIte, Nat.reduceEqDiff, aBin, aInt, negIf, Option.some.injEq, exists_eq_left', Option.map_some, Option.bind_some, g0, g1, g11, g12, g13, z0, z1, zi, lx, ld, nm, st2]
        exact (hQ _ _).1 _ (by simp only [get_put, reduceIte, Nat.reduceEqDiff]) rfl
    · have z0 : ((i : Int) < (l.length : Int)) = False := eq_false (by omega)
      have hd1 : l.drop i = [] := List.drop_of_length_le (by omega)
      simp only [a95_l11, a95_2, wpc_draw, s3, reduceIte, Nat.reduceEqDiff, aBin, aInt, negIf, Option.some.injEq, exists_eq_left', Option.map_some, Option.bind_some, g12, g13, z0]
      refine (hQ _ _).2 (by simp only [get_put, reduceIte, Nat.reduceEqDiff]) (by simp only [get_put, reduceIte, Nat.reduceEqDiff]) ?_
      rw [hd1]
      cases e : m.drop i with
      | nil =>
        have : m.length ≤ i := List.drop_eq_nil_iff.1 e
        rw [if_neg (by omega), ordFs]
      | cons x y =>
        have : ¬ m.length ≤ i := fun c => by rw [List.drop_of_length_le c] at e; cases e
        rw [if_pos (by omega), ordFs]
theorem cmpf_spec (f1 f2 : Option Bool) (l m : List Tm) (hP : ∀ t, t ∈ l → OrdOk t) (okm : Oks m) (wfm : Wfs m) (hl : l.length < 9223372036854775808) (hm : m.length < 9223372036854775808) (h : Heap) : WC env 95 [slAV f1 l.length (tcs l), slAV f2 m.length (tcs m), .fn (.func 53) [] []] h (fun o => o = .ret ⟨.int .i64 (ordFs l m), h, .none⟩) := by
  refine call_pure rfl rfl rfl (by simp only [AV.noRefs, AV.noRef, noRef_sl _ _ (noRef_tcs _), Bool.and_self]) ?_
  have nl : ∀ h, aLenOp false h (slAV f1 l.length (tcs l)) = some ⟨.int .i64 l.length, h, .none⟩ := fun h => len_sl _ _ _ (fun _ => trivial) h
  have nm : ∀ h, aLenOp false h (slAV f2 m.length (tcs m)) = some ⟨.int .i64 m.length, h, .none⟩ := fun h => len_sl _ _ _ (fun _ => trivial) h
  simp only [a95, a95_0, a95_1, Slots.ofList, wpc_draw, s3, reduceIte, Nat.reduceEqDiff, aBin, aInt, negIf, Option.some.injEq, exists_eq_left', Option.map_some, Option.bind_some, nl]
  refine cmpf_loop (f1 := f1) (f2 := f2) hP okm wfm hl hm (l.length + 1) 0 _ _ (by omega) (by omega) (by omega) HeapOk.empty ?_ ?_ ?_ ?_ ?_ ?_ fun σ' h' => ⟨fun x g e => ?_, fun e0 e1 e => ?_⟩
  · simp only [get_put, reduceIte, Nat.reduceEqDiff]
  · simp only [get_put, reduceIte, Nat.reduceEqDiff]
  · simp only [get_put, reduceIte, Nat.reduceEqDiff]
  · simp only [get_put, reduceIte, Nat.reduceEqDiff]
  · simp only [get_put, reduceIte, Nat.reduceEqDiff]
  · simp only [get_put, reduceIte, Nat.reduceEqDiff]; rfl
  · simp only [wpc_draw, s3, reduceIte, Nat.reduceEqDiff, aBin, aInt, negIf, Option.some.injEq, exists_eq_left', Option.map_some, Option.bind_some]
    exact finI g (by rw [e]; rfl)
  · simp only [get_put, reduceIte, Nat.reduceEqDiff] at e0 e1
    rw [List.drop_zero, List.drop_zero] at e
    by_cases c : l.length < m.length
    · have z : ((l.length : Int) < (m.length : Int)) = True := eq_true (by omega)
      rw [if_pos c] at e
      simp only [a95_12, a95_13, wpc_draw, s3, reduceIte, Nat.reduceEqDiff, aBin, aInt, negIf, Option.some.injEq, exists_eq_left', Option.map_some, Option.bind_some, e0, e1, nl, nm, z]
      exact finI (by simp only [get_put, reduceIte, Nat.reduceEqDiff]; rw [e]) rfl
    · have z : ((l.length : Int) < (m.length : Int)) = False := eq_false (by omega)
      rw [if_neg c] at e
      simp only [a95_12, a95_14, wpc_draw, s3, reduceIte, Nat.reduceEqDiff, aBin, aInt, negIf, Option.some.injEq, exists_eq_left', Option.map_some, Option.bind_some, e0, e1, nl, nm, z]
      exact finI (by simp only [get_put, reduceIte, Nat.reduceEqDiff]; rw [e]) rfl
/-- a slice that holds these terms -/
inductive Sl : AV → List Tm → Prop
  | nil : Sl .nils []
  | fs (b : Bool) (l : List Tm) : Sl (.fs b l.length (tcs l)) l
theorem sl_of (f : Option Bool) (l : List Tm) : Sl (slAV f l.length (tcs l)) l := by
  cases f with
  | none => cases l with
    | nil => exact .nil
    | cons a l => exact .fs false (a :: l)
  | some b => exact .fs b l
theorem Sl.noRef {v : AV} {l : List Tm} (h : Sl v l) : v.noRef = true := by
  cases h with
  | nil => rfl
  | fs b l => exact noRef_tcs l
theorem Sl.eq {v : AV} {l : List Tm} (h : Sl v l) : ∃ f, v = slAV f l.length (tcs l) := by
  cases h with
  | nil => exact ⟨none, rfl⟩
  | fs b l => exact ⟨some b, rfl⟩
theorem Sl.len {v : AV} {l : List Tm} (k : Sl v l) (h : Heap) : aLenOp false h v = some ⟨.int .i64 l.length, h, .none⟩ := by
  cases k with
  | nil => rfl
  | fs b l => rfl
theorem Sl.idx {v : AV} {l : List Tm} (k : Sl v l) {i : Nat} (hi : i < l.length) : aIdxAddr 6 v (.int .i64 i) = some (.fp ((tcs l).drop (i * 6))) := by
  obtain ⟨f, rfl⟩ := k.eq; exact idx_args hi
theorem Sl.tail {v : AV} {a : Tm} {l : List Tm} (k : Sl v (a :: l)) : ∃ v', aSlice 6 v (some (.int .i64 1)) none none = some v' ∧ Sl v' l := by
  cases k with
  | fs b l =>
    refine ⟨.fs b l.length (tcs l), ?_, .fs b l⟩
    have e1 : (tcs (a :: l)).length = (a :: l).length * 6 := tcs_length _
    have e2 : bounds (a :: l).length (a :: l).length (some (.int .i64 ((1 : Nat) : Int))) none none = some (1, (a :: l).length, (a :: l).length) := bounds_from (by simp)
    have e3 : ((tcs (a :: l)).drop (1 * 6)).take (((a :: l).length - 1) * 6) = tcs l := by
      rw [tcs, Nat.one_mul, List.drop_append, List.drop_of_length_le (by rw [tc_length]; exact Nat.le_refl _), tc_length, List.nil_append, Nat.sub_self, List.drop_zero]
      exact List.take_of_length_le (by rw [tcs_length]; simp)
    have e2' : bounds (a :: l).length (a :: l).length (some (.int .i64 1)) none none = some (1, (a :: l).length, (a :: l).length) := e2
    simp only [aSlice, e1, if_true, e2', Option.map_some, e3, beq_self_eq_true, Bool.and_true]
    rfl
end Go.Bf

set_option linter.unusedVariables false
set_option linter.unusedSimpArgs false
set_option maxRecDepth 20000
namespace Go.Bf
open Go.AM
theorem fill3 (x y z : Int) : aFill [.int .i64 0, .int .i64 0, .int .i64 0] [(0, 1, .int .i64 x), (1, 1, .int .i64 y), (2, 1, .int .i64 z)] = some [.int .i64 x, .int .i64 y, .int .i64 z] := rfl
theorem len3 (x y z : AV) : ([x, y, z] : List AV).length = 3 := rfl
theorem fill2 (x y : Int) : aFill [.int .i64 0, .int .i64 0] [(0, 1, .int .i64 x), (1, 1, .int .i64 y)] = some [.int .i64 x, .int .i64 y] := rfl
theorem len2 (x y : AV) : ([x, y] : List AV).length = 2 := rfl
theorem left_one {nv av : AV} (hn : SN nv) (ha : SN av) (b : Bool) (k i : Int) (s : List UInt8) (c : Int) : ran a128 [.fs b 1 [.int .i64 k, .int .i64 i, .str s, .int .u32 c, nv, av]] = some (.agg [.int .i64 k, .int .i64 i, .str s, .int .u32 c, nv, av]) := by
  cases hn <;> cases ha <;> kernel_rfl
theorem left_many (b : Bool) (n : Nat) (cs : List AV) : ran a128 [.fs b (n + 2) cs] = some (.agg [.int .i64 7, .int .i64 0, .str [], .int .u32 0, .nils, .fs b (n + 2) cs]) := by kernel_rfl
/-- what is left of a list, as a term -/
theorem left_spec {v : AV} {l : List Tm} (k : Sl v l) (hl : l ≠ []) (h : Heap) : ∃ t : Tm, WC env 128 [v] h (fun o => o = .ret ⟨.agg (tc t), h, .none⟩) ∧ ((∃ a, l = [a] ∧ t = a) ∨ (2 ≤ l.length ∧ ∃ b, t = .mk 7 0 [] 0 none [] (some b) l)) := by
  have hr : AV.noRefs [v] = true := by simp only [AV.noRefs, k.noRef, Bool.and_self]
  cases k with
  | nil => exact absurd rfl hl
  | fs b l =>
    match l, hl with
    | [a], _ =>
      refine ⟨a, ?_, .inl ⟨a, rfl, rfl⟩⟩
      refine pure_run (n := 29) rfl rfl rfl hr (noRef_agg a) ?_
      cases a with
      | mk k i s c nf ns af ar =>
        exact left_one (slF nf ns.length (u32s ns)).any (slF af ar.length (tcs ar)).any b k i s c
    | a :: a' :: l, _ =>
      refine ⟨.mk 7 0 [] 0 none [] (some b) (a :: a' :: l), ?_, .inr ⟨by simp, b, rfl⟩⟩
      refine pure_run (n := 29) rfl rfl rfl hr (noRef_agg _) ?_
      exact left_many b l.length (tcs (a :: a' :: l))
theorem lists_loop {h : Heap} {Q : AExit → St → Prop} : ∀ (l m : List Tm) (σ : Slots), l ≠ [] → m ≠ [] → (∀ t, t ∈ l → OrdOk t) → Oks m → Wfs m → Sl (σ.get 0) l → Sl (σ.get 1) m →
    (∀ σ', (∀ x, σ'.get 4 = .int .i64 x → x = ordL l m → Q .ret ⟨σ', h⟩) ∧ (∀ l' m', (∀ t, t ∈ l' → t ∈ l) → (∀ t, t ∈ m' → t ∈ m) → (lastNot7 l' = lastNot7 l) → (lastNot7 m' = lastNot7 m) → l' ≠ [] → m' ≠ [] → (l'.length = 1 ∨ m'.length = 1) → ordL l m = ordL l' m' → Sl (σ'.get 0) l' → Sl (σ'.get 1) m' → Q (.exit 0) ⟨σ', h⟩)) →
    WPr env a96_l6 ⟨σ, h⟩ Q := by
  intro l
  induction l with
  | nil => intro m σ h1; exact absurd rfl h1
  | cons a l ih =>
    intro m σ _ hm hP okm wfm k0 k1 hQ
    cases m with
    | nil => exact absurd rfl hm
    | cons b m =>
      refine wpr_round' fun bb hbb => ?_
      obtain ⟨v0, g0⟩ : ∃ v, σ.get 0 = v := ⟨_, rfl⟩
      obtain ⟨v1, g1⟩ : ∃ v, σ.get 1 = v := ⟨_, rfl⟩
      rw [g0] at k0
      rw [g1] at k1
      have n0 := k0.len
      have n1 := k1.len
      rw [List.length_cons] at n0 n1
      by_cases c0 : l.length = 0
      · have z0 : (((l.length + 1 : Nat) : Int) > 1) = False := eq_false (by omega)
        simp only [a96_l6, a96_1, wpo_u, wpc_draw, s3, reduceIte, Nat.reduceEqDiff, aBin, aInt, negIf, Option.some.injEq, exists_eq_left', Option.map_some, Option.bind_some, g0, g1, n0, n1, z0, aPick]
        refine (hQ _).2 (a :: l) (b :: m) (fun _ x => x) (fun _ x => x) rfl rfl (by simp) (by simp) (.inl (by rw [List.length_cons, c0])) rfl ?_ ?_
        · simp only [get_put, reduceIte, Nat.reduceEqDiff, g0]; exact k0
        · simp only [get_put, reduceIte, Nat.reduceEqDiff, g1]; exact k1
      have z0 : (((l.length + 1 : Nat) : Int) > 1) = True := eq_true (by omega)
      by_cases c1 : m.length = 0
      · have z1 : (((m.length + 1 : Nat) : Int) > 1) = False := eq_false (by omega)
        simp only [a96_l6, a96_1, wpo_u, wpc_draw, s3, reduceIte, Nat.reduceEqDiff, aBin, aInt, negIf, Option.some.injEq, exists_eq_left', Option.map_some, Option.bind_some, g0, g1, n0, n1, z0, z1, aPick]
        refine (hQ _).2 (a :: l) (b :: m) (fun _ x => x) (fun _ x => x) rfl rfl (by simp) (by simp) (.inr (by rw [List.length_cons, c1])) rfl ?_ ?_
        · simp only [get_put, reduceIte, Nat.reduceEqDiff, g0]; exact k0
        · simp only [get_put, reduceIte, Nat.reduceEqDiff, g1]; exact k1
      have z1 : (((m.length + 1 : Nat) : Int) > 1) = True := eq_true (by omega)
      have x0 : aIdxAddr 6 v0 (.int .i64 0) = some (.fp (tcs (a :: l))) := by have := k0.idx (i := 0) (by simp); simpa using this
      have x1 : aIdxAddr 6 v1 (.int .i64 0) = some (.fp (tcs (b :: m))) := by have := k1.idx (i := 0) (by simp); simpa using this
      have l0 : ∀ h, aLoad h true 6 (.fp (tcs (a :: l))) = some ⟨.agg (tc a), h, .none⟩ := fun h => by have := ld_args (l := a :: l) (i := 0) (by simp) h; simpa using this
      have l1 : ∀ h, aLoad h true 6 (.fp (tcs (b :: m))) = some ⟨.agg (tc b), h, .none⟩ := fun h => by have := ld_args (l := b :: m) (i := 0) (by simp) h; simpa using this
      have wo := hP a (by simp) b (okm.get (by simp)) (wfm.get (by simp))
      simp only [a96_l6, a96_1, wpo_u, s3, reduceIte, Nat.reduceEqDiff, aBin, aInt, negIf, Option.some.injEq, exists_eq_left', Option.map_some, Option.bind_some, g0, g1, n0, n1, z0, z1, aPick]
      refine wpc_draw_k ?_
      simp only [s3, reduceIte, Nat.reduceEqDiff, aBin, aInt, negIf, Option.some.injEq, exists_eq_left', Option.map_some, Option.bind_some, k3, a96_2, g0, g1, x0, x1, l0, l1, wc_eq (wo _)]
      refine ⟨rfl, ?_⟩
      by_cases c3 : ordF a b = 0
      · have z3 : (ordF a b != 0) = false := by simpa using c3
        have eo : ordL (a :: l) (b :: m) = ordL l m := by
          rw [ordL, if_neg c0, if_neg c1, if_neg (by omega)]
        obtain ⟨t0, s0, q0⟩ := k0.tail
        obtain ⟨t1, s1, q1⟩ := k1.tail
        simp only [a96_3, s3, reduceIte, Nat.reduceEqDiff, aBin, aInt, negIf, Option.some.injEq, exists_eq_left', Option.map_some, Option.bind_some, z3]
        refine wpc_draw_k ?_
        simp only [s3, reduceIte, Nat.reduceEqDiff, aBin, aInt, negIf, Option.some.injEq, exists_eq_left', Option.map_some, Option.bind_some, k3, a96_5, g0, g1, s0, s1]
        refine ⟨rfl, ?_⟩
        subst hbb
        have e7 : ∀ (x : Tm) (l : List Tm), l.length ≠ 0 → lastNot7 l = lastNot7 (x :: l) := by
          intro x l hl
          cases l with
          | nil => exact absurd rfl hl
          | cons y l => rfl
        refine ih m _ (fun e => c0 (by rw [e]; rfl)) (fun e => c1 (by rw [e]; rfl)) (fun t x => hP t (by simp [x])) okm.2 wfm.2 ?_ ?_ fun σ' => ⟨fun x g e => (hQ σ').1 x g (by rw [eo]; exact e), fun l' m' p1 p2 p3 p4 p5 p6 p7 p8 p9 p10 => (hQ σ').2 l' m' (fun t x => by simp [p1 t x]) (fun t x => by simp [p2 t x]) (by rw [p3]; exact e7 a l c0) (by rw [p4]; exact e7 b m c1) p5 p6 p7 (by rw [eo]; exact p8) p9 p10⟩
        · simp only [get_put, reduceIte, Nat.reduceEqDiff]; exact q0
        · simp only [get_put, reduceIte, Nat.reduceEqDiff]; exact q1
      · have z3 : (ordF a b != 0) = true := by simpa using c3
        simp only [a96_3, a96_4, s3, reduceIte, Nat.reduceEqDiff, aBin, aInt, negIf, Option.some.injEq, exists_eq_left', Option.map_some, Option.bind_some, z3]
        exact (hQ _).1 (ordF a b) (by simp only [get_put, reduceIte, Nat.reduceEqDiff]) (by rw [ordL, if_neg c0, if_neg c1, if_pos c3])
def KindsOk : Prop := ∀ a b : Tm, a.kind ≠ b.kind → ∀ h, WC env 53 [.agg (tc a), .agg (tc b)] h (fun o => o = .ret ⟨.int .i64 (cmpI a.kind b.kind), h, .none⟩)
theorem lists_spec (kinds : KindsOk) (f1 f2 : Option Bool) (l m : List Tm) (hl : l ≠ []) (hm : m ≠ []) (l7 : lastNot7 l = true) (m7 : lastNot7 m = true) (hP : ∀ t, t ∈ l → OrdOk t) (okm : Oks m) (wfm : Wfs m) (h : Heap) : WC env 96 [slAV f1 l.length (tcs l), slAV f2 m.length (tcs m)] h (fun o => o = .ret ⟨.int .i64 (ordL l m), h, .none⟩) := by
  refine call_pure rfl rfl rfl (by simp only [AV.noRefs, noRef_sl _ _ (noRef_tcs _), Bool.and_self]) ?_
  simp only [a96, a96_0, Slots.ofList, wpc_draw, s3, reduceIte, Nat.reduceEqDiff, aBin, aInt, negIf, Option.some.injEq, exists_eq_left', Option.map_some, Option.bind_some]
  refine lists_loop l m _ hl hm hP okm wfm ?_ ?_ fun σ' => ⟨fun x g e => ?_, fun l' m' p1 p2 p3 p4 p5 p6 p7 p8 p9 p10 => ?_⟩
  · simp only [get_put, reduceIte, Nat.reduceEqDiff]; exact sl_of _ _
  · simp only [get_put, reduceIte, Nat.reduceEqDiff]; exact sl_of _ _
  · simp only [wpc_draw, s3, reduceIte, Nat.reduceEqDiff, aBin, aInt, negIf, Option.some.injEq, exists_eq_left', Option.map_some, Option.bind_some]
    exact finI g (by rw [e])
  · obtain ⟨v0, g0⟩ : ∃ v, σ'.get 0 = v := ⟨_, rfl⟩
    obtain ⟨v1, g1⟩ : ∃ v, σ'.get 1 = v := ⟨_, rfl⟩
    rw [g0] at p9
    rw [g1] at p10
    obtain ⟨a, wa, ha⟩ := left_spec p9 p5 Heap.empty
    obtain ⟨b, wb, hb⟩ := left_spec p10 p6 Heap.empty
    have wo : WC env 53 [.agg (tc a), .agg (tc b)] Heap.empty (fun o => o = .ret ⟨.int .i64 (ordL l m), .empty, .none⟩) := by
      rw [p8]
      rcases ha with ⟨x, rfl, rfl⟩ | ⟨n0, f, rfl⟩
      · rcases hb with ⟨y, rfl, rfl⟩ | ⟨n1, g, rfl⟩
        · have : ordL [a] [b] = ordF a b := by simp [ordL]
          rw [this]
          exact hP a (p1 a (by simp)) b (okm.get (p2 b (by simp))) (wfm.get (p2 b (by simp))) _
        · have h7 : a.kind ≠ 7 := by
            rw [l7, lastNot7] at p3
            simpa using p3
          match m', n1 with
          | b :: b' :: m', n1 =>
            have : ordL [a] (b :: b' :: m') = cmpI a.kind 7 := by simp [ordL]
            rw [this]
            exact kinds a (.mk 7 0 [] 0 none [] (some g) (b :: b' :: m')) h7 _
      · rcases hb with ⟨y, rfl, rfl⟩ | ⟨n1, g, rfl⟩
        · have h7 : b.kind ≠ 7 := by
            rw [m7, lastNot7] at p4
            simpa using p4
          match l', n0 with
          | a :: a' :: l', n0 =>
            have : ordL (a :: a' :: l') [b] = cmpI 7 b.kind := by simp [ordL]
            rw [this]
            exact kinds (.mk 7 0 [] 0 none [] (some f) (a :: a' :: l')) b (fun e => h7 e.symm) _
        · omega
    simp only [a96_7, a96_8, wpc_draw, s3, reduceIte, Nat.reduceEqDiff, aBin, aInt, negIf, Option.some.injEq, exists_eq_left', Option.map_some, Option.bind_some, wp1_callv', callvK_fn, g0, g1, wc_eq wa, wc_eq wb, wc_eq wo]
    exact finI (by simp only [get_put, reduceIte, Nat.reduceEqDiff]) rfl
theorem ord_kinds : KindsOk := by
  intro a b hk h
  rcases a with ⟨k, i, s, c, nf, ns, af, ar⟩
  rcases b with ⟨k', i', s', c', nf', ns', af', ar'⟩
  have hk : k ≠ k' := hk
  refine call_pure rfl rfl rfl (by simp only [AV.noRefs, AV.noRef, noRef_tc, Bool.and_self]) ?_
  obtain ⟨ca, ea⟩ : ∃ ca, ca = tc (.mk k i s c nf ns af ar) := ⟨_, rfl⟩
  obtain ⟨cb, eb⟩ : ∃ cb, cb = tc (.mk k' i' s' c' nf' ns' af' ar') := ⟨_, rfl⟩
  rw [← ea, ← eb]
  obtain ⟨nv, env'⟩ : ∃ nv, nv = slAV nf ns.length (u32s ns) := ⟨_, rfl⟩
  obtain ⟨av, eav⟩ : ∃ av, av = slAV af ar.length (tcs ar) := ⟨_, rfl⟩
  obtain ⟨nv2, env2⟩ : ∃ nv, nv = slAV nf' ns'.length (u32s ns') := ⟨_, rfl⟩
  obtain ⟨av2, eav2⟩ : ∃ av, av = slAV af' ar'.length (tcs ar') := ⟨_, rfl⟩
  have ea' : ca = [.int .i64 k, .int .i64 i, .str s, .int .u32 c, nv, av] := by rw [ea, env', eav]; rfl
  have eb' : cb = [.int .i64 k', .int .i64 i', .str s', .int .u32 c', nv2, av2] := by rw [eb, env2, eav2]; rfl
  obtain ⟨h1, eh1⟩ : ∃ h1, h1 = Heap.empty.new ca := ⟨_, rfl⟩
  have ho1 : HeapOk h1 := by rw [eh1]; exact HeapOk.empty.new _
  have a1' : h1.at_ Heap.empty.next 0 = some ca := by rw [eh1]; exact at_new _
  obtain ⟨h2, eh2⟩ : ∃ h2, h2 = h1.new cb := ⟨_, rfl⟩
  have a2' : h2.at_ Heap.empty.next 0 = some ca := by rw [eh2]; exact (le_new ho1 _).2 _ _ _ a1'
  have b2' : h2.at_ h1.next 0 = some cb := by rw [eh2]; exact at_new _
  have y1 : (AV.agg ca).row = some ca := rfl
  have y2 : ca.length = 6 := by rw [ea']; rfl
  have y3 : (AV.agg cb).row = some cb := rfl
  have y4 : cb.length = 6 := by rw [eb']; rfl
  rw [ea'] at a2'
  rw [eb'] at b2'
  have p0 := ld60 a2'
  have p1 := ld61 a2'
  have p2 := ld62 a2'
  have p3 := ld63 a2'
  have p4 := ld64 a2'
  have p5 := ld65 a2'
  have q0 := ld60 b2'
  have q1 := ld61 b2'
  have q2 := ld62 b2'
  have q3 := ld63 b2'
  have q4 := ld64 b2'
  have q5 := ld65 b2'
  have z : (k != k') = true := by simpa using hk
  simp only [a53, a53_0, a53_1, a53_2, Slots.ofList, s3, reduceIte, Nat.reduceEqDiff, aBin, aInt, negIf, Option.some.injEq, exists_eq_left', Option.map_some, Option.bind_some, y1, y2, y3, y4, ← eh1, ← eh2, aFieldAddr, Nat.zero_add, Int.reduceBEq, Int.reduceBNe, p0, q0, z, wc_eq (cmp88 _ _ _)]
  exact finI (x := cmpI k k') (by simp only [get_put, reduceIte, Nat.reduceEqDiff]) rfl
theorem ord_k1 (i : Int) (s : List UInt8) (c : Int) (nf : Option Bool) (ns : List Int) (af : Option Bool) (ar : List Tm) (i' : Int) (s' : List UInt8) (c' : Int) (nf' : Option Bool) (ns' : List Int) (af' : Option Bool) (ar' : List Tm) (h : Heap) : WC env 53 [.agg (tc (.mk 1 i s c nf ns af ar)), .agg (tc (.mk 1 i' s' c' nf' ns' af' ar'))] h (fun o => o = .ret ⟨.int .i64 (ordF (.mk 1 i s c nf ns af ar) (.mk 1 i' s' c' nf' ns' af' ar')), h, .none⟩) := by
  refine call_pure rfl rfl rfl (by simp only [AV.noRefs, AV.noRef, noRef_tc, Bool.and_self]) ?_
  obtain ⟨ca, ea⟩ : ∃ ca, ca = tc (.mk 1 i s c nf ns af ar) := ⟨_, rfl⟩
  obtain ⟨cb, eb⟩ : ∃ cb, cb = tc (.mk 1 i' s' c' nf' ns' af' ar') := ⟨_, rfl⟩
  rw [← ea, ← eb]
  obtain ⟨nv, env'⟩ : ∃ nv, nv = slAV nf ns.length (u32s ns) := ⟨_, rfl⟩
  obtain ⟨av, eav⟩ : ∃ av, av = slAV af ar.length (tcs ar) := ⟨_, rfl⟩
  obtain ⟨nv2, env2⟩ : ∃ nv, nv = slAV nf' ns'.length (u32s ns') := ⟨_, rfl⟩
  obtain ⟨av2, eav2⟩ : ∃ av, av = slAV af' ar'.length (tcs ar') := ⟨_, rfl⟩
  have ea' : ca = [.int .i64 1, .int .i64 i, .str s, .int .u32 c, nv, av] := by rw [ea, env', eav]; rfl
  have eb' : cb = [.int .i64 1, .int .i64 i', .str s', .int .u32 c', nv2, av2] := by rw [eb, env2, eav2]; rfl
  obtain ⟨h1, eh1⟩ : ∃ h1, h1 = Heap.empty.new ca := ⟨_, rfl⟩
  have ho1 : HeapOk h1 := by rw [eh1]; exact HeapOk.empty.new _
  have a1' : h1.at_ Heap.empty.next 0 = some ca := by rw [eh1]; exact at_new _
  obtain ⟨h2, eh2⟩ : ∃ h2, h2 = h1.new cb := ⟨_, rfl⟩
  have a2' : h2.at_ Heap.empty.next 0 = some ca := by rw [eh2]; exact (le_new ho1 _).2 _ _ _ a1'
  have b2' : h2.at_ h1.next 0 = some cb := by rw [eh2]; exact at_new _
  have y1 : (AV.agg ca).row = some ca := rfl
  have y2 : ca.length = 6 := by rw [ea']; rfl
  have y3 : (AV.agg cb).row = some cb := rfl
  have y4 : cb.length = 6 := by rw [eb']; rfl
  rw [ea'] at a2'
  rw [eb'] at b2'
  have p0 := ld60 a2'
  have p1 := ld61 a2'
  have p2 := ld62 a2'
  have p3 := ld63 a2'
  have p4 := ld64 a2'
  have p5 := ld65 a2'
  have q0 := ld60 b2'
  have q1 := ld61 b2'
  have q2 := ld62 b2'
  have q3 := ld63 b2'
  have q4 := ld64 b2'
  have q5 := ld65 b2'
  have e : ordF (.mk 1 i s c nf ns af ar) (.mk 1 i' s' c' nf' ns' af' ar') = cmpI i i' := by simp [ordF]
  simp only [a53, a53_0, a53_1, a53_3, a53_4, Slots.ofList, s3, reduceIte, Nat.reduceEqDiff, aBin, aInt, negIf, Option.some.injEq, exists_eq_left', Option.map_some, Option.bind_some, y1, y2, y3, y4, ← eh1, ← eh2, aFieldAddr, Nat.zero_add, Int.reduceBEq, Int.reduceBNe, p0, q0, a53_10, p1, q1, wc_eq (cmp89 _ _ _)]
  exact finI (by simp only [get_put, reduceIte, Nat.reduceEqDiff]; rw [e]) rfl
theorem ord_k2 (i : Int) (s : List UInt8) (c : Int) (nf : Option Bool) (ns : List Int) (af : Option Bool) (ar : List Tm) (i' : Int) (s' : List UInt8) (c' : Int) (nf' : Option Bool) (ns' : List Int) (af' : Option Bool) (ar' : List Tm) (h : Heap) : WC env 53 [.agg (tc (.mk 2 i s c nf ns af ar)), .agg (tc (.mk 2 i' s' c' nf' ns' af' ar'))] h (fun o => o = .ret ⟨.int .i64 (ordF (.mk 2 i s c nf ns af ar) (.mk 2 i' s' c' nf' ns' af' ar')), h, .none⟩) := by
  refine call_pure rfl rfl rfl (by simp only [AV.noRefs, AV.noRef, noRef_tc, Bool.and_self]) ?_
  obtain ⟨ca, ea⟩ : ∃ ca, ca = tc (.mk 2 i s c nf ns af ar) := ⟨_, rfl⟩
  obtain ⟨cb, eb⟩ : ∃ cb, cb = tc (.mk 2 i' s' c' nf' ns' af' ar') := ⟨_, rfl⟩
  rw [← ea, ← eb]
  obtain ⟨nv, env'⟩ : ∃ nv, nv = slAV nf ns.length (u32s ns) := ⟨_, rfl⟩
  obtain ⟨av, eav⟩ : ∃ av, av = slAV af ar.length (tcs ar) := ⟨_, rfl⟩
  obtain ⟨nv2, env2⟩ : ∃ nv, nv = slAV nf' ns'.length (u32s ns') := ⟨_, rfl⟩
  obtain ⟨av2, eav2⟩ : ∃ av, av = slAV af' ar'.length (tcs ar') := ⟨_, rfl⟩
  have ea' : ca = [.int .i64 2, .int .i64 i, .str s, .int .u32 c, nv, av] := by rw [ea, env', eav]; rfl
  have eb' : cb = [.int .i64 2, .int .i64 i', .str s', .int .u32 c', nv2, av2] := by rw [eb, env2, eav2]; rfl
  obtain ⟨h1, eh1⟩ : ∃ h1, h1 = Heap.empty.new ca := ⟨_, rfl⟩
  have ho1 : HeapOk h1 := by rw [eh1]; exact HeapOk.empty.new _
  have a1' : h1.at_ Heap.empty.next 0 = some ca := by rw [eh1]; exact at_new _
  obtain ⟨h2, eh2⟩ : ∃ h2, h2 = h1.new cb := ⟨_, rfl⟩
  have a2' : h2.at_ Heap.empty.next 0 = some ca := by rw [eh2]; exact (le_new ho1 _).2 _ _ _ a1'
  have b2' : h2.at_ h1.next 0 = some cb := by rw [eh2]; exact at_new _
  have y1 : (AV.agg ca).row = some ca := rfl
  have y2 : ca.length = 6 := by rw [ea']; rfl
  have y3 : (AV.agg cb).row = some cb := rfl
  have y4 : cb.length = 6 := by rw [eb']; rfl
  rw [ea'] at a2'
  rw [eb'] at b2'
  have p0 := ld60 a2'
  have p1 := ld61 a2'
  have p2 := ld62 a2'
  have p3 := ld63 a2'
  have p4 := ld64 a2'
  have p5 := ld65 a2'
  have q0 := ld60 b2'
  have q1 := ld61 b2'
  have q2 := ld62 b2'
  have q3 := ld63 b2'
  have q4 := ld64 b2'
  have q5 := ld65 b2'
  have e : ordF (.mk 2 i s c nf ns af ar) (.mk 2 i' s' c' nf' ns' af' ar') = cmpS s s' := by simp [ordF]
  simp only [a53, a53_0, a53_1, a53_3, a53_4, a53_5, Slots.ofList, s3, reduceIte, Nat.reduceEqDiff, aBin, aInt, negIf, Option.some.injEq, exists_eq_left', Option.map_some, Option.bind_some, y1, y2, y3, y4, ← eh1, ← eh2, aFieldAddr, Nat.zero_add, Int.reduceBEq, Int.reduceBNe, p0, q0, a53_11, p2, q2, wc_eq (cmp90 _ _ _)]
  exact finI (by simp only [get_put, reduceIte, Nat.reduceEqDiff]; rw [e]) rfl
theorem ord_k3 (i : Int) (s : List UInt8) (c : Int) (nf : Option Bool) (ns : List Int) (af : Option Bool) (ar : List Tm) (i' : Int) (s' : List UInt8) (c' : Int) (nf' : Option Bool) (ns' : List Int) (af' : Option Bool) (ar' : List Tm) (hl : ns.length < 9223372036854775808) (hm : ns'.length < 9223372036854775808) (h : Heap) : WC env 53 [.agg (tc (.mk 3 i s c nf ns af ar)), .agg (tc (.mk 3 i' s' c' nf' ns' af' ar'))] h (fun o => o = .ret ⟨.int .i64 (ordF (.mk 3 i s c nf ns af ar) (.mk 3 i' s' c' nf' ns' af' ar')), h, .none⟩) := by
  refine call_pure rfl rfl rfl (by simp only [AV.noRefs, AV.noRef, noRef_tc, Bool.and_self]) ?_
  obtain ⟨ca, ea⟩ : ∃ ca, ca = tc (.mk 3 i s c nf ns af ar) := ⟨_, rfl⟩
  obtain ⟨cb, eb⟩ : ∃ cb, cb = tc (.mk 3 i' s' c' nf' ns' af' ar') := ⟨_, rfl⟩
  rw [← ea, ← eb]
  obtain ⟨nv, env'⟩ : ∃ nv, nv = slAV nf ns.length (u32s ns) := ⟨_, rfl⟩
  obtain ⟨av, eav⟩ : ∃ av, av = slAV af ar.length (tcs ar) := ⟨_, rfl⟩
  obtain ⟨nv2, env2⟩ : ∃ nv, nv = slAV nf' ns'.length (u32s ns') := ⟨_, rfl⟩
  obtain ⟨av2, eav2⟩ : ∃ av, av = slAV af' ar'.length (tcs ar') := ⟨_, rfl⟩
  have ea' : ca = [.int .i64 3, .int .i64 i, .str s, .int .u32 c, nv, av] := by rw [ea, env', eav]; rfl
  have eb' : cb = [.int .i64 3, .int .i64 i', .str s', .int .u32 c', nv2, av2] := by rw [eb, env2, eav2]; rfl
  obtain ⟨h1, eh1⟩ : ∃ h1, h1 = Heap.empty.new ca := ⟨_, rfl⟩
  have ho1 : HeapOk h1 := by rw [eh1]; exact HeapOk.empty.new _
  have a1' : h1.at_ Heap.empty.next 0 = some ca := by rw [eh1]; exact at_new _
  obtain ⟨h2, eh2⟩ : ∃ h2, h2 = h1.new cb := ⟨_, rfl⟩
  have a2' : h2.at_ Heap.empty.next 0 = some ca := by rw [eh2]; exact (le_new ho1 _).2 _ _ _ a1'
  have b2' : h2.at_ h1.next 0 = some cb := by rw [eh2]; exact at_new _
  have y1 : (AV.agg ca).row = some ca := rfl
  have y2 : ca.length = 6 := by rw [ea']; rfl
  have y3 : (AV.agg cb).row = some cb := rfl
  have y4 : cb.length = 6 := by rw [eb']; rfl
  rw [ea'] at a2'
  rw [eb'] at b2'
  have p0 := ld60 a2'
  have p1 := ld61 a2'
  have p2 := ld62 a2'
  have p3 := ld63 a2'
  have p4 := ld64 a2'
  have p5 := ld65 a2'
  have q0 := ld60 b2'
  have q1 := ld61 b2'
  have q2 := ld62 b2'
  have q3 := ld63 b2'
  have q4 := ld64 b2'
  have q5 := ld65 b2'
  have e : ordF (.mk 3 i s c nf ns af ar) (.mk 3 i' s' c' nf' ns' af' ar') = orI [cmpS s s', cmpI c c', cmpNs ns ns'] := by simp [ordF]
  have wn : ∀ h, WC env 93 [nv, nv2] h (fun o => o = .ret ⟨.int .i64 (cmpNs ns ns'), h, .none⟩) := fun h => by rw [env', env2]; exact nums_spec _ _ _ _ hl hm h
  simp only [a53, a53_0, a53_1, a53_3, a53_4, a53_5, a53_6, Slots.ofList, s3, reduceIte, Nat.reduceEqDiff, aBin, aInt, negIf, Option.some.injEq, exists_eq_left', Option.map_some, Option.bind_some, y1, y2, y3, y4, ← eh1, ← eh2, aFieldAddr, Nat.zero_add, Int.reduceBEq, Int.reduceBNe, p0, q0]
  refine wpc_draw_k ?_
  simp only [Slots.ofList, s3, reduceIte, Nat.reduceEqDiff, aBin, aInt, negIf, Option.some.injEq, exists_eq_left', Option.map_some, Option.bind_some, y1, y2, y3, y4, ← eh1, ← eh2, aFieldAddr, Nat.zero_add, Int.reduceBEq, Int.reduceBNe, k3, a53_12, p2, p3, p4, q2, q3, q4, wc_eq (cmp90 _ _ _), wc_eq (cmp92 _ _ _), wc_eq (wn _), fill3, len3, Nat.reduceMul, wc_eq (or3 _ _ _ _)]
  refine ⟨rfl, ?_⟩
  exact finI (by simp only [get_put, reduceIte, Nat.reduceEqDiff]; rw [e]) rfl
theorem ord_k4 (i : Int) (s : List UInt8) (c : Int) (nf : Option Bool) (ns : List Int) (af : Option Bool) (ar : List Tm) (i' : Int) (s' : List UInt8) (c' : Int) (nf' : Option Bool) (ns' : List Int) (af' : Option Bool) (ar' : List Tm) (hl : ns.length < 9223372036854775808) (hm : ns'.length < 9223372036854775808) (h : Heap) : WC env 53 [.agg (tc (.mk 4 i s c nf ns af ar)), .agg (tc (.mk 4 i' s' c' nf' ns' af' ar'))] h (fun o => o = .ret ⟨.int .i64 (ordF (.mk 4 i s c nf ns af ar) (.mk 4 i' s' c' nf' ns' af' ar')), h, .none⟩) := by
  refine call_pure rfl rfl rfl (by simp only [AV.noRefs, AV.noRef, noRef_tc, Bool.and_self]) ?_
  obtain ⟨ca, ea⟩ : ∃ ca, ca = tc (.mk 4 i s c nf ns af ar) := ⟨_, rfl⟩
  obtain ⟨cb, eb⟩ : ∃ cb, cb = tc (.mk 4 i' s' c' nf' ns' af' ar') := ⟨_, rfl⟩
  rw [← ea, ← eb]
  obtain ⟨nv, env'⟩ : ∃ nv, nv = slAV nf ns.length (u32s ns) := ⟨_, rfl⟩
  obtain ⟨av, eav⟩ : ∃ av, av = slAV af ar.length (tcs ar) := ⟨_, rfl⟩
  obtain ⟨nv2, env2⟩ : ∃ nv, nv = slAV nf' ns'.length (u32s ns') := ⟨_, rfl⟩
  obtain ⟨av2, eav2⟩ : ∃ av, av = slAV af' ar'.length (tcs ar') := ⟨_, rfl⟩
  have ea' : ca = [.int .i64 4, .int .i64 i, .str s, .int .u32 c, nv, av] := by rw [ea, env', eav]; rfl
  have eb' : cb = [.int .i64 4, .int .i64 i', .str s', .int .u32 c', nv2, av2] := by rw [eb, env2, eav2]; rfl
  obtain ⟨h1, eh1⟩ : ∃ h1, h1 = Heap.empty.new ca := ⟨_, rfl⟩
  have ho1 : HeapOk h1 := by rw [eh1]; exact HeapOk.empty.new _
  have a1' : h1.at_ Heap.empty.next 0 = some ca := by rw [eh1]; exact at_new _
  obtain ⟨h2, eh2⟩ : ∃ h2, h2 = h1.new cb := ⟨_, rfl⟩
  have a2' : h2.at_ Heap.empty.next 0 = some ca := by rw [eh2]; exact (le_new ho1 _).2 _ _ _ a1'
  have b2' : h2.at_ h1.next 0 = some cb := by rw [eh2]; exact at_new _
  have y1 : (AV.agg ca).row = some ca := rfl
  have y2 : ca.length = 6 := by rw [ea']; rfl
  have y3 : (AV.agg cb).row = some cb := rfl
  have y4 : cb.length = 6 := by rw [eb']; rfl
  rw [ea'] at a2'
  rw [eb'] at b2'
  have p0 := ld60 a2'
  have p1 := ld61 a2'
  have p2 := ld62 a2'
  have p3 := ld63 a2'
  have p4 := ld64 a2'
  have p5 := ld65 a2'
  have q0 := ld60 b2'
  have q1 := ld61 b2'
  have q2 := ld62 b2'
  have q3 := ld63 b2'
  have q4 := ld64 b2'
  have q5 := ld65 b2'
  have e : ordF (.mk 4 i s c nf ns af ar) (.mk 4 i' s' c' nf' ns' af' ar') = orI [cmpS s s', cmpI c c', cmpNs ns ns'] := by simp [ordF]
  have wn : ∀ h, WC env 93 [nv, nv2] h (fun o => o = .ret ⟨.int .i64 (cmpNs ns ns'), h, .none⟩) := fun h => by rw [env', env2]; exact nums_spec _ _ _ _ hl hm h
  simp only [a53, a53_0, a53_1, a53_3, a53_4, a53_5, a53_6, a53_7, Slots.ofList, s3, reduceIte, Nat.reduceEqDiff, aBin, aInt, negIf, Option.some.injEq, exists_eq_left', Option.map_some, Option.bind_some, y1, y2, y3, y4, ← eh1, ← eh2, aFieldAddr, Nat.zero_add, Int.reduceBEq, Int.reduceBNe, p0, q0]
  refine wpc_draw_k ?_
  simp only [Slots.ofList, s3, reduceIte, Nat.reduceEqDiff, aBin, aInt, negIf, Option.some.injEq, exists_eq_left', Option.map_some, Option.bind_some, y1, y2, y3, y4, ← eh1, ← eh2, aFieldAddr, Nat.zero_add, Int.reduceBEq, Int.reduceBNe, k3, a53_12, p2, p3, p4, q2, q3, q4, wc_eq (cmp90 _ _ _), wc_eq (cmp92 _ _ _), wc_eq (wn _), fill3, len3, Nat.reduceMul, wc_eq (or3 _ _ _ _)]
  refine ⟨rfl, ?_⟩
  exact finI (by simp only [get_put, reduceIte, Nat.reduceEqDiff]; rw [e]) rfl
theorem ord_k5 (i : Int) (s : List UInt8) (c : Int) (nf : Option Bool) (ns : List Int) (af : Option Bool) (ar : List Tm) (i' : Int) (s' : List UInt8) (c' : Int) (nf' : Option Bool) (ns' : List Int) (af' : Option Bool) (ar' : List Tm) (hP : ∀ t, t ∈ ar → OrdOk t) (okm : Oks ar') (wfm : Wfs ar') (hl : ar.length < 9223372036854775808) (hm : ar'.length < 9223372036854775808) (h : Heap) : WC env 53 [.agg (tc (.mk 5 i s c nf ns af ar)), .agg (tc (.mk 5 i' s' c' nf' ns' af' ar'))] h (fun o => o = .ret ⟨.int .i64 (ordF (.mk 5 i s c nf ns af ar) (.mk 5 i' s' c' nf' ns' af' ar')), h, .none⟩) := by
  refine call_pure rfl rfl rfl (by simp only [AV.noRefs, AV.noRef, noRef_tc, Bool.and_self]) ?_
  obtain ⟨ca, ea⟩ : ∃ ca, ca = tc (.mk 5 i s c nf ns af ar) := ⟨_, rfl⟩
  obtain ⟨cb, eb⟩ : ∃ cb, cb = tc (.mk 5 i' s' c' nf' ns' af' ar') := ⟨_, rfl⟩
  rw [← ea, ← eb]
  obtain ⟨nv, env'⟩ : ∃ nv, nv = slAV nf ns.length (u32s ns) := ⟨_, rfl⟩
  obtain ⟨av, eav⟩ : ∃ av, av = slAV af ar.length (tcs ar) := ⟨_, rfl⟩
  obtain ⟨nv2, env2⟩ : ∃ nv, nv = slAV nf' ns'.length (u32s ns') := ⟨_, rfl⟩
  obtain ⟨av2, eav2⟩ : ∃ av, av = slAV af' ar'.length (tcs ar') := ⟨_, rfl⟩
  have ea' : ca = [.int .i64 5, .int .i64 i, .str s, .int .u32 c, nv, av] := by rw [ea, env', eav]; rfl
  have eb' : cb = [.int .i64 5, .int .i64 i', .str s', .int .u32 c', nv2, av2] := by rw [eb, env2, eav2]; rfl
  obtain ⟨h1, eh1⟩ : ∃ h1, h1 = Heap.empty.new ca := ⟨_, rfl⟩
  have ho1 : HeapOk h1 := by rw [eh1]; exact HeapOk.empty.new _
  have a1' : h1.at_ Heap.empty.next 0 = some ca := by rw [eh1]; exact at_new _
  obtain ⟨h2, eh2⟩ : ∃ h2, h2 = h1.new cb := ⟨_, rfl⟩
  have a2' : h2.at_ Heap.empty.next 0 = some ca := by rw [eh2]; exact (le_new ho1 _).2 _ _ _ a1'
  have b2' : h2.at_ h1.next 0 = some cb := by rw [eh2]; exact at_new _
  have y1 : (AV.agg ca).row = some ca := rfl
  have y2 : ca.length = 6 := by rw [ea']; rfl
  have y3 : (AV.agg cb).row = some cb := rfl
  have y4 : cb.length = 6 := by rw [eb']; rfl
  rw [ea'] at a2'
  rw [eb'] at b2'
  have p0 := ld60 a2'
  have p1 := ld61 a2'
  have p2 := ld62 a2'
  have p3 := ld63 a2'
  have p4 := ld64 a2'
  have p5 := ld65 a2'
  have q0 := ld60 b2'
  have q1 := ld61 b2'
  have q2 := ld62 b2'
  have q3 := ld63 b2'
  have q4 := ld64 b2'
  have q5 := ld65 b2'
  have e : ordF (.mk 5 i s c nf ns af ar) (.mk 5 i' s' c' nf' ns' af' ar') = orI [cmpI ar.length ar'.length, ordFs ar ar'] := by simp [ordF]
  have wn : ∀ h, WC env 95 [av, av2, .fn (.func 53) [] []] h (fun o => o = .ret ⟨.int .i64 (ordFs ar ar'), h, .none⟩) := fun h => by rw [eav, eav2]; exact cmpf_spec _ _ _ _ hP okm wfm hl hm h
  have al : ∀ h, aLenOp false h av = some ⟨.int .i64 ar.length, h, .none⟩ := fun h => by rw [eav]; exact len_sl _ _ _ (fun _ => trivial) h
  have al2 : ∀ h, aLenOp false h av2 = some ⟨.int .i64 ar'.length, h, .none⟩ := fun h => by rw [eav2]; exact len_sl _ _ _ (fun _ => trivial) h
  simp only [a53, a53_0, a53_1, a53_3, a53_4, a53_5, a53_6, a53_7, a53_8, Slots.ofList, s3, reduceIte, Nat.reduceEqDiff, aBin, aInt, negIf, Option.some.injEq, exists_eq_left', Option.map_some, Option.bind_some, y1, y2, y3, y4, ← eh1, ← eh2, aFieldAddr, Nat.zero_add, Int.reduceBEq, Int.reduceBNe, p0, q0]
  refine wpc_draw_k ?_
  simp only [Slots.ofList, s3, reduceIte, Nat.reduceEqDiff, aBin, aInt, negIf, Option.some.injEq, exists_eq_left', Option.map_some, Option.bind_some, y1, y2, y3, y4, ← eh1, ← eh2, aFieldAddr, Nat.zero_add, Int.reduceBEq, Int.reduceBNe, k3, a53_13, p5, q5, al, al2, wc_eq (cmp94 _ _ _), wc_eq (wn _), fill2, len2, Nat.reduceMul, wc_eq (or2 _ _ _)]
  refine ⟨rfl, ?_⟩
  exact finI (by simp only [get_put, reduceIte, Nat.reduceEqDiff]; rw [e]) rfl
theorem ord_k7 (i : Int) (s : List UInt8) (c : Int) (nf : Option Bool) (ns : List Int) (af : Option Bool) (ar : List Tm) (i' : Int) (s' : List UInt8) (c' : Int) (nf' : Option Bool) (ns' : List Int) (af' : Option Bool) (ar' : List Tm) (hP : ∀ t, t ∈ ar → OrdOk t) (okm : Oks ar') (wfm : Wfs ar') (hl : ar ≠ []) (hm : ar' ≠ []) (l7 : lastNot7 ar = true) (m7 : lastNot7 ar' = true) (h : Heap) : WC env 53 [.agg (tc (.mk 7 i s c nf ns af ar)), .agg (tc (.mk 7 i' s' c' nf' ns' af' ar'))] h (fun o => o = .ret ⟨.int .i64 (ordF (.mk 7 i s c nf ns af ar) (.mk 7 i' s' c' nf' ns' af' ar')), h, .none⟩) := by
  refine call_pure rfl rfl rfl (by simp only [AV.noRefs, AV.noRef, noRef_tc, Bool.and_self]) ?_
  obtain ⟨ca, ea⟩ : ∃ ca, ca = tc (.mk 7 i s c nf ns af ar) := ⟨_, rfl⟩
  obtain ⟨cb, eb⟩ : ∃ cb, cb = tc (.mk 7 i' s' c' nf' ns' af' ar') := ⟨_, rfl⟩
  rw [← ea, ← eb]
  obtain ⟨nv, env'⟩ : ∃ nv, nv = slAV nf ns.length (u32s ns) := ⟨_, rfl⟩
  obtain ⟨av, eav⟩ : ∃ av, av = slAV af ar.length (tcs ar) := ⟨_, rfl⟩
  obtain ⟨nv2, env2⟩ : ∃ nv, nv = slAV nf' ns'.length (u32s ns') := ⟨_, rfl⟩
  obtain ⟨av2, eav2⟩ : ∃ av, av = slAV af' ar'.length (tcs ar') := ⟨_, rfl⟩
  have ea' : ca = [.int .i64 7, .int .i64 i, .str s, .int .u32 c, nv, av] := by rw [ea, env', eav]; rfl
  have eb' : cb = [.int .i64 7, .int .i64 i', .str s', .int .u32 c', nv2, av2] := by rw [eb, env2, eav2]; rfl
  obtain ⟨h1, eh1⟩ : ∃ h1, h1 = Heap.empty.new ca := ⟨_, rfl⟩
  have ho1 : HeapOk h1 := by rw [eh1]; exact HeapOk.empty.new _
  have a1' : h1.at_ Heap.empty.next 0 = some ca := by rw [eh1]; exact at_new _
  obtain ⟨h2, eh2⟩ : ∃ h2, h2 = h1.new cb := ⟨_, rfl⟩
  have a2' : h2.at_ Heap.empty.next 0 = some ca := by rw [eh2]; exact (le_new ho1 _).2 _ _ _ a1'
  have b2' : h2.at_ h1.next 0 = some cb := by rw [eh2]; exact at_new _
  have y1 : (AV.agg ca).row = some ca := rfl
  have y2 : ca.length = 6 := by rw [ea']; rfl
  have y3 : (AV.agg cb).row = some cb := rfl
  have y4 : cb.length = 6 := by rw [eb']; rfl
  rw [ea'] at a2'
  rw [eb'] at b2'
  have p0 := ld60 a2'
  have p1 := ld61 a2'
  have p2 := ld62 a2'
  have p3 := ld63 a2'
  have p4 := ld64 a2'
  have p5 := ld65 a2'
  have q0 := ld60 b2'
  have q1 := ld61 b2'
  have q2 := ld62 b2'
  have q3 := ld63 b2'
  have q4 := ld64 b2'
  have q5 := ld65 b2'
  have e : ordF (.mk 7 i s c nf ns af ar) (.mk 7 i' s' c' nf' ns' af' ar') = ordL ar ar' := by simp [ordF]
  have wn : ∀ h, WC env 96 [av, av2] h (fun o => o = .ret ⟨.int .i64 (ordL ar ar'), h, .none⟩) := fun h => by rw [eav, eav2]; exact lists_spec ord_kinds _ _ _ _ hl hm l7 m7 hP okm wfm h
  simp only [a53, a53_0, a53_1, a53_3, a53_4, a53_5, a53_6, a53_7, a53_8, a53_9, Slots.ofList, s3, reduceIte, Nat.reduceEqDiff, aBin, aInt, negIf, Option.some.injEq, exists_eq_left', Option.map_some, Option.bind_some, y1, y2, y3, y4, ← eh1, ← eh2, aFieldAddr, Nat.zero_add, Int.reduceBEq, Int.reduceBNe, p0, q0, a53_14, p5, q5, wc_eq (wn _)]
  exact finI (by simp only [get_put, reduceIte, Nat.reduceEqDiff]; rw [e]) rfl
theorem ord_k0 (k : Int) (i : Int) (s : List UInt8) (c : Int) (nf : Option Bool) (ns : List Int) (af : Option Bool) (ar : List Tm) (i' : Int) (s' : List UInt8) (c' : Int) (nf' : Option Bool) (ns' : List Int) (af' : Option Bool) (ar' : List Tm) (hk : ∀ j : Int, 1 ≤ j → j ≤ 7 → j ≠ 6 → k ≠ j) (h : Heap) : WC env 53 [.agg (tc (.mk k i s c nf ns af ar)), .agg (tc (.mk k i' s' c' nf' ns' af' ar'))] h (fun o => o = .ret ⟨.int .i64 (ordF (.mk k i s c nf ns af ar) (.mk k i' s' c' nf' ns' af' ar')), h, .none⟩) := by
  refine call_pure rfl rfl rfl (by simp only [AV.noRefs, AV.noRef, noRef_tc, Bool.and_self]) ?_
  obtain ⟨ca, ea⟩ : ∃ ca, ca = tc (.mk k i s c nf ns af ar) := ⟨_, rfl⟩
  obtain ⟨cb, eb⟩ : ∃ cb, cb = tc (.mk k i' s' c' nf' ns' af' ar') := ⟨_, rfl⟩
  rw [← ea, ← eb]
  obtain ⟨nv, env'⟩ : ∃ nv, nv = slAV nf ns.length (u32s ns) := ⟨_, rfl⟩
  obtain ⟨av, eav⟩ : ∃ av, av = slAV af ar.length (tcs ar) := ⟨_, rfl⟩
  obtain ⟨nv2, env2⟩ : ∃ nv, nv = slAV nf' ns'.length (u32s ns') := ⟨_, rfl⟩
  obtain ⟨av2, eav2⟩ : ∃ av, av = slAV af' ar'.length (tcs ar') := ⟨_, rfl⟩
  have ea' : ca = [.int .i64 k, .int .i64 i, .str s, .int .u32 c, nv, av] := by rw [ea, env', eav]; rfl
  have eb' : cb = [.int .i64 k, .int .i64 i', .str s', .int .u32 c', nv2, av2] := by rw [eb, env2, eav2]; rfl
  obtain ⟨h1, eh1⟩ : ∃ h1, h1 = Heap.empty.new ca := ⟨_, rfl⟩
  have ho1 : HeapOk h1 := by rw [eh1]; exact HeapOk.empty.new _
  have a1' : h1.at_ Heap.empty.next 0 = some ca := by rw [eh1]; exact at_new _
  obtain ⟨h2, eh2⟩ : ∃ h2, h2 = h1.new cb := ⟨_, rfl⟩
  have a2' : h2.at_ Heap.empty.next 0 = some ca := by rw [eh2]; exact (le_new ho1 _).2 _ _ _ a1'
  have b2' : h2.at_ h1.next 0 = some cb := by rw [eh2]; exact at_new _
  have y1 : (AV.agg ca).row = some ca := rfl
  have y2 : ca.length = 6 := by rw [ea']; rfl
  have y3 : (AV.agg cb).row = some cb := rfl
  have y4 : cb.length = 6 := by rw [eb']; rfl
  rw [ea'] at a2'
  rw [eb'] at b2'
  have p0 := ld60 a2'
  have p1 := ld61 a2'
  have p2 := ld62 a2'
  have p3 := ld63 a2'
  have p4 := ld64 a2'
  have p5 := ld65 a2'
  have q0 := ld60 b2'
  have q1 := ld61 b2'
  have q2 := ld62 b2'
  have q3 := ld63 b2'
  have q4 := ld64 b2'
  have q5 := ld65 b2'
  have z : (k != k) = false := by simp
  have k1 : (k == 1) = false := by simpa using hk 1 (by omega) (by omega) (by omega)
  have k2 : (k == 2) = false := by simpa using hk 2 (by omega) (by omega) (by omega)
  have k3 : (k == 3) = false := by simpa using hk 3 (by omega) (by omega) (by omega)
  have k4 : (k == 4) = false := by simpa using hk 4 (by omega) (by omega) (by omega)
  have k5 : (k == 5) = false := by simpa using hk 5 (by omega) (by omega) (by omega)
  have k7 : (k == 7) = false := by simpa using hk 7 (by omega) (by omega) (by omega)
  have e : ordF (.mk k i s c nf ns af ar) (.mk k i' s' c' nf' ns' af' ar') = 0 := by
    simp only [ordF, ne_eq, not_true, if_false, hk 1 (by omega) (by omega) (by omega), hk 2 (by omega) (by omega) (by omega), hk 3 (by omega) (by omega) (by omega), hk 4 (by omega) (by omega) (by omega), hk 5 (by omega) (by omega) (by omega), hk 7 (by omega) (by omega) (by omega), or_self]
  simp only [a53, a53_0, a53_1, a53_3, a53_4, a53_5, a53_6, a53_7, a53_8, a53_9, Slots.ofList, s3, reduceIte, Nat.reduceEqDiff, aBin, aInt, negIf, Option.some.injEq, exists_eq_left', Option.map_some, Option.bind_some, y1, y2, y3, y4, ← eh1, ← eh2, aFieldAddr, Nat.zero_add, Int.reduceBEq, Int.reduceBNe, p0, q0, z, k1, k2, k3, k4, k5, k7, a53_15]
  exact finI (by simp only [get_put, reduceIte, Nat.reduceEqDiff]; rw [e]) rfl
theorem wf_list {i : Int} {s : List UInt8} {c : Int} {nf : Option Bool} {ns : List Int} {af : Option Bool} {ar : List Tm} (w : Wf (.mk 7 i s c nf ns af ar)) : ar ≠ [] ∧ lastNot7 ar = true := by
  have h := w.1.1
  rw [kindOk] at h
  simp at h
  exact ⟨fun e => by rw [e] at h; simp at h, h.2⟩
theorem ord_spec : ∀ a : Tm, a.Ok → Wf a → OrdOk a := by
  refine tm_ind fun k i s c nf ns af ar ih ok wf b okb wfb h => ?_
  rcases b with ⟨k', i', s', c', nf', ns', af', ar'⟩
  obtain ⟨_, sn, sa, sr⟩ := ok.lens
  obtain ⟨_, sn', sa', sr'⟩ := okb.lens
  have hP : ∀ t, t ∈ ar → OrdOk t := fun t m => ih t m (sr.get m) (wf.2.get m)
  by_cases hk : k = k'
  · subst hk
    by_cases e1 : k = 1
    · subst e1; exact ord_k1 i s c nf ns af ar i' s' c' nf' ns' af' ar' h
    by_cases e2 : k = 2
    · subst e2; exact ord_k2 i s c nf ns af ar i' s' c' nf' ns' af' ar' h
    by_cases e3 : k = 3
    · subst e3; exact ord_k3 i s c nf ns af ar i' s' c' nf' ns' af' ar' sn sn' h
    by_cases e4 : k = 4
    · subst e4; exact ord_k4 i s c nf ns af ar i' s' c' nf' ns' af' ar' sn sn' h
    by_cases e5 : k = 5
    · subst e5; exact ord_k5 i s c nf ns af ar i' s' c' nf' ns' af' ar' hP sr' wfb.2 sa sa' h
    by_cases e7 : k = 7
    · subst e7; exact ord_k7 i s c nf ns af ar i' s' c' nf' ns' af' ar' hP sr' wfb.2 (wf_list wf).1 (wf_list wfb).1 (wf_list wf).2 (wf_list wfb).2 h
    exact ord_k0 k i s c nf ns af ar i' s' c' nf' ns' af' ar' (fun j h1 h2 h3 => by omega) h
  · have := ord_kinds (.mk k i s c nf ns af ar) (.mk k' i' s' c' nf' ns' af' ar') hk h
    have e : ordF (.mk k i s c nf ns af ar) (.mk k' i' s' c' nf' ns' af' ar') = cmpI k k' := by rw [ordF, if_pos hk]
    rw [e]; exact this
end Go.Bf

set_option linter.unusedVariables false
set_option linter.unusedSimpArgs false
set_option maxRecDepth 20000
namespace Go.Bf
open Go.AM
theorem rcmp_spec (a b : Int) (h : Heap) : WC env 70 [.int .i64 a, .int .i64 b] h (fun o => o = .ret ⟨.int .i64 (cmpI a b), h, .none⟩) := by
  refine call_pure rfl rfl rfl rfl ?_
  by_cases c1 : a < b
  · have z1 : (a < b) = True := eq_true c1
    have e : cmpI a b = -1 := if_pos c1
    simp only [a70, a70_0, a70_1, a70_2, Slots.ofList, wpc_draw, s3, reduceIte, Nat.reduceEqDiff, aBin, aInt, negIf, Option.some.injEq, exists_eq_left', Option.map_some, Option.bind_some, z1]
    exact finI (by simp only [get_put, reduceIte, Nat.reduceEqDiff]; rw [e]) rfl
  have z1 : (a < b) = False := eq_false c1
  by_cases c2 : a > b
  · have z2 : (a > b) = True := eq_true c2
    have e : cmpI a b = 1 := by rw [cmpI, if_neg c1, if_pos c2]
    simp only [a70, a70_0, a70_1, a70_3, a70_4, Slots.ofList, wpc_draw, s3, reduceIte, Nat.reduceEqDiff, aBin, aInt, negIf, Option.some.injEq, exists_eq_left', Option.map_some, Option.bind_some, z1, z2]
    exact finI (by simp only [get_put, reduceIte, Nat.reduceEqDiff]; rw [e]) rfl
  have z2 : (a > b) = False := eq_false c2
  have e : cmpI a b = 0 := by rw [cmpI, if_neg c1, if_neg c2]
  simp only [a70, a70_0, a70_1, a70_3, a70_5, Slots.ofList, wpc_draw, s3, reduceIte, Nat.reduceEqDiff, aBin, aInt, negIf, Option.some.injEq, exists_eq_left', Option.map_some, Option.bind_some, z1, z2]
  exact finI (by simp only [get_put, reduceIte, Nat.reduceEqDiff]; rw [e]) rfl
def cmpL : List UInt8 → List UInt8 → Int
  | [], [] => 0
  | [], _ :: _ => -1
  | _ :: _, [] => 1
  | a :: l, b :: m => if a.toNat < b.toNat then -1 else if a.toNat > b.toNat then 1 else cmpL l m
theorem cmpL_eq : ∀ a b : List UInt8, cmpL a b = cmpS a b
  | [], [] => by rw [cmpL, cmpS]; rfl
  | [], _ :: _ => by rw [cmpL, cmpS]; rfl
  | _ :: _, [] => by rw [cmpL, cmpS]; rfl
  | a :: l, b :: m => by
    have ih := cmpL_eq l m
    rw [cmpL, cmpS, Op.bytesLess]
    have lt : (decide (a < b)) = decide (a.toNat < b.toNat) := by rw [decide_eq_decide]; exact UInt8.lt_iff_toNat_lt
    by_cases h1 : a.toNat < b.toNat
    · rw [if_pos h1, lt, decide_eq_true h1]; rfl
    · rw [if_neg h1, lt, decide_eq_false h1, Bool.false_or]
      by_cases h2 : a.toNat > b.toNat
      · have hne : (a == b) = false := by
          cases e : (a == b) with
          | false => rfl
          | true => have := eq_of_beq e; subst this; omega
        have hne2 : (a :: l == b :: m) = false := by rw [List.cons_beq_cons, hne]; rfl
        rw [if_pos h2, hne, hne2]; rfl
      · have e : a = b := UInt8.toNat_inj.1 (by omega)
        subst e
        rw [if_neg h2, ih, cmpS, List.cons_beq_cons, beq_self_eq_true, Bool.true_and, Bool.true_and]
theorem scmp_loop {a b : List UInt8} (ha : a.length < 9223372036854775808) (hb : b.length < 9223372036854775808) {h : Heap} {Q : AExit → St → Prop} : ∀ (f i : Nat) (σ : Slots), a.length - i < f → i ≤ a.length → i ≤ b.length → σ.get 0 = .str a → σ.get 1 = .str b → σ.get 5 = .int .i64 i →
    (∀ σ', (∀ x, σ'.get 4 = .int .i64 x → x = cmpL (a.drop i) (b.drop i) → Q .ret ⟨σ', h⟩) ∧ (σ'.get 0 = .str a → σ'.get 1 = .str b → cmpL (a.drop i) (b.drop i) = cmpI a.length b.length → Q (.exit 0) ⟨σ', h⟩)) → WPr env a71_l8 ⟨σ, h⟩ Q := by
  intro f
  induction f with
  | zero => intro i σ h1; omega
  | succ f ih =>
    intro i σ hf hi hi' g0 g1 g5 hQ
    refine wpr_round' fun bb hbb => ?_
    have n1 : ∀ h, aLenOp true h (.str a) = some ⟨.int .i64 a.length, h, .none⟩ := fun h => rfl
    have n2 : ∀ h, aLenOp true h (.str b) = some ⟨.int .i64 b.length, h, .none⟩ := fun h => rfl
    by_cases c1 : i < a.length
    case neg =>
      have z0 : ((i : Int) < (a.length : Int)) = False := eq_false (by omega)
      simp only [a71_l8, a71_2, wpo_u, s3, reduceIte, Nat.reduceEqDiff, aBin, aInt, negIf, Option.some.injEq, exists_eq_left', Option.map_some, Option.bind_some, g0, g1, g5, n1, n2, z0, aPick]
      refine (hQ _).2 (by simp only [get_put, reduceIte, Nat.reduceEqDiff, g0]) (by simp only [get_put, reduceIte, Nat.reduceEqDiff, g1]) ?_
      rw [List.drop_of_length_le (show a.length ≤ i by omega)]
      cases e : b.drop i with
      | nil =>
        have : b.length ≤ i := List.drop_eq_nil_iff.1 e
        rw [cmpL, cmpI, if_neg (by omega), if_neg (by omega)]
      | cons x y =>
        have : ¬ b.length ≤ i := fun c => by rw [List.drop_of_length_le c] at e; cases e
        rw [cmpL, cmpI, if_pos (by omega)]
    have z0 : ((i : Int) < (a.length : Int)) = True := eq_true (by omega)
    have hd1 : a.drop i = a[i] :: a.drop (i + 1) := List.drop_eq_getElem_cons c1
    by_cases c2 : i < b.length
    case neg =>
      have z1 : ((i : Int) < (b.length : Int)) = False := eq_false (by omega)
      simp only [a71_l8, a71_2, wpo_u, s3, reduceIte, Nat.reduceEqDiff, aBin, aInt, negIf, Option.some.injEq, exists_eq_left', Option.map_some, Option.bind_some, g0, g1, g5, n1, n2, z0, z1, aPick]
      refine (hQ _).2 (by simp only [get_put, reduceIte, Nat.reduceEqDiff, g0]) (by simp only [get_put, reduceIte, Nat.reduceEqDiff, g1]) ?_
      rw [hd1, List.drop_of_length_le (show b.length ≤ i by omega), cmpL, cmpI, if_neg (by omega), if_pos (by omega)]
    have z1 : ((i : Int) < (b.length : Int)) = True := eq_true (by omega)
    have hd2 : b.drop i = b[i] :: b.drop (i + 1) := List.drop_eq_getElem_cons c2
    have zi : IntKind.wrap .i64 ((i : Int) + 1) = ((i + 1 : Nat) : Int) := wrap_nat (by omega) (by omega)
    have x1 := idxS_at c1
    have x2 := idxS_at c2
    rw [hd1, hd2, cmpL] at hQ
    simp only [a71_l8, a71_2, wpo_u, s3, reduceIte, Nat.reduceEqDiff, aBin, aInt, negIf, Option.some.injEq, exists_eq_left', Option.map_some, Option.bind_some, g0, g1, g5, n1, n2, z0, z1, aPick]
    refine wpc_draw_k ?_
    by_cases c3 : a[i].toNat < b[i].toNat
    · have z3 : ((a[i].toNat : Int) < (b[i].toNat : Int)) = True := eq_true (by omega)
      rw [if_pos c3] at hQ
      simp only [s3, reduceIte, Nat.reduceEqDiff, aBin, aInt, negIf, Option.some.injEq, exists_eq_left', Option.map_some, Option.bind_some, k3, a71_3, a71_4, wp1_idxStr, op_idxStr, g0, g1, g5, x1, x2, z3]
      refine ⟨rfl, ?_⟩
      exact (hQ _).1 (-1) (by simp only [get_put, reduceIte, Nat.reduceEqDiff]) rfl
    have z3 : ((a[i].toNat : Int) < (b[i].toNat : Int)) = False := eq_false (by omega)
    rw [if_neg c3] at hQ
    simp only [s3, reduceIte, Nat.reduceEqDiff, aBin, aInt, negIf, Option.some.injEq, exists_eq_left', Option.map_some, Option.bind_some, k3, a71_3, wp1_idxStr, op_idxStr, g0, g1, g5, x1, x2, z3]
    refine ⟨rfl, ?_⟩
    refine wpc_draw_k ?_
    by_cases c4 : a[i].toNat > b[i].toNat
    · have z4 : ((a[i].toNat : Int) > (b[i].toNat : Int)) = True := eq_true (by omega)
      rw [if_pos c4] at hQ
      simp only [s3, reduceIte, Nat.reduceEqDiff, aBin, aInt, negIf, Option.some.injEq, exists_eq_left', Option.map_some, Option.bind_some, k3, a71_5, a71_6, wp1_idxStr, op_idxStr, g0, g1, g5, x1, x2, z4]
      refine ⟨rfl, ?_⟩
      exact (hQ _).1 1 (by simp only [get_put, reduceIte, Nat.reduceEqDiff]) rfl
    have z4 : ((a[i].toNat : Int) > (b[i].toNat : Int)) = False := eq_false (by omega)
    rw [if_neg c4] at hQ
    simp only [s3, reduceIte, Nat.reduceEqDiff, aBin, aInt, negIf, Option.some.injEq, exists_eq_left', Option.map_some, Option.bind_some, k3, a71_5, a71_7, wp1_idxStr, op_idxStr, g0, g1, g5, x1, x2, z4, zi]
    refine ⟨rfl, ?_⟩
    subst hbb
    refine ih (i + 1) _ (by omega) (by omega) (by omega) ?_ ?_ ?_ hQ
    · simp only [get_put, reduceIte, Nat.reduceEqDiff, g0]
    · simp only [get_put, reduceIte, Nat.reduceEqDiff, g1]
    · simp only [get_put, reduceIte, Nat.reduceEqDiff]
theorem scmp_spec (a b : List UInt8) (ha : a.length < 9223372036854775808) (hb : b.length < 9223372036854775808) (h : Heap) : WC env 71 [.str a, .str b] h (fun o => o = .ret ⟨.int .i64 (cmpS a b), h, .none⟩) := by
  refine call_pure rfl rfl rfl rfl ?_
  have n1 : ∀ h, aLenOp true h (.str a) = some ⟨.int .i64 a.length, h, .none⟩ := fun h => rfl
  have n2 : ∀ h, aLenOp true h (.str b) = some ⟨.int .i64 b.length, h, .none⟩ := fun h => rfl
  simp only [a71, a71_0, a71_1, Slots.ofList, s3, reduceIte, Nat.reduceEqDiff, aBin, aInt, negIf, Option.some.injEq, exists_eq_left', Option.map_some, Option.bind_some]
  refine scmp_loop ha hb (a.length + 1) 0 _ (by omega) (by omega) (by omega) ?_ ?_ ?_ fun σ' => ⟨fun x g e => ?_, fun p0 p1 e => ?_⟩
  · simp only [get_put, reduceIte, Nat.reduceEqDiff]
  · simp only [get_put, reduceIte, Nat.reduceEqDiff]
  · simp only [get_put, reduceIte, Nat.reduceEqDiff]; rfl
  · simp only [s3, reduceIte, Nat.reduceEqDiff, aBin, aInt, negIf, Option.some.injEq, exists_eq_left', Option.map_some, Option.bind_some]
    exact finI g (by rw [e, List.drop_zero, List.drop_zero, cmpL_eq])
  · rw [List.drop_zero, List.drop_zero, cmpL_eq] at e
    by_cases c1 : a.length < b.length
    · have z1 : ((a.length : Int) < (b.length : Int)) = True := eq_true (by omega)
      rw [cmpI, if_pos (by omega)] at e
      simp only [a71_9, a71_10, s3, reduceIte, Nat.reduceEqDiff, aBin, aInt, negIf, Option.some.injEq, exists_eq_left', Option.map_some, Option.bind_some, p0, p1, n1, n2, z1]
      exact finI (by simp only [get_put, reduceIte, Nat.reduceEqDiff]; rw [e]) rfl
    have z1 : ((a.length : Int) < (b.length : Int)) = False := eq_false (by omega)
    by_cases c2 : a.length > b.length
    · have z2 : ((a.length : Int) > (b.length : Int)) = True := eq_true (by omega)
      rw [cmpI, if_neg (by omega), if_pos (by omega)] at e
      simp only [a71_9, a71_11, a71_12, s3, reduceIte, Nat.reduceEqDiff, aBin, aInt, negIf, Option.some.injEq, exists_eq_left', Option.map_some, Option.bind_some, p0, p1, n1, n2, z1, z2]
      exact finI (by simp only [get_put, reduceIte, Nat.reduceEqDiff]; rw [e]) rfl
    · have z2 : ((a.length : Int) > (b.length : Int)) = False := eq_false (by omega)
      rw [cmpI, if_neg (by omega), if_neg (by omega)] at e
      simp only [a71_9, a71_11, a71_13, s3, reduceIte, Nat.reduceEqDiff, aBin, aInt, negIf, Option.some.injEq, exists_eq_left', Option.map_some, Option.bind_some, p0, p1, n1, n2, z1, z2]
      exact finI (by simp only [get_put, reduceIte, Nat.reduceEqDiff]; rw [e]) rfl
/-- a term in a cell is answered -/
theorem finC {s : St} {n i : Nat} {t : Tm} {h : Heap} {Q : COut → Prop} (hg : s.σ.get n = .ptr i 0 0) (hat : s.h.at_ i 0 = some (tc t)) (hq : Q (.ret ⟨.agg (tc t), h, .none⟩)) : pureQ env [.cell n true 6] h Q .ret s :=
  ⟨[.agg (tc t)], .agg (tc t), by simp only [Env.results, Option.map_some, hg, ld_t hat, Option.bind_some], (frz_noRef (v := .agg (tc t)) (noRef_agg t)).2 rfl, hq⟩
/-- a term that stands for a list, or what is left behind its elements -/
inductive LT : Tm → List Tm → Prop
  | list (i : Int) (s : List UInt8) (c : Int) (nf : Option Bool) (ns : List Int) (af : Option Bool) (l : List Tm) (h : 2 ≤ l.length) : LT (.mk 7 i s c nf ns af l) l
  | last (t : Tm) (h : t.kind ≠ 7) : LT t [t]
theorem rest_spec {t x : Tm} {l : List Tm} (k : LT t (x :: l)) (hl : l ≠ []) (hlen : l.length < 9223372036854775807) (h7 : lastNot7 l = true) (h : Heap) : ∃ t', WC env 113 [.agg (tc t)] h (fun o => o = .ret ⟨.agg (tc t'), h, .none⟩) ∧ LT t' l := by
  cases k with
  | last _ _ => exact absurd rfl hl
  | list i s c nf ns af _ h2 =>
    obtain ⟨t, et⟩ : ∃ t : Tm, t = .mk 7 i s c nf ns af (x :: l) := ⟨_, rfl⟩
    rw [← et]
    have ec : tc t = [.int .i64 7, .int .i64 i, .str s, .int .u32 c, slAV nf ns.length (u32s ns), slAV af (x :: l).length (tcs (x :: l))] := by rw [et]; rfl
    obtain ⟨h1, eh1⟩ : ∃ h1, h1 = Heap.empty.new (tc t) := ⟨_, rfl⟩
    have ho1 : HeapOk h1 := by rw [eh1]; exact HeapOk.empty.new _
    have a1 : h1.at_ Heap.empty.next 0 = some (tc t) := by rw [eh1]; exact at_new _
    rw [ec] at a1
    obtain ⟨h2', eh2⟩ : ∃ h2, h2 = h1.new [.int .i64 0, .int .i64 0, .str [], .int .u32 0, .nils, .nils] := ⟨_, rfl⟩
    have a2 := (le_new ho1 [.int .i64 0, .int .i64 0, .str [], .int .u32 0, .nils, .nils]).2 _ _ _ a1
    have y1 : (AV.agg (tc t)).row = some (tc t) := rfl
    have y2 : (tc t).length = 6 := tc_length t
    have l5 := ld65 a2
    have nl : ∀ h, aLenOp false h (slAV af (x :: l).length (tcs (x :: l))) = some ⟨.int .i64 (x :: l).length, h, .none⟩ := fun h => len_sl _ _ _ (fun _ => trivial) h
    have hr : AV.noRefs [.agg (tc t)] = true := by simp only [AV.noRefs, AV.noRef, noRef_tc, Bool.and_self]
    by_cases c1 : l.length = 1
    · match l, c1 with
      | [y], _ =>
        have h7' : y.kind ≠ 7 := by rw [lastNot7] at h7; simpa using h7
        refine ⟨y, call_pure rfl rfl rfl hr ?_, .last y h7'⟩
        have z1 : (((x :: [y]).length : Int) == 2) = true := rfl
        have ix : aIdxAddr 6 (slAV af (x :: [y]).length (tcs (x :: [y]))) (.int .i64 1) = some (.fp ((tcs [x, y]).drop (1 * 6))) := idx_args (l := [x, y]) (i := 1) (by simp)
        have lx : ∀ h, aLoad h true 6 (.fp ((tcs [x, y]).drop (1 * 6))) = some ⟨.agg (tc y), h, .none⟩ := fun h => ld_args (l := [x, y]) (i := 1) (by simp) h
        obtain ⟨h3, s3', ho3, le3, a3⟩ := box_t ho1 y
        simp only [a113, a113_0, a113_1, a113_2, Slots.ofList, s3, reduceIte, Nat.reduceEqDiff, aBin, aInt, negIf, Option.some.injEq, exists_eq_left', Option.map_some, Option.bind_some, y1, y2, ← eh1, aFieldAddr, Nat.zero_add, l5, nl, z1, ix, lx, s3']
        exact finC (by simp only [get_put, reduceIte, Nat.reduceEqDiff]) a3 rfl
    · have hl2 : 2 ≤ l.length := by
        cases l with
        | nil => exact absurd rfl hl
        | cons y l => have e : (y :: l).length = l.length + 1 := rfl; omega
      have z1 : (((x :: l).length : Int) == 2) = false := by simp; omega
      obtain ⟨v', sv, kv⟩ := (sl_of af (x :: l)).tail
      obtain ⟨f', ev⟩ := kv.eq
      refine ⟨.mk 7 0 [] 0 none [] f' l, call_pure rfl rfl rfl hr ?_, .list _ _ _ _ _ _ _ hl2⟩
      obtain ⟨h3, s3', ho3, le3, a3⟩ := box_t ho1 (.mk 7 0 [] 0 none [] f' l)
      have y3 : aFill [.int .i64 0, .int .i64 0, .str [], .int .u32 0, .nils, .nils] [(0, 1, .int .i64 7), (5, 1, v')] = some (tc (.mk 7 0 [] 0 none [] f' l)) := by
        rw [ev]
        have : ∀ w : AV, SN w → aFill [.int .i64 0, .int .i64 0, .str [], .int .u32 0, .nils, .nils] [(0, 1, .int .i64 7), (5, 1, w)] = some [.int .i64 7, .int .i64 0, .str [], .int .u32 0, .nils, w] := by
          intro w hw; cases hw <;> rfl
        exact this _ (slF f' l.length (tcs l)).any
      simp only [a113, a113_0, a113_1, a113_3, Slots.ofList, s3, reduceIte, Nat.reduceEqDiff, aBin, aInt, negIf, Option.some.injEq, exists_eq_left', Option.map_some, Option.bind_some, y1, y2, ← eh1, aFieldAddr, Nat.zero_add, l5, nl, z1, sv, y3, s3']
      exact finC (by simp only [get_put, reduceIte, Nat.reduceEqDiff]) a3 rfl
end Go.Bf

set_option linter.unusedVariables false
set_option linter.unusedSimpArgs false
set_option maxRecDepth 20000
namespace Go.Bf
open Go.AM
def ROrdOk (a : Tm) : Prop := ∀ b, b.Ok → Wf b → ∀ h, WC env 40 [.agg (tc a), .agg (tc b)] h (fun o => o = .ret ⟨.int .i64 (ordF a b), h, .none⟩)
def RKinds : Prop := ∀ a b : Tm, a.kind ≠ b.kind → ∀ h, WC env 40 [.agg (tc a), .agg (tc b)] h (fun o => o = .ret ⟨.int .i64 (cmpI a.kind b.kind), h, .none⟩)
theorem LT.ne {t : Tm} {l : List Tm} (k : LT t l) : l ≠ [] := by
  cases k with
  | list i s c nf ns af l h => intro e; subst e; simp at h
  | last t h => simp
theorem lt_order {ta tb : Tm} {l m : List Tm} (kinds : RKinds) (ka : LT ta l) (kb : LT tb m) (hno : ¬ (ta.kind = 7 ∧ tb.kind = 7)) (hP : ∀ t, t ∈ l → ROrdOk t) (okm : Oks m) (wfm : Wfs m) (h : Heap) :
    WC env 40 [.agg (tc ta), .agg (tc tb)] h (fun o => o = .ret ⟨.int .i64 (ordL l m), h, .none⟩) := by
  cases ka with
  | list i s c nf ns af _ h2 =>
    cases kb with
    | list _ _ _ _ _ _ _ _ => exact absurd ⟨rfl, rfl⟩ hno
    | last _ h7 =>
      match l, h2 with
      | a :: a' :: l, h2 =>
        have : ordL (a :: a' :: l) [tb] = cmpI 7 tb.kind := by simp [ordL]
        rw [this]
        exact kinds (.mk 7 i s c nf ns af (a :: a' :: l)) tb (fun e => h7 e.symm) h
  | last _ h7 =>
    cases kb with
    | list i s c nf ns af _ h2 =>
      match m, h2 with
      | b :: b' :: m, h2 =>
        have : ordL [ta] (b :: b' :: m) = cmpI ta.kind 7 := by simp [ordL]
        rw [this]
        exact kinds ta (.mk 7 i s c nf ns af (b :: b' :: m)) h7 h
    | last _ h8 =>
      have : ordL [ta] [tb] = ordF ta tb := by simp [ordL]
      rw [this]
      exact hP ta (by simp) tb (okm.get (by simp)) (wfm.get (by simp)) h
theorem rlists_loop (kinds : RKinds) {i2 i3 : Nat} (hne : i2 ≠ i3) {Q : AExit → St → Prop} : ∀ (l m : List Tm) (σ : Slots) (h : Heap) (ta tb : Tm), HeapOk h → h.at_ i2 0 = some (tc ta) → h.at_ i3 0 = some (tc tb) → LT ta l → LT tb m → lastNot7 l = true → lastNot7 m = true → l.length < 9223372036854775807 → m.length < 9223372036854775807 → (∀ t, t ∈ l → ROrdOk t) → Oks m → Wfs m → σ.get 2 = .ptr i2 0 0 → σ.get 3 = .ptr i3 0 0 →
    (∀ σ' h', (∀ x, σ'.get 4 = .int .i64 x → x = ordL l m → Q .ret ⟨σ', h'⟩) ∧ (∀ ta' tb', σ'.get 2 = .ptr i2 0 0 → σ'.get 3 = .ptr i3 0 0 → h'.at_ i2 0 = some (tc ta') → h'.at_ i3 0 = some (tc tb') → (∀ h, WC env 40 [.agg (tc ta'), .agg (tc tb')] h (fun o => o = .ret ⟨.int .i64 (ordL l m), h, .none⟩)) → Q (.exit 0) ⟨σ', h'⟩)) →
    WPr env a72_l7 ⟨σ, h⟩ Q := by
  intro l
  induction l with
  | nil => intro m σ h ta tb _ _ _ k; exact absurd rfl k.ne
  | cons x l ih =>
    intro m σ h ta tb ho h2 h3 ka kb l7 m7 ll ml hP okm wfm g2 g3 hQ
    refine wpr_round' fun bb hbb => ?_
    have la := ld_t h2
    have lb := ld_t h3
    have la0 : aLoad h false 1 (.ptr i2 0 0) = some ⟨.int .i64 ta.kind, h, .read⟩ := by
      cases ta with
      | mk k i s c nf ns af ar => exact ld60 h2
    have lb0 : aLoad h false 1 (.ptr i3 0 0) = some ⟨.int .i64 tb.kind, h, .read⟩ := by
      cases tb with
      | mk k i s c nf ns af ar => exact ld60 h3
    by_cases c1 : ta.kind = 7
    case neg =>
      have z1 : (ta.kind == 7) = false := by simpa using c1
      simp only [a72_l7, a72_1, wpo_u, s3, reduceIte, Nat.reduceEqDiff, aBin, aInt, negIf, Option.some.injEq, exists_eq_left', Option.map_some, Option.bind_some, g2, g3, aFieldAddr, Nat.zero_add, la0, lb0, z1, aPick]
      exact (hQ _ h).2 ta tb (by simp only [get_put, reduceIte, Nat.reduceEqDiff, g2]) (by simp only [get_put, reduceIte, Nat.reduceEqDiff, g3]) h2 h3 (lt_order kinds ka kb (fun e => c1 e.1) hP okm wfm)
    have z1 : (ta.kind == 7) = true := by simpa using c1
    by_cases c2 : tb.kind = 7
    case neg =>
      have z2 : (tb.kind == 7) = false := by simpa using c2
      simp only [a72_l7, a72_1, wpo_u, s3, reduceIte, Nat.reduceEqDiff, aBin, aInt, negIf, Option.some.injEq, exists_eq_left', Option.map_some, Option.bind_some, g2, g3, aFieldAddr, Nat.zero_add, la0, lb0, z1, z2, aPick]
      exact (hQ _ h).2 ta tb (by simp only [get_put, reduceIte, Nat.reduceEqDiff, g2]) (by simp only [get_put, reduceIte, Nat.reduceEqDiff, g3]) h2 h3 (lt_order kinds ka kb (fun e => c2 e.2) hP okm wfm)
    have z2 : (tb.kind == 7) = true := by simpa using c2
    cases m with
    | nil => exact absurd rfl kb.ne
    | cons y m =>
      have hl : l ≠ [] := by
        cases ka with
        | list _ _ _ _ _ _ _ h => intro e; subst e; simp at h
        | last _ h => exact absurd c1 h
      have hm : m ≠ [] := by
        cases kb with
        | list _ _ _ _ _ _ _ h => intro e; subst e; simp at h
        | last _ h => exact absurd c2 h
      have e7 : ∀ (x : Tm) (l : List Tm), l ≠ [] → lastNot7 (x :: l) = lastNot7 l := by
        intro x l hl
        cases l with
        | nil => exact absurd rfl hl
        | cons y l => rfl
      have l7' : lastNot7 l = true := by rw [← e7 x l hl]; exact l7
      have m7' : lastNot7 m = true := by rw [← e7 y m hm]; exact m7
      simp only [List.length_cons] at ll ml
      obtain ⟨ta', wra, ka'⟩ := rest_spec ka hl (by omega) l7' h
      obtain ⟨hA, eA⟩ : ∃ hA, hA = h.upd i2 0 (tc ta') := ⟨_, rfl⟩
      have hoA : HeapOk hA := by rw [eA]; exact ho.upd (at_look.1 h2) _ _
      have hA2 : hA.at_ i2 0 = some (tc ta') := by rw [eA]; exact at_upd
      have hA3 : hA.at_ i3 0 = some (tc tb) := by rw [eA, at_upd_ne (fun e => hne e.symm)]; exact h3
      obtain ⟨tb', wrb, kb'⟩ := rest_spec kb hm (by omega) m7' hA
      obtain ⟨hB, eB⟩ : ∃ hB, hB = hA.upd i3 0 (tc tb') := ⟨_, rfl⟩
      have hoB : HeapOk hB := by rw [eB]; exact hoA.upd (at_look.1 hA3) _ _
      have hB3 : hB.at_ i3 0 = some (tc tb') := by rw [eB]; exact at_upd
      have hB2 : hB.at_ i2 0 = some (tc ta') := by rw [eB, at_upd_ne hne]; exact hA2
      have sa : aStore h 6 (.ptr i2 0 0) (.agg (tc ta')) = some ⟨.undef, hA, .write⟩ := by
        rw [eA]
        cases ta with
        | mk k i s c nf ns af ar => cases ta' with
          | mk k' i' s' c' nf' ns' af' ar' => exact st6 h2
      have lbA := ld_t hA3
      have sb : aStore hA 6 (.ptr i3 0 0) (.agg (tc tb')) = some ⟨.undef, hB, .write⟩ := by
        rw [eB]
        cases tb with
        | mk k i s c nf ns af ar => cases tb' with
          | mk k' i' s' c' nf' ns' af' ar' => exact st6 hA3
      have la5 : ∃ fa, aLoad h false 1 (.ptr i2 0 5) = some ⟨slAV fa (x :: l).length (tcs (x :: l)), h, .read⟩ := by
        cases ka with
        | list i s c nf ns af _ _ => exact ⟨af, ld65 h2⟩
        | last _ h => exact absurd c1 h
      have lb5 : ∃ fb, aLoad h false 1 (.ptr i3 0 5) = some ⟨slAV fb (y :: m).length (tcs (y :: m)), h, .read⟩ := by
        cases kb with
        | list i s c nf ns af _ _ => exact ⟨af, ld65 h3⟩
        | last _ h => exact absurd c2 h
      obtain ⟨fa, la5⟩ := la5
      obtain ⟨fb, lb5⟩ := lb5
      have xa : aIdxAddr 6 (slAV fa (x :: l).length (tcs (x :: l))) (.int .i64 0) = some (.fp (tcs (x :: l))) := by have := idx_args (f := fa) (l := x :: l) (i := 0) (by simp); simpa using this
      have xb : aIdxAddr 6 (slAV fb (y :: m).length (tcs (y :: m))) (.int .i64 0) = some (.fp (tcs (y :: m))) := by have := idx_args (f := fb) (l := y :: m) (i := 0) (by simp); simpa using this
      have lxa : ∀ h, aLoad h true 6 (.fp (tcs (x :: l))) = some ⟨.agg (tc x), h, .none⟩ := fun h => by have := ld_args (l := x :: l) (i := 0) (by simp) h; simpa using this
      have lxb : ∀ h, aLoad h true 6 (.fp (tcs (y :: m))) = some ⟨.agg (tc y), h, .none⟩ := fun h => by have := ld_args (l := y :: m) (i := 0) (by simp) h; simpa using this
      have wo := hP x (by simp) y (okm.get (by simp)) (wfm.get (by simp))
      have l0 : ¬ l.length = 0 := fun e => hl (List.length_eq_zero_iff.1 e)
      have m0 : ¬ m.length = 0 := fun e => hm (List.length_eq_zero_iff.1 e)
      simp only [a72_l7, a72_1, wpo_u, s3, reduceIte, Nat.reduceEqDiff, aBin, aInt, negIf, Option.some.injEq, exists_eq_left', Option.map_some, Option.bind_some, g2, g3, aFieldAddr, Nat.zero_add, la0, lb0, z1, z2, aPick]
      refine wpc_draw_k ?_
      by_cases c3 : ordF x y = 0
      · have z3 : (ordF x y != 0) = false := by simpa using c3
        have eo : ordL (x :: l) (y :: m) = ordL l m := by rw [ordL, if_neg l0, if_neg m0, if_neg (by omega)]
        rw [eo] at hQ
        simp only [s3, reduceIte, Nat.reduceEqDiff, aBin, aInt, negIf, Option.some.injEq, exists_eq_left', Option.map_some, Option.bind_some, k3, a72_2, a72_3, a72_5, a72_6, g2, g3, aFieldAddr, Nat.zero_add, la5, lb5, xa, xb, lxa, lxb, wc_eq (wo _), z3, la, wc_eq wra, sa, lbA, wc_eq wrb, sb]
        refine ⟨rfl, ?_⟩
        subst hbb
        refine ih m _ hB ta' tb' hoB hB2 hB3 ka' kb' l7' m7' (by omega) (by omega) (fun t x => hP t (by simp [x])) okm.2 wfm.2 ?_ ?_ hQ
        · simp only [get_put, reduceIte, Nat.reduceEqDiff, g2]
        · simp only [get_put, reduceIte, Nat.reduceEqDiff, g3]
      · have z3 : (ordF x y != 0) = true := by simpa using c3
        have eo : ordL (x :: l) (y :: m) = ordF x y := by rw [ordL, if_neg l0, if_neg m0, if_pos c3]
        rw [eo] at hQ
        simp only [s3, reduceIte, Nat.reduceEqDiff, aBin, aInt, negIf, Option.some.injEq, exists_eq_left', Option.map_some, Option.bind_some, k3, a72_2, a72_3, a72_4, g2, g3, aFieldAddr, Nat.zero_add, la5, lb5, xa, xb, lxa, lxb, wc_eq (wo _), z3]
        refine ⟨rfl, ?_⟩
        exact (hQ _ h).1 (ordF x y) (by simp only [get_put, reduceIte, Nat.reduceEqDiff]) rfl
theorem rlists_spec (kinds : RKinds) {a b : Tm} {l m : List Tm} (ka : LT a l) (kb : LT b m) (l7 : lastNot7 l = true) (m7 : lastNot7 m = true) (ll : l.length < 9223372036854775807) (ml : m.length < 9223372036854775807) (hP : ∀ t, t ∈ l → ROrdOk t) (okm : Oks m) (wfm : Wfs m) (h : Heap) : WC env 72 [.agg (tc a), .agg (tc b)] h (fun o => o = .ret ⟨.int .i64 (ordL l m), h, .none⟩) := by
  refine call_pure rfl rfl rfl (by simp only [AV.noRefs, AV.noRef, noRef_tc, Bool.and_self]) ?_
  obtain ⟨i2, ei2⟩ : ∃ i2, i2 = Heap.empty.next := ⟨_, rfl⟩
  obtain ⟨h1, eh1⟩ : ∃ h1, h1 = Heap.empty.new (tc a) := ⟨_, rfl⟩
  have ho1 : HeapOk h1 := by rw [eh1]; exact HeapOk.empty.new _
  have a1 : h1.at_ i2 0 = some (tc a) := by rw [eh1, ei2]; exact at_new _
  obtain ⟨i3, ei3⟩ : ∃ i3, i3 = h1.next := ⟨_, rfl⟩
  obtain ⟨h2, eh2⟩ : ∃ h2, h2 = h1.new (tc b) := ⟨_, rfl⟩
  have ho2 : HeapOk h2 := by rw [eh2]; exact ho1.new _
  have a2 : h2.at_ i2 0 = some (tc a) := by rw [eh2]; exact (le_new ho1 _).2 _ _ _ a1
  have b2 : h2.at_ i3 0 = some (tc b) := by rw [eh2, ei3]; exact at_new _
  have hne : i2 ≠ i3 := by have := ho1.lt a1; omega
  have y1 : (AV.agg (tc a)).row = some (tc a) := rfl
  have y2 : (tc a).length = 6 := tc_length a
  have y3 : (AV.agg (tc b)).row = some (tc b) := rfl
  have y4 : (tc b).length = 6 := tc_length b
  simp only [a72, a72_0, Slots.ofList, s3, reduceIte, Nat.reduceEqDiff, aBin, aInt, negIf, Option.some.injEq, exists_eq_left', Option.map_some, Option.bind_some, y1, y2, y3, y4, ← eh1, ← eh2, ← ei2, ← ei3]
  refine rlists_loop kinds hne l m _ h2 a b ho2 a2 b2 ka kb l7 m7 ll ml hP okm wfm ?_ ?_ fun σ' h' => ⟨fun x g e => ?_, fun ta tb g2 g3 q2 q3 w => ?_⟩
  · simp only [get_put, reduceIte, Nat.reduceEqDiff]
  · simp only [get_put, reduceIte, Nat.reduceEqDiff]
  · simp only [s3, reduceIte, Nat.reduceEqDiff, aBin, aInt, negIf, Option.some.injEq, exists_eq_left', Option.map_some, Option.bind_some]
    exact finI g (by rw [e])
  · have la := ld_t q2
    have lb := ld_t q3
    simp only [a72_8, s3, reduceIte, Nat.reduceEqDiff, aBin, aInt, negIf, Option.some.injEq, exists_eq_left', Option.map_some, Option.bind_some, g2, g3, la, lb, wc_eq (w _)]
    exact finI (by simp only [get_put, reduceIte, Nat.reduceEqDiff]) rfl
end Go.Bf

set_option linter.unusedVariables false
set_option linter.unusedSimpArgs false
set_option maxRecDepth 20000
namespace Go.Bf
open Go.AM
theorem conv_u32 {x : Int} (hx : U32 x) (h : Heap) : aConv h (.int .i64) (.int .u32 x) = some ⟨.int .i64 x, h, .none⟩ := by
  obtain ⟨h0, h1⟩ := hx
  obtain ⟨n, rfl⟩ : ∃ n : Nat, x = n := ⟨x.toNat, by omega⟩
  show some (⟨.int .i64 (IntKind.wrap .i64 (n : Int)), h, .none⟩ : OpRes) = _
  rw [wrap_nat (e := (n : Int)) rfl (by omega)]
section
variable {h : Heap} {i2 i3 : Nat} {nf nf' : Option Bool} {ns ns' : List Int}
  (l4 : aLoad h false 1 (.ptr i2 0 4) = some ⟨slAV nf ns.length (u32s ns), h, .read⟩) (l4' : aLoad h false 1 (.ptr i3 0 4) = some ⟨slAV nf' ns'.length (u32s ns'), h, .read⟩)
include l4 l4'
theorem rnums_loop (u1 : ∀ x, x ∈ ns → U32 x) (u2 : ∀ x, x ∈ ns' → U32 x) (hlen : ns.length = ns'.length) (hb : ns.length < 9223372036854775808) {Q : AExit → St → Prop} :
    ∀ (f i : Nat) (σ : Slots) (c : Int), ns.length - i < f → i ≤ ns.length → σ.get 2 = .ptr i2 0 0 → σ.get 3 = .ptr i3 0 0 → σ.get 5 = .int .i64 c → σ.get 6 = .int .i64 i →
    (∀ σ', σ'.get 5 = .int .i64 (if c ≠ 0 then c else cmpNs (ns.drop i) (ns'.drop i)) → Q (.exit 1) ⟨σ', h⟩) → WPr env a40_l17 ⟨σ, h⟩ Q := by
  intro f
  induction f with
  | zero => intro i σ c h1; omega
  | succ f ih =>
    intro i σ c hf hi g2 g3 g5 g6 hQ
    refine wpr_round' fun b hb => ?_
    have nl : ∀ h, aLenOp false h (slAV nf ns.length (u32s ns)) = some ⟨.int .i64 ns.length, h, .none⟩ := fun h => len_sl _ _ _ (fun _ => trivial) h
    by_cases c1 : i < ns.length
    case neg =>
      have z0 : ((i : Int) < (ns.length : Int)) = False := eq_false (by omega)
      simp only [a40_l17, a40_14, wpo_u, s3, reduceIte, Nat.reduceEqDiff, aBin, aInt, negIf, Option.some.injEq, exists_eq_left', Option.map_some, Option.bind_some, g2, g3, g5, g6, aFieldAddr, Nat.zero_add, l4, nl, z0, aPick]
      refine hQ _ ?_
      rw [List.drop_of_length_le (show ns.length ≤ i by omega), List.drop_of_length_le (show ns'.length ≤ i by omega), cmpNs]
      simp only [get_put, reduceIte, Nat.reduceEqDiff, g5]
      split
      · rfl
      · rename_i hc; rw [Decidable.not_not.1 hc]
    have z0 : ((i : Int) < (ns.length : Int)) = True := eq_true (by omega)
    by_cases c2 : c = 0
    case neg =>
      have z1 : (c == 0) = false := by simpa using c2
      rw [if_pos c2] at hQ
      simp only [a40_l17, a40_14, wpo_u, s3, reduceIte, Nat.reduceEqDiff, aBin, aInt, negIf, Option.some.injEq, exists_eq_left', Option.map_some, Option.bind_some, g2, g3, g5, g6, aFieldAddr, Nat.zero_add, l4, nl, z0, z1, aPick]
      exact hQ _ (by simp only [get_put, reduceIte, Nat.reduceEqDiff, g5])
    have z1 : (c == 0) = true := by simpa using c2
    have c3 : i < ns'.length := by omega
    have zi : IntKind.wrap .i64 ((i : Int) + 1) = ((i + 1 : Nat) : Int) := wrap_nat (by omega) (by omega)
    have lx := idx_nums (f := nf) c1
    have ld := ld_nums c1 h
    have lx2 := idx_nums (f := nf') c3
    have ld2 := ld_nums c3 h
    have v1 := conv_u32 (u1 _ (List.getElem_mem c1)) h
    have v2 := conv_u32 (u2 _ (List.getElem_mem c3)) h
    have hd1 : ns.drop i = ns[i] :: ns.drop (i + 1) := List.drop_eq_getElem_cons c1
    have hd2 : ns'.drop i = ns'[i] :: ns'.drop (i + 1) := List.drop_eq_getElem_cons c3
    rw [if_neg (by omega), hd1, hd2, cmpNs] at hQ
    simp only [a40_l17, a40_14, wpo_u, s3, reduceIte, Nat.reduceEqDiff, aBin, aInt, negIf, Option.some.injEq, exists_eq_left', Option.map_some, Option.bind_some, g2, g3, g5, g6, aFieldAddr, Nat.zero_add, l4, nl, z0, z1, aPick]
    refine wpc_draw_k ?_
    simp only [s3, reduceIte, Nat.reduceEqDiff, aBin, aInt, negIf, Option.some.injEq, exists_eq_left', Option.map_some, Option.bind_some, k3, a40_15, a40_16, g2, g3, g6, aFieldAddr, Nat.zero_add, l4, l4', lx, ld, lx2, ld2, v1, v2, wc_eq (rcmp_spec _ _ _), zi]
    refine ⟨rfl, ?_⟩
    subst hb
    refine ih (i + 1) _ (cmpI ns[i] ns'[i]) (by omega) (by omega) ?_ ?_ ?_ ?_ hQ
    · simp only [get_put, reduceIte, Nat.reduceEqDiff, g2]
    · simp only [get_put, reduceIte, Nat.reduceEqDiff, g3]
    · simp only [get_put, reduceIte, Nat.reduceEqDiff]
    · simp only [get_put, reduceIte, Nat.reduceEqDiff]
end
section
variable {h : Heap} {i2 i3 : Nat} {af af' : Option Bool} {ar ar' : List Tm}
  (l5 : aLoad h false 1 (.ptr i2 0 5) = some ⟨slAV af ar.length (tcs ar), h, .read⟩) (l5' : aLoad h false 1 (.ptr i3 0 5) = some ⟨slAV af' ar'.length (tcs ar'), h, .read⟩)
include l5 l5'
theorem rargs_loop (hP : ∀ t, t ∈ ar → ROrdOk t) (okm : Oks ar') (wfm : Wfs ar') (hb : ar.length < 9223372036854775808) {Q : AExit → St → Prop} :
    ∀ (f i : Nat) (σ : Slots) (c : Int), (c = 0 → ar.length = ar'.length) → ar.length - i < f → i ≤ ar.length → σ.get 2 = .ptr i2 0 0 → σ.get 3 = .ptr i3 0 0 → σ.get 7 = .int .i64 c → σ.get 8 = .int .i64 i →
    (∀ σ', σ'.get 7 = .int .i64 (if c ≠ 0 then c else ordFs (ar.drop i) (ar'.drop i)) → Q (.exit 3) ⟨σ', h⟩) → WPr env a40_l25 ⟨σ, h⟩ Q := by
  intro f
  induction f with
  | zero => intro i σ c _ h1; omega
  | succ f ih =>
    intro i σ c hlen hf hi g2 g3 g7 g8 hQ
    refine wpr_round' fun b hb => ?_
    have nl : ∀ h, aLenOp false h (slAV af ar.length (tcs ar)) = some ⟨.int .i64 ar.length, h, .none⟩ := fun h => len_sl _ _ _ (fun _ => trivial) h
    by_cases c1 : i < ar.length
    case neg =>
      have z0 : ((i : Int) < (ar.length : Int)) = False := eq_false (by omega)
      simp only [a40_l25, a40_22, wpo_u, s3, reduceIte, Nat.reduceEqDiff, aBin, aInt, negIf, Option.some.injEq, exists_eq_left', Option.map_some, Option.bind_some, g2, g3, g7, g8, aFieldAddr, Nat.zero_add, l5, nl, z0, aPick]
      refine hQ _ ?_
      simp only [get_put, reduceIte, Nat.reduceEqDiff, g7]
      split
      · rfl
      · rename_i hc
        have hc := Decidable.not_not.1 hc
        have := hlen hc
        rw [List.drop_of_length_le (show ar.length ≤ i by omega), List.drop_of_length_le (show ar'.length ≤ i by omega), ordFs, hc]
    have z0 : ((i : Int) < (ar.length : Int)) = True := eq_true (by omega)
    by_cases c2 : c = 0
    case neg =>
      have z1 : (c == 0) = false := by simpa using c2
      rw [if_pos c2] at hQ
      simp only [a40_l25, a40_22, wpo_u, s3, reduceIte, Nat.reduceEqDiff, aBin, aInt, negIf, Option.some.injEq, exists_eq_left', Option.map_some, Option.bind_some, g2, g3, g7, g8, aFieldAddr, Nat.zero_add, l5, nl, z0, z1, aPick]
      exact hQ _ (by simp only [get_put, reduceIte, Nat.reduceEqDiff, g7])
    have z1 : (c == 0) = true := by simpa using c2
    have hl := hlen c2
    have c3 : i < ar'.length := by omega
    have zi : IntKind.wrap .i64 ((i : Int) + 1) = ((i + 1 : Nat) : Int) := wrap_nat (by omega) (by omega)
    have lx := idx_args (f := af) c1
    have ld := ld_args c1 h
    have lx2 := idx_args (f := af') c3
    have ld2 := ld_args c3 h
    have hd1 : ar.drop i = ar[i] :: ar.drop (i + 1) := List.drop_eq_getElem_cons c1
    have hd2 : ar'.drop i = ar'[i] :: ar'.drop (i + 1) := List.drop_eq_getElem_cons c3
    have wo := hP ar[i] (List.getElem_mem c1) ar'[i] (okm.get (List.getElem_mem c3)) (wfm.get (List.getElem_mem c3))
    rw [if_neg (by omega), hd1, hd2, ordFs] at hQ
    simp only [a40_l25, a40_22, wpo_u, s3, reduceIte, Nat.reduceEqDiff, aBin, aInt, negIf, Option.some.injEq, exists_eq_left', Option.map_some, Option.bind_some, g2, g3, g7, g8, aFieldAddr, Nat.zero_add, l5, nl, z0, z1, aPick]
    refine wpc_draw_k ?_
    simp only [s3, reduceIte, Nat.reduceEqDiff, aBin, aInt, negIf, Option.some.injEq, exists_eq_left', Option.map_some, Option.bind_some, k3, a40_23, a40_24, g2, g3, g8, aFieldAddr, Nat.zero_add, l5, l5', lx, ld, lx2, ld2, wc_eq (wo _), zi]
    refine ⟨rfl, ?_⟩
    subst hb
    refine ih (i + 1) _ (ordF ar[i] ar'[i]) (fun _ => hl) (by omega) (by omega) ?_ ?_ ?_ ?_ hQ
    · simp only [get_put, reduceIte, Nat.reduceEqDiff, g2]
    · simp only [get_put, reduceIte, Nat.reduceEqDiff, g3]
    · simp only [get_put, reduceIte, Nat.reduceEqDiff]
    · simp only [get_put, reduceIte, Nat.reduceEqDiff]
end
theorem rord_kinds : RKinds := by
  intro a b hk h
  rcases a with ⟨k, i, s, c, nf, ns, af, ar⟩
  rcases b with ⟨k', i', s', c', nf', ns', af', ar'⟩
  have hk : k ≠ k' := hk
  refine call_pure rfl rfl rfl (by simp only [AV.noRefs, AV.noRef, noRef_tc, Bool.and_self]) ?_
  obtain ⟨ca, ea⟩ : ∃ ca, ca = tc (.mk k i s c nf ns af ar) := ⟨_, rfl⟩
  obtain ⟨cb, eb⟩ : ∃ cb, cb = tc (.mk k' i' s' c' nf' ns' af' ar') := ⟨_, rfl⟩
  rw [← ea, ← eb]
  obtain ⟨nv, env'⟩ : ∃ nv, nv = slAV nf ns.length (u32s ns) := ⟨_, rfl⟩
  obtain ⟨av, eav⟩ : ∃ av, av = slAV af ar.length (tcs ar) := ⟨_, rfl⟩
  obtain ⟨nv2, env2⟩ : ∃ nv, nv = slAV nf' ns'.length (u32s ns') := ⟨_, rfl⟩
  obtain ⟨av2, eav2⟩ : ∃ av, av = slAV af' ar'.length (tcs ar') := ⟨_, rfl⟩
  have ea' : ca = [.int .i64 k, .int .i64 i, .str s, .int .u32 c, nv, av] := by rw [ea, env', eav]; rfl
  have eb' : cb = [.int .i64 k', .int .i64 i', .str s', .int .u32 c', nv2, av2] := by rw [eb, env2, eav2]; rfl
  obtain ⟨h1, eh1⟩ : ∃ h1, h1 = Heap.empty.new ca := ⟨_, rfl⟩
  have ho1 : HeapOk h1 := by rw [eh1]; exact HeapOk.empty.new _
  have a1' : h1.at_ Heap.empty.next 0 = some ca := by rw [eh1]; exact at_new _
  obtain ⟨h2, eh2⟩ : ∃ h2, h2 = h1.new cb := ⟨_, rfl⟩
  have a2' : h2.at_ Heap.empty.next 0 = some ca := by rw [eh2]; exact (le_new ho1 _).2 _ _ _ a1'
  have b2' : h2.at_ h1.next 0 = some cb := by rw [eh2]; exact at_new _
  have y1 : (AV.agg ca).row = some ca := rfl
  have y2 : ca.length = 6 := by rw [ea']; rfl
  have y3 : (AV.agg cb).row = some cb := rfl
  have y4 : cb.length = 6 := by rw [eb']; rfl
  rw [ea'] at a2'
  rw [eb'] at b2'
  have p0 := ld60 a2'
  have p1 := ld61 a2'
  have p2 := ld62 a2'
  have p3 := ld63 a2'
  have p4 := ld64 a2'
  have p5 := ld65 a2'
  have q0 := ld60 b2'
  have q1 := ld61 b2'
  have q2 := ld62 b2'
  have q3 := ld63 b2'
  have q4 := ld64 b2'
  have q5 := ld65 b2'
  have z : (k != k') = true := by simpa using hk
  simp only [a40, a40_0, a40_1, a40_2, Slots.ofList, s3, reduceIte, Nat.reduceEqDiff, aBin, aInt, negIf, Option.some.injEq, exists_eq_left', Option.map_some, Option.bind_some, y1, y2, y3, y4, ← eh1, ← eh2, aFieldAddr, Nat.zero_add, Int.reduceBEq, Int.reduceBNe, p0, q0, z, wc_eq (rcmp_spec _ _ _)]
  exact finI (x := cmpI k k') (by simp only [get_put, reduceIte, Nat.reduceEqDiff]) rfl
theorem rord_k1 (i : Int) (s : List UInt8) (c : Int) (nf : Option Bool) (ns : List Int) (af : Option Bool) (ar : List Tm) (i' : Int) (s' : List UInt8) (c' : Int) (nf' : Option Bool) (ns' : List Int) (af' : Option Bool) (ar' : List Tm) (h : Heap) : WC env 40 [.agg (tc (.mk 1 i s c nf ns af ar)), .agg (tc (.mk 1 i' s' c' nf' ns' af' ar'))] h (fun o => o = .ret ⟨.int .i64 (ordF (.mk 1 i s c nf ns af ar) (.mk 1 i' s' c' nf' ns' af' ar')), h, .none⟩) := by
  refine call_pure rfl rfl rfl (by simp only [AV.noRefs, AV.noRef, noRef_tc, Bool.and_self]) ?_
  obtain ⟨ca, ea⟩ : ∃ ca, ca = tc (.mk 1 i s c nf ns af ar) := ⟨_, rfl⟩
  obtain ⟨cb, eb⟩ : ∃ cb, cb = tc (.mk 1 i' s' c' nf' ns' af' ar') := ⟨_, rfl⟩
  rw [← ea, ← eb]
  obtain ⟨nv, env'⟩ : ∃ nv, nv = slAV nf ns.length (u32s ns) := ⟨_, rfl⟩
  obtain ⟨av, eav⟩ : ∃ av, av = slAV af ar.length (tcs ar) := ⟨_, rfl⟩
  obtain ⟨nv2, env2⟩ : ∃ nv, nv = slAV nf' ns'.length (u32s ns') := ⟨_, rfl⟩
  obtain ⟨av2, eav2⟩ : ∃ av, av = slAV af' ar'.length (tcs ar') := ⟨_, rfl⟩
  have ea' : ca = [.int .i64 1, .int .i64 i, .str s, .int .u32 c, nv, av] := by rw [ea, env', eav]; rfl
  have eb' : cb = [.int .i64 1, .int .i64 i', .str s', .int .u32 c', nv2, av2] := by rw [eb, env2, eav2]; rfl
  obtain ⟨h1, eh1⟩ : ∃ h1, h1 = Heap.empty.new ca := ⟨_, rfl⟩
  have ho1 : HeapOk h1 := by rw [eh1]; exact HeapOk.empty.new _
  have a1' : h1.at_ Heap.empty.next 0 = some ca := by rw [eh1]; exact at_new _
  obtain ⟨h2, eh2⟩ : ∃ h2, h2 = h1.new cb := ⟨_, rfl⟩
  have a2' : h2.at_ Heap.empty.next 0 = some ca := by rw [eh2]; exact (le_new ho1 _).2 _ _ _ a1'
  have b2' : h2.at_ h1.next 0 = some cb := by rw [eh2]; exact at_new _
  have y1 : (AV.agg ca).row = some ca := rfl
  have y2 : ca.length = 6 := by rw [ea']; rfl
  have y3 : (AV.agg cb).row = some cb := rfl
  have y4 : cb.length = 6 := by rw [eb']; rfl
  rw [ea'] at a2'
  rw [eb'] at b2'
  have p0 := ld60 a2'
  have p1 := ld61 a2'
  have p2 := ld62 a2'
  have p3 := ld63 a2'
  have p4 := ld64 a2'
  have p5 := ld65 a2'
  have q0 := ld60 b2'
  have q1 := ld61 b2'
  have q2 := ld62 b2'
  have q3 := ld63 b2'
  have q4 := ld64 b2'
  have q5 := ld65 b2'
  have e : ordF (.mk 1 i s c nf ns af ar) (.mk 1 i' s' c' nf' ns' af' ar') = cmpI i i' := by simp [ordF]
  simp only [a40, a40_0, a40_1, a40_3, a40_4, Slots.ofList, s3, reduceIte, Nat.reduceEqDiff, aBin, aInt, negIf, Option.some.injEq, exists_eq_left', Option.map_some, Option.bind_some, y1, y2, y3, y4, ← eh1, ← eh2, aFieldAddr, Nat.zero_add, Int.reduceBEq, Int.reduceBNe, p0, q0, a40_5, p1, q1, wc_eq (rcmp_spec _ _ _)]
  exact finI (by simp only [get_put, reduceIte, Nat.reduceEqDiff]; rw [e]) rfl
theorem rord_k2 (i : Int) (s : List UInt8) (c : Int) (nf : Option Bool) (ns : List Int) (af : Option Bool) (ar : List Tm) (i' : Int) (s' : List UInt8) (c' : Int) (nf' : Option Bool) (ns' : List Int) (af' : Option Bool) (ar' : List Tm) (hs : s.length < 9223372036854775808) (hs' : s'.length < 9223372036854775808) (h : Heap) : WC env 40 [.agg (tc (.mk 2 i s c nf ns af ar)), .agg (tc (.mk 2 i' s' c' nf' ns' af' ar'))] h (fun o => o = .ret ⟨.int .i64 (ordF (.mk 2 i s c nf ns af ar) (.mk 2 i' s' c' nf' ns' af' ar')), h, .none⟩) := by
  refine call_pure rfl rfl rfl (by simp only [AV.noRefs, AV.noRef, noRef_tc, Bool.and_self]) ?_
  obtain ⟨ca, ea⟩ : ∃ ca, ca = tc (.mk 2 i s c nf ns af ar) := ⟨_, rfl⟩
  obtain ⟨cb, eb⟩ : ∃ cb, cb = tc (.mk 2 i' s' c' nf' ns' af' ar') := ⟨_, rfl⟩
  rw [← ea, ← eb]
  obtain ⟨nv, env'⟩ : ∃ nv, nv = slAV nf ns.length (u32s ns) := ⟨_, rfl⟩
  obtain ⟨av, eav⟩ : ∃ av, av = slAV af ar.length (tcs ar) := ⟨_, rfl⟩
  obtain ⟨nv2, env2⟩ : ∃ nv, nv = slAV nf' ns'.length (u32s ns') := ⟨_, rfl⟩
  obtain ⟨av2, eav2⟩ : ∃ av, av = slAV af' ar'.length (tcs ar') := ⟨_, rfl⟩
  have ea' : ca = [.int .i64 2, .int .i64 i, .str s, .int .u32 c, nv, av] := by rw [ea, env', eav]; rfl
  have eb' : cb = [.int .i64 2, .int .i64 i', .str s', .int .u32 c', nv2, av2] := by rw [eb, env2, eav2]; rfl
  obtain ⟨h1, eh1⟩ : ∃ h1, h1 = Heap.empty.new ca := ⟨_, rfl⟩
  have ho1 : HeapOk h1 := by rw [eh1]; exact HeapOk.empty.new _
  have a1' : h1.at_ Heap.empty.next 0 = some ca := by rw [eh1]; exact at_new _
  obtain ⟨h2, eh2⟩ : ∃ h2, h2 = h1.new cb := ⟨_, rfl⟩
  have a2' : h2.at_ Heap.empty.next 0 = some ca := by rw [eh2]; exact (le_new ho1 _).2 _ _ _ a1'
  have b2' : h2.at_ h1.next 0 = some cb := by rw [eh2]; exact at_new _
  have y1 : (AV.agg ca).row = some ca := rfl
  have y2 : ca.length = 6 := by rw [ea']; rfl
  have y3 : (AV.agg cb).row = some cb := rfl
  have y4 : cb.length = 6 := by rw [eb']; rfl
  rw [ea'] at a2'
  rw [eb'] at b2'
  have p0 := ld60 a2'
  have p1 := ld61 a2'
  have p2 := ld62 a2'
  have p3 := ld63 a2'
  have p4 := ld64 a2'
  have p5 := ld65 a2'
  have q0 := ld60 b2'
  have q1 := ld61 b2'
  have q2 := ld62 b2'
  have q3 := ld63 b2'
  have q4 := ld64 b2'
  have q5 := ld65 b2'
  have e : ordF (.mk 2 i s c nf ns af ar) (.mk 2 i' s' c' nf' ns' af' ar') = cmpS s s' := by simp [ordF]
  simp only [a40, a40_0, a40_1, a40_3, a40_4, a40_6, Slots.ofList, s3, reduceIte, Nat.reduceEqDiff, aBin, aInt, negIf, Option.some.injEq, exists_eq_left', Option.map_some, Option.bind_some, y1, y2, y3, y4, ← eh1, ← eh2, aFieldAddr, Nat.zero_add, Int.reduceBEq, Int.reduceBNe, p0, q0, a40_7, p2, q2, wc_eq (scmp_spec _ _ hs hs' _)]
  exact finI (by simp only [get_put, reduceIte, Nat.reduceEqDiff]; rw [e]) rfl
theorem rord_k3 (i : Int) (s : List UInt8) (c : Int) (nf : Option Bool) (ns : List Int) (af : Option Bool) (ar : List Tm) (i' : Int) (s' : List UInt8) (c' : Int) (nf' : Option Bool) (ns' : List Int) (af' : Option Bool) (ar' : List Tm) (hs : s.length < 9223372036854775808) (hs' : s'.length < 9223372036854775808) (uc : U32 c) (uc' : U32 c') (u1 : ∀ x, x ∈ ns → U32 x) (u2 : ∀ x, x ∈ ns' → U32 x) (hlen : ns.length = ns'.length) (hl : ns.length < 9223372036854775808) (h : Heap) : WC env 40 [.agg (tc (.mk 3 i s c nf ns af ar)), .agg (tc (.mk 3 i' s' c' nf' ns' af' ar'))] h (fun o => o = .ret ⟨.int .i64 (ordF (.mk 3 i s c nf ns af ar) (.mk 3 i' s' c' nf' ns' af' ar')), h, .none⟩) := by
  refine call_pure rfl rfl rfl (by simp only [AV.noRefs, AV.noRef, noRef_tc, Bool.and_self]) ?_
  obtain ⟨ca, ea⟩ : ∃ ca, ca = tc (.mk 3 i s c nf ns af ar) := ⟨_, rfl⟩
  obtain ⟨cb, eb⟩ : ∃ cb, cb = tc (.mk 3 i' s' c' nf' ns' af' ar') := ⟨_, rfl⟩
  rw [← ea, ← eb]
  obtain ⟨nv, env'⟩ : ∃ nv, nv = slAV nf ns.length (u32s ns) := ⟨_, rfl⟩
  obtain ⟨av, eav⟩ : ∃ av, av = slAV af ar.length (tcs ar) := ⟨_, rfl⟩
  obtain ⟨nv2, env2⟩ : ∃ nv, nv = slAV nf' ns'.length (u32s ns') := ⟨_, rfl⟩
  obtain ⟨av2, eav2⟩ : ∃ av, av = slAV af' ar'.length (tcs ar') := ⟨_, rfl⟩
  have ea' : ca = [.int .i64 3, .int .i64 i, .str s, .int .u32 c, nv, av] := by rw [ea, env', eav]; rfl
  have eb' : cb = [.int .i64 3, .int .i64 i', .str s', .int .u32 c', nv2, av2] := by rw [eb, env2, eav2]; rfl
  obtain ⟨h1, eh1⟩ : ∃ h1, h1 = Heap.empty.new ca := ⟨_, rfl⟩
  have ho1 : HeapOk h1 := by rw [eh1]; exact HeapOk.empty.new _
  have a1' : h1.at_ Heap.empty.next 0 = some ca := by rw [eh1]; exact at_new _
  obtain ⟨h2, eh2⟩ : ∃ h2, h2 = h1.new cb := ⟨_, rfl⟩
  have a2' : h2.at_ Heap.empty.next 0 = some ca := by rw [eh2]; exact (le_new ho1 _).2 _ _ _ a1'
  have b2' : h2.at_ h1.next 0 = some cb := by rw [eh2]; exact at_new _
  have y1 : (AV.agg ca).row = some ca := rfl
  have y2 : ca.length = 6 := by rw [ea']; rfl
  have y3 : (AV.agg cb).row = some cb := rfl
  have y4 : cb.length = 6 := by rw [eb']; rfl
  rw [ea'] at a2'
  rw [eb'] at b2'
  have p0 := ld60 a2'
  have p1 := ld61 a2'
  have p2 := ld62 a2'
  have p3 := ld63 a2'
  have p4 := ld64 a2'
  have p5 := ld65 a2'
  have q0 := ld60 b2'
  have q1 := ld61 b2'
  have q2 := ld62 b2'
  have q3 := ld63 b2'
  have q4 := ld64 b2'
  have q5 := ld65 b2'
  have e : ordF (.mk 3 i s c nf ns af ar) (.mk 3 i' s' c' nf' ns' af' ar') = orI [cmpS s s', cmpI c c', cmpNs ns ns'] := by simp [ordF]
  rw [env'] at p4
  rw [env2] at q4
  have v1 := conv_u32 uc h2
  have v2 := conv_u32 uc' h2
  by_cases c1 : cmpS s s' = 0
  · have z1 : (cmpS s s' == 0) = true := by simpa using c1
    have eo : orI [cmpS s s', cmpI c c', cmpNs ns ns'] = (if cmpI c c' ≠ 0 then cmpI c c' else cmpNs ns ns') := by
      by_cases d1 : cmpI c c' = 0 <;> by_cases d2 : cmpNs ns ns' = 0 <;> simp [orI, c1, d1, d2]
    simp only [a40, a40_0, a40_1, a40_3, a40_4, a40_6, a40_8, Slots.ofList, s3, reduceIte, Nat.reduceEqDiff, aBin, aInt, negIf, Option.some.injEq, exists_eq_left', Option.map_some, Option.bind_some, y1, y2, y3, y4, ← eh1, ← eh2, aFieldAddr, Nat.zero_add, Int.reduceBEq, Int.reduceBNe, p0, q0, a40_10, a40_11, a40_12, a40_13, p2, q2, wc_eq (scmp_spec _ _ hs hs' _), z1, p3, q3, v1, v2, wc_eq (rcmp_spec _ _ _)]
    refine rnums_loop p4 q4 u1 u2 hlen hl (ns.length + 1) 0 _ (cmpI c c') (by omega) (by omega) ?_ ?_ ?_ ?_ fun σ' g => ?_
    · simp only [get_put, reduceIte, Nat.reduceEqDiff]
    · simp only [get_put, reduceIte, Nat.reduceEqDiff]
    · simp only [get_put, reduceIte, Nat.reduceEqDiff]
    · simp only [get_put, reduceIte, Nat.reduceEqDiff]; rfl
    rw [List.drop_zero, List.drop_zero] at g
    simp only [a40_18, s3, reduceIte, Nat.reduceEqDiff, aBin, aInt, negIf, Option.some.injEq, exists_eq_left', Option.map_some, Option.bind_some, g]
    exact finI (by simp only [get_put, reduceIte, Nat.reduceEqDiff]; rw [e, eo]) rfl
  · have z1 : (cmpS s s' == 0) = false := by simpa using c1
    simp only [a40, a40_0, a40_1, a40_3, a40_4, a40_6, a40_8, Slots.ofList, s3, reduceIte, Nat.reduceEqDiff, aBin, aInt, negIf, Option.some.injEq, exists_eq_left', Option.map_some, Option.bind_some, y1, y2, y3, y4, ← eh1, ← eh2, aFieldAddr, Nat.zero_add, Int.reduceBEq, Int.reduceBNe, p0, q0, a40_10, a40_11, a40_13, p2, q2, wc_eq (scmp_spec _ _ hs hs' _), z1]
    refine rnums_loop p4 q4 u1 u2 hlen hl (ns.length + 1) 0 _ (cmpS s s') (by omega) (by omega) ?_ ?_ ?_ ?_ fun σ' g => ?_
    · simp only [get_put, reduceIte, Nat.reduceEqDiff]
    · simp only [get_put, reduceIte, Nat.reduceEqDiff]
    · simp only [get_put, reduceIte, Nat.reduceEqDiff]
    · simp only [get_put, reduceIte, Nat.reduceEqDiff]; rfl
    rw [if_pos c1] at g
    simp only [a40_18, s3, reduceIte, Nat.reduceEqDiff, aBin, aInt, negIf, Option.some.injEq, exists_eq_left', Option.map_some, Option.bind_some, g]
    exact finI (by simp only [get_put, reduceIte, Nat.reduceEqDiff]; rw [e, orI, if_pos c1]) rfl
theorem rord_k4 (i : Int) (s : List UInt8) (c : Int) (nf : Option Bool) (ns : List Int) (af : Option Bool) (ar : List Tm) (i' : Int) (s' : List UInt8) (c' : Int) (nf' : Option Bool) (ns' : List Int) (af' : Option Bool) (ar' : List Tm) (hs : s.length < 9223372036854775808) (hs' : s'.length < 9223372036854775808) (uc : U32 c) (uc' : U32 c') (u1 : ∀ x, x ∈ ns → U32 x) (u2 : ∀ x, x ∈ ns' → U32 x) (hlen : ns.length = ns'.length) (hl : ns.length < 9223372036854775808) (h : Heap) : WC env 40 [.agg (tc (.mk 4 i s c nf ns af ar)), .agg (tc (.mk 4 i' s' c' nf' ns' af' ar'))] h (fun o => o = .ret ⟨.int .i64 (ordF (.mk 4 i s c nf ns af ar) (.mk 4 i' s' c' nf' ns' af' ar')), h, .none⟩) := by
  refine call_pure rfl rfl rfl (by simp only [AV.noRefs, AV.noRef, noRef_tc, Bool.and_self]) ?_
  obtain ⟨ca, ea⟩ : ∃ ca, ca = tc (.mk 4 i s c nf ns af ar) := ⟨_, rfl⟩
  obtain ⟨cb, eb⟩ : ∃ cb, cb = tc (.mk 4 i' s' c' nf' ns' af' ar') := ⟨_, rfl⟩
  rw [← ea, ← eb]
  obtain ⟨nv, env'⟩ : ∃ nv, nv = slAV nf ns.length (u32s ns) := ⟨_, rfl⟩
  obtain ⟨av, eav⟩ : ∃ av, av = slAV af ar.length (tcs ar) := ⟨_, rfl⟩
  obtain ⟨nv2, env2⟩ : ∃ nv, nv = slAV nf' ns'.length (u32s ns') := ⟨_, rfl⟩
  obtain ⟨av2, eav2⟩ : ∃ av, av = slAV af' ar'.length (tcs ar') := ⟨_, rfl⟩
  have ea' : ca = [.int .i64 4, .int .i64 i, .str s, .int .u32 c, nv, av] := by rw [ea, env', eav]; rfl
  have eb' : cb = [.int .i64 4, .int .i64 i', .str s', .int .u32 c', nv2, av2] := by rw [eb, env2, eav2]; rfl
  obtain ⟨h1, eh1⟩ : ∃ h1, h1 = Heap.empty.new ca := ⟨_, rfl⟩
  have ho1 : HeapOk h1 := by rw [eh1]; exact HeapOk.empty.new _
  have a1' : h1.at_ Heap.empty.next 0 = some ca := by rw [eh1]; exact at_new _
  obtain ⟨h2, eh2⟩ : ∃ h2, h2 = h1.new cb := ⟨_, rfl⟩
  have a2' : h2.at_ Heap.empty.next 0 = some ca := by rw [eh2]; exact (le_new ho1 _).2 _ _ _ a1'
  have b2' : h2.at_ h1.next 0 = some cb := by rw [eh2]; exact at_new _
  have y1 : (AV.agg ca).row = some ca := rfl
  have y2 : ca.length = 6 := by rw [ea']; rfl
  have y3 : (AV.agg cb).row = some cb := rfl
  have y4 : cb.length = 6 := by rw [eb']; rfl
  rw [ea'] at a2'
  rw [eb'] at b2'
  have p0 := ld60 a2'
  have p1 := ld61 a2'
  have p2 := ld62 a2'
  have p3 := ld63 a2'
  have p4 := ld64 a2'
  have p5 := ld65 a2'
  have q0 := ld60 b2'
  have q1 := ld61 b2'
  have q2 := ld62 b2'
  have q3 := ld63 b2'
  have q4 := ld64 b2'
  have q5 := ld65 b2'
  have e : ordF (.mk 4 i s c nf ns af ar) (.mk 4 i' s' c' nf' ns' af' ar') = orI [cmpS s s', cmpI c c', cmpNs ns ns'] := by simp [ordF]
  rw [env'] at p4
  rw [env2] at q4
  have v1 := conv_u32 uc h2
  have v2 := conv_u32 uc' h2
  by_cases c1 : cmpS s s' = 0
  · have z1 : (cmpS s s' == 0) = true := by simpa using c1
    have eo : orI [cmpS s s', cmpI c c', cmpNs ns ns'] = (if cmpI c c' ≠ 0 then cmpI c c' else cmpNs ns ns') := by
      by_cases d1 : cmpI c c' = 0 <;> by_cases d2 : cmpNs ns ns' = 0 <;> simp [orI, c1, d1, d2]
    simp only [a40, a40_0, a40_1, a40_3, a40_4, a40_6, a40_8, a40_9, Slots.ofList, s3, reduceIte, Nat.reduceEqDiff, aBin, aInt, negIf, Option.some.injEq, exists_eq_left', Option.map_some, Option.bind_some, y1, y2, y3, y4, ← eh1, ← eh2, aFieldAddr, Nat.zero_add, Int.reduceBEq, Int.reduceBNe, p0, q0, a40_10, a40_11, a40_12, a40_13, p2, q2, wc_eq (scmp_spec _ _ hs hs' _), z1, p3, q3, v1, v2, wc_eq (rcmp_spec _ _ _)]
    refine rnums_loop p4 q4 u1 u2 hlen hl (ns.length + 1) 0 _ (cmpI c c') (by omega) (by omega) ?_ ?_ ?_ ?_ fun σ' g => ?_
    · simp only [get_put, reduceIte, Nat.reduceEqDiff]
    · simp only [get_put, reduceIte, Nat.reduceEqDiff]
    · simp only [get_put, reduceIte, Nat.reduceEqDiff]
    · simp only [get_put, reduceIte, Nat.reduceEqDiff]; rfl
    rw [List.drop_zero, List.drop_zero] at g
    simp only [a40_18, s3, reduceIte, Nat.reduceEqDiff, aBin, aInt, negIf, Option.some.injEq, exists_eq_left', Option.map_some, Option.bind_some, g]
    exact finI (by simp only [get_put, reduceIte, Nat.reduceEqDiff]; rw [e, eo]) rfl
  · have z1 : (cmpS s s' == 0) = false := by simpa using c1
    simp only [a40, a40_0, a40_1, a40_3, a40_4, a40_6, a40_8, a40_9, Slots.ofList, s3, reduceIte, Nat.reduceEqDiff, aBin, aInt, negIf, Option.some.injEq, exists_eq_left', Option.map_some, Option.bind_some, y1, y2, y3, y4, ← eh1, ← eh2, aFieldAddr, Nat.zero_add, Int.reduceBEq, Int.reduceBNe, p0, q0, a40_10, a40_11, a40_13, p2, q2, wc_eq (scmp_spec _ _ hs hs' _), z1]
    refine rnums_loop p4 q4 u1 u2 hlen hl (ns.length + 1) 0 _ (cmpS s s') (by omega) (by omega) ?_ ?_ ?_ ?_ fun σ' g => ?_
    · simp only [get_put, reduceIte, Nat.reduceEqDiff]
    · simp only [get_put, reduceIte, Nat.reduceEqDiff]
    · simp only [get_put, reduceIte, Nat.reduceEqDiff]
    · simp only [get_put, reduceIte, Nat.reduceEqDiff]; rfl
    rw [if_pos c1] at g
    simp only [a40_18, s3, reduceIte, Nat.reduceEqDiff, aBin, aInt, negIf, Option.some.injEq, exists_eq_left', Option.map_some, Option.bind_some, g]
    exact finI (by simp only [get_put, reduceIte, Nat.reduceEqDiff]; rw [e, orI, if_pos c1]) rfl
theorem rord_k5 (i : Int) (s : List UInt8) (c : Int) (nf : Option Bool) (ns : List Int) (af : Option Bool) (ar : List Tm) (i' : Int) (s' : List UInt8) (c' : Int) (nf' : Option Bool) (ns' : List Int) (af' : Option Bool) (ar' : List Tm) (hP : ∀ t, t ∈ ar → ROrdOk t) (okm : Oks ar') (wfm : Wfs ar') (hl : ar.length < 9223372036854775808) (h : Heap) : WC env 40 [.agg (tc (.mk 5 i s c nf ns af ar)), .agg (tc (.mk 5 i' s' c' nf' ns' af' ar'))] h (fun o => o = .ret ⟨.int .i64 (ordF (.mk 5 i s c nf ns af ar) (.mk 5 i' s' c' nf' ns' af' ar')), h, .none⟩) := by
  refine call_pure rfl rfl rfl (by simp only [AV.noRefs, AV.noRef, noRef_tc, Bool.and_self]) ?_
  obtain ⟨ca, ea⟩ : ∃ ca, ca = tc (.mk 5 i s c nf ns af ar) := ⟨_, rfl⟩
  obtain ⟨cb, eb⟩ : ∃ cb, cb = tc (.mk 5 i' s' c' nf' ns' af' ar') := ⟨_, rfl⟩
  rw [← ea, ← eb]
  obtain ⟨nv, env'⟩ : ∃ nv, nv = slAV nf ns.length (u32s ns) := ⟨_, rfl⟩
  obtain ⟨av, eav⟩ : ∃ av, av = slAV af ar.length (tcs ar) := ⟨_, rfl⟩
  obtain ⟨nv2, env2⟩ : ∃ nv, nv = slAV nf' ns'.length (u32s ns') := ⟨_, rfl⟩
  obtain ⟨av2, eav2⟩ : ∃ av, av = slAV af' ar'.length (tcs ar') := ⟨_, rfl⟩
  have ea' : ca = [.int .i64 5, .int .i64 i, .str s, .int .u32 c, nv, av] := by rw [ea, env', eav]; rfl
  have eb' : cb = [.int .i64 5, .int .i64 i', .str s', .int .u32 c', nv2, av2] := by rw [eb, env2, eav2]; rfl
  obtain ⟨h1, eh1⟩ : ∃ h1, h1 = Heap.empty.new ca := ⟨_, rfl⟩
  have ho1 : HeapOk h1 := by rw [eh1]; exact HeapOk.empty.new _
  have a1' : h1.at_ Heap.empty.next 0 = some ca := by rw [eh1]; exact at_new _
  obtain ⟨h2, eh2⟩ : ∃ h2, h2 = h1.new cb := ⟨_, rfl⟩
  have a2' : h2.at_ Heap.empty.next 0 = some ca := by rw [eh2]; exact (le_new ho1 _).2 _ _ _ a1'
  have b2' : h2.at_ h1.next 0 = some cb := by rw [eh2]; exact at_new _
  have y1 : (AV.agg ca).row = some ca := rfl
  have y2 : ca.length = 6 := by rw [ea']; rfl
  have y3 : (AV.agg cb).row = some cb := rfl
  have y4 : cb.length = 6 := by rw [eb']; rfl
  rw [ea'] at a2'
  rw [eb'] at b2'
  have p0 := ld60 a2'
  have p1 := ld61 a2'
  have p2 := ld62 a2'
  have p3 := ld63 a2'
  have p4 := ld64 a2'
  have p5 := ld65 a2'
  have q0 := ld60 b2'
  have q1 := ld61 b2'
  have q2 := ld62 b2'
  have q3 := ld63 b2'
  have q4 := ld64 b2'
  have q5 := ld65 b2'
  have e : ordF (.mk 5 i s c nf ns af ar) (.mk 5 i' s' c' nf' ns' af' ar') = orI [cmpI ar.length ar'.length, ordFs ar ar'] := by simp [ordF]
  have al : ∀ h, aLenOp false h av = some ⟨.int .i64 ar.length, h, .none⟩ := fun h => by rw [eav]; exact len_sl _ _ _ (fun _ => trivial) h
  have al2 : ∀ h, aLenOp false h av2 = some ⟨.int .i64 ar'.length, h, .none⟩ := fun h => by rw [eav2]; exact len_sl _ _ _ (fun _ => trivial) h
  simp only [a40, a40_0, a40_1, a40_3, a40_4, a40_6, a40_8, a40_9, a40_19, Slots.ofList, s3, reduceIte, Nat.reduceEqDiff, aBin, aInt, negIf, Option.some.injEq, exists_eq_left', Option.map_some, Option.bind_some, y1, y2, y3, y4, ← eh1, ← eh2, aFieldAddr, Nat.zero_add, Int.reduceBEq, Int.reduceBNe, p0, q0, a40_20, a40_21, p5, q5, al, al2, wc_eq (rcmp_spec _ _ _)]
  rw [eav] at p5
  rw [eav2] at q5
  refine rargs_loop p5 q5 hP okm wfm hl (ar.length + 1) 0 _ (cmpI ar.length ar'.length) ?_ (by omega) (by omega) ?_ ?_ ?_ ?_ fun σ' g => ?_
  · intro h
    rw [cmpI] at h
    split at h
    · cases h
    split at h
    · cases h
    · omega
  · simp only [get_put, reduceIte, Nat.reduceEqDiff]
  · simp only [get_put, reduceIte, Nat.reduceEqDiff]
  · simp only [get_put, reduceIte, Nat.reduceEqDiff]
  · simp only [get_put, reduceIte, Nat.reduceEqDiff]; rfl
  rw [List.drop_zero, List.drop_zero] at g
  simp only [a40_26, s3, reduceIte, Nat.reduceEqDiff, aBin, aInt, negIf, Option.some.injEq, exists_eq_left', Option.map_some, Option.bind_some, g]
  exact finI (by simp only [get_put, reduceIte, Nat.reduceEqDiff]; rw [e]; simp only [orI]; split <;> simp) rfl
theorem rord_k7 (i : Int) (s : List UInt8) (c : Int) (nf : Option Bool) (ns : List Int) (af : Option Bool) (ar : List Tm) (i' : Int) (s' : List UInt8) (c' : Int) (nf' : Option Bool) (ns' : List Int) (af' : Option Bool) (ar' : List Tm) (hP : ∀ t, t ∈ ar → ROrdOk t) (okm : Oks ar') (wfm : Wfs ar') (hl : 2 ≤ ar.length) (hm : 2 ≤ ar'.length) (l7 : lastNot7 ar = true) (m7 : lastNot7 ar' = true) (ll : ar.length < 9223372036854775807) (ml : ar'.length < 9223372036854775807) (h : Heap) : WC env 40 [.agg (tc (.mk 7 i s c nf ns af ar)), .agg (tc (.mk 7 i' s' c' nf' ns' af' ar'))] h (fun o => o = .ret ⟨.int .i64 (ordF (.mk 7 i s c nf ns af ar) (.mk 7 i' s' c' nf' ns' af' ar')), h, .none⟩) := by
  refine call_pure rfl rfl rfl (by simp only [AV.noRefs, AV.noRef, noRef_tc, Bool.and_self]) ?_
  obtain ⟨ca, ea⟩ : ∃ ca, ca = tc (.mk 7 i s c nf ns af ar) := ⟨_, rfl⟩
  obtain ⟨cb, eb⟩ : ∃ cb, cb = tc (.mk 7 i' s' c' nf' ns' af' ar') := ⟨_, rfl⟩
  rw [← ea, ← eb]
  obtain ⟨nv, env'⟩ : ∃ nv, nv = slAV nf ns.length (u32s ns) := ⟨_, rfl⟩
  obtain ⟨av, eav⟩ : ∃ av, av = slAV af ar.length (tcs ar) := ⟨_, rfl⟩
  obtain ⟨nv2, env2⟩ : ∃ nv, nv = slAV nf' ns'.length (u32s ns') := ⟨_, rfl⟩
  obtain ⟨av2, eav2⟩ : ∃ av, av = slAV af' ar'.length (tcs ar') := ⟨_, rfl⟩
  have ea' : ca = [.int .i64 7, .int .i64 i, .str s, .int .u32 c, nv, av] := by rw [ea, env', eav]; rfl
  have eb' : cb = [.int .i64 7, .int .i64 i', .str s', .int .u32 c', nv2, av2] := by rw [eb, env2, eav2]; rfl
  obtain ⟨h1, eh1⟩ : ∃ h1, h1 = Heap.empty.new ca := ⟨_, rfl⟩
  have ho1 : HeapOk h1 := by rw [eh1]; exact HeapOk.empty.new _
  have a1' : h1.at_ Heap.empty.next 0 = some ca := by rw [eh1]; exact at_new _
  obtain ⟨h2, eh2⟩ : ∃ h2, h2 = h1.new cb := ⟨_, rfl⟩
  have a2' : h2.at_ Heap.empty.next 0 = some ca := by rw [eh2]; exact (le_new ho1 _).2 _ _ _ a1'
  have b2' : h2.at_ h1.next 0 = some cb := by rw [eh2]; exact at_new _
  have y1 : (AV.agg ca).row = some ca := rfl
  have y2 : ca.length = 6 := by rw [ea']; rfl
  have y3 : (AV.agg cb).row = some cb := rfl
  have y4 : cb.length = 6 := by rw [eb']; rfl
  rw [ea'] at a2'
  rw [eb'] at b2'
  have p0 := ld60 a2'
  have p1 := ld61 a2'
  have p2 := ld62 a2'
  have p3 := ld63 a2'
  have p4 := ld64 a2'
  have p5 := ld65 a2'
  have q0 := ld60 b2'
  have q1 := ld61 b2'
  have q2 := ld62 b2'
  have q3 := ld63 b2'
  have q4 := ld64 b2'
  have q5 := ld65 b2'
  have e : ordF (.mk 7 i s c nf ns af ar) (.mk 7 i' s' c' nf' ns' af' ar') = ordL ar ar' := by simp [ordF]
  have wl : ∀ h, WC env 72 [.agg ca, .agg cb] h (fun o => o = .ret ⟨.int .i64 (ordL ar ar'), h, .none⟩) := fun h => by
    rw [ea, eb]
    exact rlists_spec rord_kinds (.list _ _ _ _ _ _ _ hl) (.list _ _ _ _ _ _ _ hm) l7 m7 ll ml hP okm wfm h
  have p6 : aLoad h2 true 6 (.ptr Heap.empty.next 0 0) = some ⟨.agg ca, h2, .read⟩ := by rw [ea']; exact ld6 a2'
  have q6 : aLoad h2 true 6 (.ptr h1.next 0 0) = some ⟨.agg cb, h2, .read⟩ := by rw [eb']; exact ld6 b2'
  simp only [a40, a40_0, a40_1, a40_3, a40_4, a40_6, a40_8, a40_9, a40_19, a40_27, Slots.ofList, s3, reduceIte, Nat.reduceEqDiff, aBin, aInt, negIf, Option.some.injEq, exists_eq_left', Option.map_some, Option.bind_some, y1, y2, y3, y4, ← eh1, ← eh2, aFieldAddr, Nat.zero_add, Int.reduceBEq, Int.reduceBNe, p0, q0, a40_28, p6, q6, wc_eq (wl _)]
  exact finI (by simp only [get_put, reduceIte, Nat.reduceEqDiff]; rw [e]) rfl
theorem rord_k0 (k : Int) (i : Int) (s : List UInt8) (c : Int) (nf : Option Bool) (ns : List Int) (af : Option Bool) (ar : List Tm) (i' : Int) (s' : List UInt8) (c' : Int) (nf' : Option Bool) (ns' : List Int) (af' : Option Bool) (ar' : List Tm) (hk : ∀ j : Int, 1 ≤ j → j ≤ 7 → j ≠ 6 → k ≠ j) (h : Heap) : WC env 40 [.agg (tc (.mk k i s c nf ns af ar)), .agg (tc (.mk k i' s' c' nf' ns' af' ar'))] h (fun o => o = .ret ⟨.int .i64 (ordF (.mk k i s c nf ns af ar) (.mk k i' s' c' nf' ns' af' ar')), h, .none⟩) := by
  refine call_pure rfl rfl rfl (by simp only [AV.noRefs, AV.noRef, noRef_tc, Bool.and_self]) ?_
  obtain ⟨ca, ea⟩ : ∃ ca, ca = tc (.mk k i s c nf ns af ar) := ⟨_, rfl⟩
  obtain ⟨cb, eb⟩ : ∃ cb, cb = tc (.mk k i' s' c' nf' ns' af' ar') := ⟨_, rfl⟩
  rw [← ea, ← eb]
  obtain ⟨nv, env'⟩ : ∃ nv, nv = slAV nf ns.length (u32s ns) := ⟨_, rfl⟩
  obtain ⟨av, eav⟩ : ∃ av, av = slAV af ar.length (tcs ar) := ⟨_, rfl⟩
  obtain ⟨nv2, env2⟩ : ∃ nv, nv = slAV nf' ns'.length (u32s ns') := ⟨_, rfl⟩
  obtain ⟨av2, eav2⟩ : ∃ av, av = slAV af' ar'.length (tcs ar') := ⟨_, rfl⟩
  have ea' : ca = [.int .i64 k, .int .i64 i, .str s, .int .u32 c, nv, av] := by rw [ea, env', eav]; rfl
  have eb' : cb = [.int .i64 k, .int .i64 i', .str s', .int .u32 c', nv2, av2] := by rw [eb, env2, eav2]; rfl
  obtain ⟨h1, eh1⟩ : ∃ h1, h1 = Heap.empty.new ca := ⟨_, rfl⟩
  have ho1 : HeapOk h1 := by rw [eh1]; exact HeapOk.empty.new _
  have a1' : h1.at_ Heap.empty.next 0 = some ca := by rw [eh1]; exact at_new _
  obtain ⟨h2, eh2⟩ : ∃ h2, h2 = h1.new cb := ⟨_, rfl⟩
  have a2' : h2.at_ Heap.empty.next 0 = some ca := by rw [eh2]; exact (le_new ho1 _).2 _ _ _ a1'
  have b2' : h2.at_ h1.next 0 = some cb := by rw [eh2]; exact at_new _
  have y1 : (AV.agg ca).row = some ca := rfl
  have y2 : ca.length = 6 := by rw [ea']; rfl
  have y3 : (AV.agg cb).row = some cb := rfl
  have y4 : cb.length = 6 := by rw [eb']; rfl
  rw [ea'] at a2'
  rw [eb'] at b2'
  have p0 := ld60 a2'
  have p1 := ld61 a2'
  have p2 := ld62 a2'
  have p3 := ld63 a2'
  have p4 := ld64 a2'
  have p5 := ld65 a2'
  have q0 := ld60 b2'
  have q1 := ld61 b2'
  have q2 := ld62 b2'
  have q3 := ld63 b2'
  have q4 := ld64 b2'
  have q5 := ld65 b2'
  have z : (k != k) = false := by simp
  have k1' : (k == 1) = false := by simpa using hk 1 (by omega) (by omega) (by omega)
  have k2' : (k == 2) = false := by simpa using hk 2 (by omega) (by omega) (by omega)
  have k3' : (k == 3) = false := by simpa using hk 3 (by omega) (by omega) (by omega)
  have k4' : (k == 4) = false := by simpa using hk 4 (by omega) (by omega) (by omega)
  have k5' : (k == 5) = false := by simpa using hk 5 (by omega) (by omega) (by omega)
  have k7' : (k == 7) = false := by simpa using hk 7 (by omega) (by omega) (by omega)
  have e : ordF (.mk k i s c nf ns af ar) (.mk k i' s' c' nf' ns' af' ar') = 0 := by
    simp only [ordF, ne_eq, not_true, if_false, hk 1 (by omega) (by omega) (by omega), hk 2 (by omega) (by omega) (by omega), hk 3 (by omega) (by omega) (by omega), hk 4 (by omega) (by omega) (by omega), hk 5 (by omega) (by omega) (by omega), hk 7 (by omega) (by omega) (by omega), or_self]
  simp only [a40, a40_0, a40_1, a40_3, a40_4, a40_6, a40_8, a40_9, a40_19, a40_27, Slots.ofList, s3, reduceIte, Nat.reduceEqDiff, aBin, aInt, negIf, Option.some.injEq, exists_eq_left', Option.map_some, Option.bind_some, y1, y2, y3, y4, ← eh1, ← eh2, aFieldAddr, Nat.zero_add, Int.reduceBEq, Int.reduceBNe, p0, q0, z, k1', k2', k3', k4', k5', k7', a40_29]
  exact finI (by simp only [get_put, reduceIte, Nat.reduceEqDiff]; rw [e]) rfl
theorem wf_nums3 {i : Int} {s : List UInt8} {c : Int} {nf : Option Bool} {ns : List Int} {af : Option Bool} {ar : List Tm} (w : Wf (.mk 3 i s c nf ns af ar)) : ns.length = 3 := by
  have h := w.1.1
  rw [kindOk] at h
  simp at h
  exact h.2
theorem wf_nums4 {i : Int} {s : List UInt8} {c : Int} {nf : Option Bool} {ns : List Int} {af : Option Bool} {ar : List Tm} (w : Wf (.mk 4 i s c nf ns af ar)) : ns.length = 2 := by
  have h := w.1.1
  rw [kindOk] at h
  simp at h
  exact h.2
theorem wf_list2 {i : Int} {s : List UInt8} {c : Int} {nf : Option Bool} {ns : List Int} {af : Option Bool} {ar : List Tm} (w : Wf (.mk 7 i s c nf ns af ar)) : 2 ≤ ar.length := by
  have h := w.1.1
  rw [kindOk] at h
  simp at h
  exact h.1.2
theorem rord_spec : ∀ a : Tm, a.Ok → Wf a → ROrdOk a := by
  refine tm_ind fun k i s c nf ns af ar ih ok wf b okb wfb h => ?_
  rcases b with ⟨k', i', s', c', nf', ns', af', ar'⟩
  obtain ⟨ss, sn, sa, sr⟩ := ok.lens
  obtain ⟨ss', sn', sa', sr'⟩ := okb.lens
  have sa7 : ar.length < 9223372036854775807 := by have := wf.1.2; omega
  have sa7' : ar'.length < 9223372036854775807 := by have := wfb.1.2; omega
  rw [Tm.Ok] at ok okb
  have hP : ∀ t, t ∈ ar → ROrdOk t := fun t m => ih t m (sr.get m) (wf.2.get m)
  by_cases hk : k = k'
  · subst hk
    by_cases e1 : k = 1
    · subst e1; exact rord_k1 i s c nf ns af ar i' s' c' nf' ns' af' ar' h
    by_cases e2 : k = 2
    · subst e2; exact rord_k2 i s c nf ns af ar i' s' c' nf' ns' af' ar' ss ss' h
    by_cases e3 : k = 3
    · subst e3; exact rord_k3 i s c nf ns af ar i' s' c' nf' ns' af' ar' ss ss' ok.2.2.1 okb.2.2.1 ok.2.2.2.1 okb.2.2.2.1 (by rw [wf_nums3 wf, wf_nums3 wfb]) sn h
    by_cases e4 : k = 4
    · subst e4; exact rord_k4 i s c nf ns af ar i' s' c' nf' ns' af' ar' ss ss' ok.2.2.1 okb.2.2.1 ok.2.2.2.1 okb.2.2.2.1 (by rw [wf_nums4 wf, wf_nums4 wfb]) sn h
    by_cases e5 : k = 5
    · subst e5; exact rord_k5 i s c nf ns af ar i' s' c' nf' ns' af' ar' hP sr' wfb.2 sa h
    by_cases e7 : k = 7
    · subst e7; exact rord_k7 i s c nf ns af ar i' s' c' nf' ns' af' ar' hP sr' wfb.2 (wf_list2 wf) (wf_list2 wfb) (wf_list wf).2 (wf_list wfb).2 sa7 sa7' h
    exact rord_k0 k i s c nf ns af ar i' s' c' nf' ns' af' ar' (fun j h1 h2 h3 => by omega) h
  · have := rord_kinds (.mk k i s c nf ns af ar) (.mk k' i' s' c' nf' ns' af' ar') hk h
    have e : ordF (.mk k i s c nf ns af ar) (.mk k' i' s' c' nf' ns' af' ar') = cmpI k k' := by rw [ordF, if_pos hk]
    rw [e]; exact this
end Go.Bf

set_option linter.unusedVariables false
set_option linter.unusedSimpArgs false
set_option maxRecDepth 20000
namespace Go.AM
theorem frz_agg {h : Heap} {l l' : List AV} (k : FrzAll h l l') : Frz h (.agg l) (.agg l') := by
  cases hr : AV.noRef (.agg l) with
  | true =>
    have : l = l' := by
      simp only [AV.noRef] at hr
      induction l generalizing l' with
      | nil => exact Eq.symm k
      | cons v l ih =>
        obtain ⟨a, b, rfl, ha, hb⟩ := k
        simp only [AV.noRefs, Bool.and_eq_true] at hr
        rw [(frz_noRef hr.1).1 ha, ih hb hr.2]
    subst this
    exact (frz_noRef hr).2 rfl
  | false =>
    obtain ⟨n, hn⟩ := frzAll_mapM k
    refine ⟨n + 1, fun m hm => ?_⟩
    cases m with
    | zero => omega
    | succ m => simp only [freeze, hr, hn m (by omega), Option.map_some]
end Go.AM
namespace Go.Bf
open Go.AM
theorem frz_acc {h : Heap} {sz n : Nat} {v : AV} {cells : List AV} (k : Acc h sz v cells) (hn : AV.noRefs cells = true) (hl : aLen v = some n) : ∃ f, Frz h v (slAV f n cells) := by
  cases k with
  | nils => cases hl; exact ⟨none, (frz_noRef (v := .nils) rfl).2 rfl⟩
  | full m _ hc => cases hl; exact ⟨some true, (frz_noRef (v := .fs true n cells) hn).2 rfl⟩
  | sl id gen m _ hat hc =>
    cases hl
    have ht : (cells.drop 0).take (n * sz) = cells := by rw [List.drop_zero]; exact List.take_of_length_le (by omega)
    refine ⟨some false, (frz_sl hat (by omega) (by rw [ht]; exact hn)).2 ?_⟩
    rw [ht]; rfl
/-- a function that is pure answers in any heap what it answers in one -/
theorem pure_any {f : Nat} {fn : AFunc} {args : List AV} {h0 h : Heap} {v : AV} {c : Cls} (hp : env.prim f = none) (hf : env.func f = some fn) (hu : env.pure_ f = true) (hr : AV.noRefs args = true)
    (w : WC env f args h0 (fun o => o = .ret ⟨v, h0, c⟩)) : WC env f args h (fun o => o = .ret ⟨v, h, .none⟩) := by
  obtain ⟨n, o, hn, ho⟩ := run_of_wc w
  subst ho
  cases n with
  | zero => cases hn
  | succ n =>
    have key : ∀ h, env.call (n + 1) f args h = (env.body (env.call n) n fn args .empty).bind fun
          | .ret r => (Go.AM.freeze r.h n r.v).map fun v => .ret ⟨v, h, .none⟩
          | .panic _ _ => none := by
      intro h
      show (match env.prim f with | some p => _ | none => _) = _
      rw [hp]
      show (env.func f).bind _ = _
      rw [hf]
      show (match env.pure_ f with | true => _ | false => _) = _
      rw [hu]
      show (match AV.noRefs args with | true => _ | false => _) = _
      rw [hr]
      rfl
    refine wc_run (n := n + 1) ?_
    rw [key] at hn ⊢
    cases e : env.body (env.call n) n fn args .empty with
    | none => rw [e] at hn; cases hn
    | some o =>
      rw [e] at hn
      cases o with
      | panic v' h' => cases hn
      | ret r =>
        change (Option.bind (some (COut.ret r)) _) = _ at hn
        change (Option.bind (some (COut.ret r)) _) = _
        simp only [Option.bind_some] at hn ⊢
        cases e2 : Go.AM.freeze r.h n r.v with
        | none => rw [e2] at hn; cases hn
        | some v' =>
          rw [e2] at hn
          simp only [Option.map_some, Option.some.injEq, COut.ret.injEq, OpRes.mk.injEq] at hn
          simp only [Option.map_some]
          rw [hn.1]
mutual
def er : Tm → Tm
  | .mk k i s c nf ns af ar => .mk k i s c none ns none (ers ar)
def ers : List Tm → List Tm
  | [] => []
  | t :: l => er t :: ers l
end
theorem ers_append : ∀ (l m : List Tm), ers (l ++ m) = ers l ++ ers m
  | [], m => rfl
  | t :: l, m => by rw [List.cons_append, ers, ers_append l m]; rfl
theorem ers_length : ∀ l : List Tm, (ers l).length = l.length
  | [] => rfl
  | t :: l => by rw [ers, List.length_cons, List.length_cons, ers_length l]
theorem tcs_append : ∀ (l m : List Tm), tcs (l ++ m) = tcs l ++ tcs m
  | [], m => rfl
  | t :: l, m => by rw [List.cons_append, tcs, tcs_append l m, tcs, List.append_assoc]
theorem oks_append : ∀ {l m : List Tm}, Oks l → Oks m → Oks (l ++ m)
  | [], _, _, h => h
  | t :: l, m, h, h2 => by
    rw [Oks] at h
    rw [List.cons_append, Oks]
    exact ⟨h.1, oks_append h.2 h2⟩
theorem wf_nums {t : Tm} (w : Wf t) : ∀ {k i : Int} {s : List UInt8} {c : Int} {nf : Option Bool} {ns : List Int} {af : Option Bool} {ar : List Tm}, t = .mk k i s c nf ns af ar → ns.length ≤ 3 := by
  rintro k i s c nf ns af ar rfl
  have h := w.1.1
  rw [kindOk] at h
  split at h
  · simp [emptyF] at h; rw [h.1.1.2.1]; simp
  split at h
  · simp [emptyF] at h; rw [h.1.1.1]; simp
  split at h
  · simp at h; omega
  split at h
  · simp at h; omega
  split at h
  · simp [emptyF] at h; rw [h.1.2.1]; simp
  split at h
  · simp [emptyF] at h; rw [h.1.1.2.1]; simp
  split at h
  · simp [emptyF] at h; rw [h.1.1.1.2.1]; simp
  · cases h
theorem sliceCells_nums {h : Heap} (f : Option Bool) (ns : List Int) : ∃ c, sliceCells h 1 ns.length (slAV f ns.length (u32s ns)) = some (u32s ns, c) := by
  have hl := u32_length ns
  have ht : (u32s ns).take (ns.length * 1) = u32s ns := List.take_of_length_le (by omega)
  have go : ∀ b, sliceCells h 1 ns.length (.fs b ns.length (u32s ns)) = some (u32s ns, .none) := by
    intro b
    simp only [sliceCells]
    rw [if_pos ⟨Nat.le_refl _, by omega⟩, ht]
  cases f with
  | none =>
    cases ns with
    | nil => exact ⟨_, rfl⟩
    | cons x l => exact ⟨_, go false⟩
  | some b => exact ⟨_, go b⟩
theorem aLen_sl (f : Option Bool) (n : Nat) (cs : List AV) : aLen (slAV f n cs) = some n := by
  cases f with
  | none => cases n <;> rfl
  | some b => rfl
theorem eqs_sl (f : Option Bool) (n : Nat) (cs : List AV) : ∃ b, aEq .slice (slAV f n cs) .nils = some b ∧ (b = true → slAV f n cs = .nils ∧ n = 0) := by
  cases f with
  | none =>
    cases n with
    | zero => exact ⟨true, rfl, fun _ => ⟨rfl, rfl⟩⟩
    | succ n => exact ⟨false, rfl, fun h => by cases h⟩
  | some b => exact ⟨false, rfl, fun h => by cases h⟩
/-- slices.Clone of numbers -/
theorem clone_nums (f : Option Bool) (ns : List Int) (hn : ns.length ≤ 1000) {h : Heap} (ho : HeapOk h) : ∃ v h', WC env 69 [slAV f ns.length (u32s ns)] h (fun o => o = .ret ⟨v, h', .write⟩) ∧ HeapOk h' ∧ h.le h' ∧ Acc h' 1 v (u32s ns) ∧ aLen v = some ns.length ∧ ∀ id, v.own = some id → h.next ≤ id := by
  obtain ⟨b, eb, hb⟩ := eqs_sl f ns.length (u32s ns)
  cases b with
  | true =>
    obtain ⟨e1, e2⟩ := hb rfl
    have e3 : ns = [] := List.length_eq_zero_iff.1 e2
    subst e3
    refine ⟨.nils, h, ?_, ho, Heap.le_refl h, .nils, rfl, fun id e => by cases e⟩
    refine call_body rfl rfl (.inl rfl) ?_
    simp only [a69, a69_0, a69_1, a69_2, Slots.ofList, wpc_draw, s3, reduceIte, Nat.reduceEqDiff, aBin, aInt, negIf, Option.some.injEq, exists_eq_left', Option.map_some, Option.bind_some, eb]
    exact ⟨[.nils], by simp only [Env.results, Option.map_some, get_put, reduceIte, Nat.reduceEqDiff], rfl⟩
  | false =>
    obtain ⟨c0, hc⟩ := sliceCells_nums (h := h) f ns
    obtain ⟨v, h', c', w1, k, l1, ho', l3, l4⟩ := Acc.append (bt := 4) ho (by omega : 0 < 1) (Acc.full (h := h) (sz := 1) 0 [] rfl) (m := 0) rfl (aLen_sl f _ _) hc (by rw [u32_length]; omega) (by omega) (by omega)
    rw [List.nil_append] at k
    rw [Nat.zero_add] at l4
    refine ⟨v, h', ?_, ho', ⟨l1.1, fun id gen cs e => l1.2 id gen cs (by intro e2; cases e2) e⟩, k, l4, fun id e => (l3 id e).elim (fun e2 => by cases e2) (fun e2 => e2)⟩
    refine call_body rfl rfl (.inl rfl) ?_
    have y1 : aFill [] [] = some [] := rfl
    simp only [a69, a69_0, a69_1, a69_3, Slots.ofList, wpc_draw, s3, reduceIte, Nat.reduceEqDiff, aBin, aInt, negIf, Option.some.injEq, exists_eq_left', Option.map_some, Option.bind_some, eb, y1, List.length_nil, Nat.reduceMul, w1, isC c']
    exact ⟨[v], by simp only [Env.results, Option.map_some, get_put, reduceIte, Nat.reduceEqDiff], rfl⟩
end Go.Bf

set_option linter.unusedVariables false
set_option linter.unusedSimpArgs false
set_option maxRecDepth 20000
namespace Go.Bf
open Go.AM
section
variable {h : Heap} {i : Nat} {a b c d e f : AV} (hat : h.at_ i 0 = some [a, b, c, d, e, f])
include hat
theorem st64 {v : AV} (hv : v.row = some [v]) : aStore h 1 (.ptr i 0 4) v = some ⟨.undef, h.upd i 0 [a, b, c, d, v, f], .write⟩ := by
  simp only [aStore, hat, Option.bind_some, hv]; rfl
theorem st65 {v : AV} (hv : v.row = some [v]) : aStore h 1 (.ptr i 0 5) v = some ⟨.undef, h.upd i 0 [a, b, c, d, e, v], .write⟩ := by
  simp only [aStore, hat, Option.bind_some, hv]; rfl
end
theorem fill6 (t : Tm) : aFill [.int .i64 0, .int .i64 0, .str [], .int .u32 0, .nils, .nils] [(0, 6, .agg (tc t))] = some (tc t) := by
  cases t; rfl
theorem one_t (h : Heap) (t : Tm) : sliceCells h 6 1 (.fs true 1 (tc t)) = some (tc t, .none) := by
  have hl := tc_length t
  simp only [sliceCells]
  rw [if_pos ⟨Nat.le_refl _, by omega⟩, List.take_of_length_le (by omega)]
def CopyOk (t : Tm) : Prop := ∃ t', t'.Ok ∧ er t' = er t ∧ ∀ h, WC env 39 [.agg (tc t)] h (fun o => o = .ret ⟨.agg (tc t'), h, .none⟩)
theorem copy_loop {ar : List Tm} (hP : ∀ t, t ∈ ar → CopyOk t) (hlen : ar.length ≤ 4096) {af : Option Bool} {i1 i2 bd : Nat} {C Z : List AV} (b1 : i1 < bd) (b2 : i2 < bd) {Q : AExit → St → Prop} :
    ∀ (f i : Nat) (σ : Slots) (h : Heap) (v : AV) (l : List Tm), ar.length - i < f → i ≤ ar.length → HeapOk h → bd ≤ h.next → h.at_ i1 0 = some C → h.at_ i2 0 = some Z → Acc h 6 v (tcs l) → aLen v = some i → l.length = i → ers l = ers (ar.take i) → Oks l → (∀ id, v.own = some id → bd ≤ id) →
    σ.get 1 = .ptr i1 0 0 → σ.get 2 = .ptr i2 0 0 → σ.get 3 = v → σ.get 11 = slAV af ar.length (tcs ar) → σ.get 12 = .int .i64 ar.length → σ.get 13 = .int .i64 i →
    (∀ σ' h' v' l', Chg (fun j => bd ≤ j) h h' → HeapOk h' → h'.at_ i1 0 = some C → h'.at_ i2 0 = some Z → Acc h' 6 v' (tcs l') → aLen v' = some ar.length → l'.length = ar.length → ers l' = ers ar → Oks l' → (∀ id, v'.own = some id → bd ≤ id) → σ'.get 1 = .ptr i1 0 0 → σ'.get 2 = .ptr i2 0 0 → σ'.get 3 = v' → Q (.exit 0) ⟨σ', h'⟩) →
    WPr env a39_l8 ⟨σ, h⟩ Q := by
  intro f
  induction f with
  | zero => intro i σ h v l h1; omega
  | succ f ih =>
    intro i σ h v l hf hi ho hbd h1 h2 k hv hl he hok hown g1 g2 g3 g11 g12 g13 hQ
    refine wpr_round' fun b hb => ?_
    by_cases c1 : i < ar.length
    · have z0 : ((i : Int) < (ar.length : Int)) = True := eq_true (by omega)
      have zi : IntKind.wrap .i64 ((i : Int) + 1) = ((i + 1 : Nat) : Int) := wrap_nat (by omega) (by omega)
      have lx := idx_args (f := af) c1
      have ld := ld_args c1 h
      obtain ⟨t', ok', er', wc'⟩ := hP ar[i] (List.getElem_mem c1)
      obtain ⟨h3, st3, ho3, le3, at3⟩ := box_t ho ar[i]
      have lt3 := ld_t at3
      have y1 := fill6 t'
      have y2 : (tc t').length = 6 := tc_length t'
      obtain ⟨v', h4, c4, w4, k4, lb4, ho4, ow4, len4⟩ := Acc.append (bt := 88) ho3 (by omega : 0 < 6) (k.le le3) hv (show aLen (.fs true 1 (tc t')) = some 1 from rfl) (one_t h3 t') (by rw [y2]) (by omega) (by omega)
      have cg : Chg (fun j => bd ≤ j) h h4 := le3.chg.trans (lb4.chg fun j e => hown j e)
      have n1 : h4.at_ i1 0 = some C := lb4.2 _ _ _ (fun e => by have := hown _ e; omega) (le3.2 _ _ _ h1)
      have n2 : h4.at_ i2 0 = some Z := lb4.2 _ _ _ (fun e => by have := hown _ e; omega) (le3.2 _ _ _ h2)
      have k4' : Acc h4 6 v' (tcs (l ++ [t'])) := by rw [tcs_append, tcs, tcs, List.append_nil]; exact k4
      simp only [a39_l8, a39_4, a39_5, a39_6, a39_7, wpc_draw, s3, reduceIte, Nat.reduceEqDiff, aBin, aInt, negIf, Option.some.injEq, exists_eq_left', Option.map_some, Option.bind_some, g1, g2, g3, g11, g12, g13, z0, zi, lx, ld, st3, lt3, wc_eq (wc' _), y1, y2, Nat.reduceMul, w4, isC c4]
      subst hb
      refine ih (i + 1) _ h4 v' (l ++ [t']) (by omega) (by omega) ho4 (by have := le3.1; have := lb4.1; omega) n1 n2 k4' len4 (by simp [hl]) ?_ (oks_append hok ⟨ok', trivial⟩) (fun id e => ?_) ?_ ?_ ?_ ?_ ?_ ?_ fun σ' h' v'' l'' p0 => hQ σ' h' v'' l'' (cg.trans p0)
      · rw [List.take_succ_eq_append_getElem c1, ers_append, ers_append, he, ers, ers, ers, ers, er']
      · rcases ow4 id e with e2 | e2
        · exact hown id e2
        · have := le3.1; omega
      · simp only [get_put, reduceIte, Nat.reduceEqDiff, g1]
      · simp only [get_put, reduceIte, Nat.reduceEqDiff, g2]
      · simp only [get_put, reduceIte, Nat.reduceEqDiff]
      · simp only [get_put, reduceIte, Nat.reduceEqDiff, g11]
      · simp only [get_put, reduceIte, Nat.reduceEqDiff, g12]
      · simp only [get_put, reduceIte, Nat.reduceEqDiff]
    · have z0 : ((i : Int) < (ar.length : Int)) = False := eq_false (by omega)
      have hi' : i = ar.length := by omega
      subst hi'
      rw [List.take_length] at he
      simp only [a39_l8, a39_4, wpc_draw, s3, reduceIte, Nat.reduceEqDiff, aBin, aInt, negIf, Option.some.injEq, exists_eq_left', Option.map_some, Option.bind_some, g12, g13, z0]
      refine hQ _ h v l Chg.refl ho h1 h2 k hv hl he hok hown ?_ ?_ ?_ <;> simp only [get_put, reduceIte, Nat.reduceEqDiff, g1, g2, g3]
theorem copy_spec : ∀ t : Tm, t.Ok → Wf t → CopyOk t := by
  refine tm_ind fun k i s c nf ns af ar ih ok wf => ?_
  obtain ⟨ss, sn, sa, sr⟩ := ok.lens
  have hP : ∀ t, t ∈ ar → CopyOk t := fun t m => ih t m (sr.get m) (wf.2.get m)
  have hn3 : ns.length ≤ 3 := wf_nums wf rfl
  have ha4 : ar.length ≤ 4096 := wf.1.2
  rw [Tm.Ok] at ok
  obtain ⟨t, et⟩ : ∃ t : Tm, t = .mk k i s c nf ns af ar := ⟨_, rfl⟩
  have hr : AV.noRefs [.agg (tc t)] = true := by simp only [AV.noRefs, AV.noRef, noRef_tc, Bool.and_self]
  have run : WC env 39 [.agg (tc t)] .empty (fun o => ∃ t' : Tm, t'.Ok ∧ er t' = er t ∧ o = .ret ⟨.agg (tc t'), .empty, .none⟩) := by
    refine call_pure rfl rfl rfl hr ?_
    obtain ⟨cs, ec⟩ : ∃ cs, cs = tc t := ⟨_, rfl⟩
    have ec' : cs = [.int .i64 k, .int .i64 i, .str s, .int .u32 c, slAV nf ns.length (u32s ns), slAV af ar.length (tcs ar)] := by rw [ec, et]; rfl
    rw [← ec]
    obtain ⟨i1, ei1⟩ : ∃ i1, i1 = Heap.empty.next := ⟨_, rfl⟩
    obtain ⟨h1, eh1⟩ : ∃ h1, h1 = Heap.empty.new cs := ⟨_, rfl⟩
    have ho1 : HeapOk h1 := by rw [eh1]; exact HeapOk.empty.new _
    have a1 : h1.at_ i1 0 = some cs := by rw [eh1, ei1]; exact at_new _
    obtain ⟨i2, ei2⟩ : ∃ i2, i2 = h1.next := ⟨_, rfl⟩
    obtain ⟨h2, eh2⟩ : ∃ h2, h2 = h1.new [.int .i64 0, .int .i64 0, .str [], .int .u32 0, .nils, .nils] := ⟨_, rfl⟩
    have ho2 : HeapOk h2 := by rw [eh2]; exact ho1.new _
    have a2 : h2.at_ i1 0 = some cs := by rw [eh2]; exact (le_new ho1 _).2 _ _ _ a1
    have r2 : h2.at_ i2 0 = some [.int .i64 0, .int .i64 0, .str [], .int .u32 0, .nils, .nils] := by rw [eh2, ei2]; exact at_new _
    rw [ec'] at a2
    have y1 : (AV.agg cs).row = some cs := rfl
    have y2 : cs.length = 6 := by rw [ec']; rfl
    have l4 := ld64 a2
    obtain ⟨vn, h3, wn, ho3, le3, kn, len3, own3⟩ := clone_nums nf ns (by omega) ho2
    have a3 := le3.2 _ _ _ a2
    have r3 := le3.2 _ _ _ r2
    have t1 := ho2.lt a2
    have t2 := ho2.lt r2
    have s4 := st64 a3 kn.row
    obtain ⟨h4, eh4⟩ : ∃ h4, h4 = h3.upd i1 0 [.int .i64 k, .int .i64 i, .str s, .int .u32 c, vn, slAV af ar.length (tcs ar)] := ⟨_, rfl⟩
    rw [← eh4] at s4
    have ho4 : HeapOk h4 := by rw [eh4]; exact ho3.upd (at_look.1 a3) _ _
    have a4 : h4.at_ i1 0 = some [.int .i64 k, .int .i64 i, .str s, .int .u32 c, vn, slAV af ar.length (tcs ar)] := by rw [eh4]; exact at_upd
    have hne : i2 ≠ i1 := by have := ho1.lt a1; omega
    have r4 : h4.at_ i2 0 = _ := (by rw [eh4]; exact at_upd_ne hne : h4.at_ i2 0 = h3.at_ i2 0).trans r3
    have ch4 : Chg (fun j => j = i1) h3 h4 := by rw [eh4]; exact upd_chg rfl
    have kn4 : Acc h4 1 vn (u32s ns) := kn.chg ch4 (fun id e => by have := own3 id e; omega)
    have l5 := ld65 a4
    have al : ∀ h, aLenOp false h (slAV af ar.length (tcs ar)) = some ⟨.int .i64 ar.length, h, .none⟩ := fun h => len_sl _ _ _ (fun _ => trivial) h
    simp only [a39, a39_0, a39_1, a39_2, a39_3, Slots.ofList, wpc_draw, s3, reduceIte, Nat.reduceEqDiff, aBin, aInt, negIf, Option.some.injEq, exists_eq_left', Option.map_some, Option.bind_some, y1, y2, ← eh1, ← eh2, ← ei1, ← ei2, aFieldAddr, Nat.zero_add, l4, wc_eq wn, s4, l5, al]
    have hle : h2.next ≤ h4.next := Nat.le_trans le3.1 ch4.1
    have hvn : ∀ id, vn.own = some id → id < h4.next := fun id e => kn4.ownLt ho4 e
    refine copy_loop (ar := ar) hP ha4 (af := af) (i1 := i1) (i2 := i2) (bd := h4.next) (by omega) (by omega) (ar.length + 1) 0 _ h4 .nils [] (by omega) (by omega) ho4 (Nat.le_refl _) a4 r4 .nils rfl rfl rfl trivial (fun id e => by cases e) ?_ ?_ ?_ ?_ ?_ ?_ fun σ' h' v' l' p0 p1 p2 p3 p4 p5 p6 p7 p8 p9 q1 q2 q3 => ?_
    · simp only [get_put, reduceIte, Nat.reduceEqDiff]
    · simp only [get_put, reduceIte, Nat.reduceEqDiff]
    · simp only [get_put, reduceIte, Nat.reduceEqDiff]
    · simp only [get_put, reduceIte, Nat.reduceEqDiff]
    · simp only [get_put, reduceIte, Nat.reduceEqDiff]
    · simp only [get_put, reduceIte, Nat.reduceEqDiff]; rfl
    have kn5 : Acc h' 1 vn (u32s ns) := kn4.chg p0 (fun id e => by have := hvn id e; omega)
    have s5 := st65 p2 p4.row
    obtain ⟨h5, eh5⟩ : ∃ h5, h5 = h'.upd i1 0 [.int .i64 k, .int .i64 i, .str s, .int .u32 c, vn, v'] := ⟨_, rfl⟩
    rw [← eh5] at s5
    have a5 : h5.at_ i1 0 = some [.int .i64 k, .int .i64 i, .str s, .int .u32 c, vn, v'] := by rw [eh5]; exact at_upd
    have r5 : h5.at_ i2 0 = some [.int .i64 0, .int .i64 0, .str [], .int .u32 0, .nils, .nils] := (by rw [eh5]; exact at_upd_ne hne : h5.at_ i2 0 = h'.at_ i2 0).trans p3
    have lb := ld6 a5
    have sb := st6 (a' := .int .i64 k) (b' := .int .i64 i) (c' := .str s) (d' := .int .u32 c) (e' := vn) (f' := v') r5
    obtain ⟨h6, eh6⟩ : ∃ h6, h6 = h5.upd i2 0 [.int .i64 k, .int .i64 i, .str s, .int .u32 c, vn, v'] := ⟨_, rfl⟩
    rw [← eh6] at sb
    have r6 : h6.at_ i2 0 = some [.int .i64 k, .int .i64 i, .str s, .int .u32 c, vn, v'] := by rw [eh6]; exact at_upd
    have ch6 : Chg (fun j => j = i1 ∨ j = i2) h' h6 := by
      rw [eh6, eh5]
      exact (upd_chg (S := fun j => j = i1 ∨ j = i2) (.inl rfl)).trans (upd_chg (S := fun j => j = i1 ∨ j = i2) (.inr rfl))
    obtain ⟨f1, z1⟩ := frz_acc (kn5.chg ch6 (fun id e => by have := own3 id e; omega)) (noRefs_u32 ns) len3
    obtain ⟨f2, z2⟩ := frz_acc (p4.chg ch6 (fun id e => by have := p9 id e; omega)) (noRef_tcs l') p5
    simp only [a39_9, a39_10, wpc_draw, s3, reduceIte, Nat.reduceEqDiff, aBin, aInt, negIf, Option.some.injEq, exists_eq_left', Option.map_some, Option.bind_some, q1, q2, q3, aFieldAddr, Nat.zero_add, s5, lb, sb]
    rw [← p6] at z2
    refine ⟨[.agg [.int .i64 k, .int .i64 i, .str s, .int .u32 c, vn, v']], .agg (tc (.mk k i s c f1 ns f2 l')), ?_, ?_, .mk k i s c f1 ns f2 l', ?_, ?_, rfl⟩
    · simp only [Env.results, Option.map_some, get_put, reduceIte, Nat.reduceEqDiff, q2, ld6 r6, Option.bind_some]
    · exact frz_agg ⟨_, _, rfl, (frz_noRef (v := .int .i64 k) rfl).2 rfl, _, _, rfl, (frz_noRef (v := .int .i64 i) rfl).2 rfl, _, _, rfl, (frz_noRef (v := .str s) rfl).2 rfl, _, _, rfl, (frz_noRef (v := .int .u32 c) rfl).2 rfl, _, _, rfl, z1, _, _, rfl, z2, rfl⟩
    · rw [Tm.Ok]
      exact ⟨ok.1, ok.2.1, ok.2.2.1, ok.2.2.2.1, ss, sn, by omega, p8⟩
    · rw [et, er, er, p7]
  obtain ⟨o, hrun, t', ok', e', rfl⟩ := run
  refine ⟨t', ok', by rw [e', et], fun h => ?_⟩
  rw [← et]
  exact pure_any rfl rfl rfl hr (h0 := .empty) (c := .none) ⟨_, hrun, rfl⟩
end Go.Bf
