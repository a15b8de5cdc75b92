/-
  list: elements and a tail; joined: ++.
-/
import Derived.Test.YtaielgjmhbjfhaaGreatDoorBfRPart
import Derived.Test.YtaielgjmhbjfhaaGreatDoorAmD
import Derived.Test.YtaielgjmhbjfhaaGreatDoorBfRQuote
set_option linter.unusedVariables false
set_option linter.unusedSimpArgs false
set_option maxRecDepth 20000
namespace Go.Bf
open Go.AM
def cmpI (a b : Int) : Int := if a < b then -1 else if a > b then 1 else 0
def cmpS (a b : List UInt8) : Int := if Op.bytesLess a b then -1 else if a == b then 0 else 1
theorem finI {s : St} {n : Nat} {x : Int} {h : Heap} {Q : COut → Prop} (hg : s.σ.get n = .int .i64 x) (hq : Q (.ret ⟨.int .i64 x, h, .none⟩)) : pureQ env [.tmp n] h Q .ret s := fin1 hg rfl rfl hq
theorem finB {s : St} {n : Nat} {x : Bool} {h : Heap} {Q : COut → Prop} (hg : s.σ.get n = .bool x) (hq : Q (.ret ⟨.bool x, h, .none⟩)) : pureQ env [.tmp n] h Q .ret s := fin1 hg rfl rfl hq
theorem nan123 (a : Int) (h : Heap) : WC env 123 [.int .i64 a] h (fun o => o = .ret ⟨.bool false, h, .none⟩) := by
  refine call_pure rfl rfl rfl rfl ?_
  have z : (a != a) = false := by simp
  simp only [a123, a123_0, a123_1, Slots.ofList, wpc_draw, s3, reduceIte, Nat.reduceEqDiff, aBin, aInt, negIf, Option.some.injEq, exists_eq_left', Option.map_some, Option.bind_some, z]
  exact finB (by simp only [get_put, reduceIte, Nat.reduceEqDiff]) rfl
theorem cmp88 (a b : Int) (h : Heap) : WC env 88 [.int .i64 a, .int .i64 b] h (fun o => o = .ret ⟨.int .i64 (cmpI a b), h, .none⟩) := by
  refine call_pure rfl rfl rfl rfl ?_
  by_cases c1 : a < b
  · have z1 : (a < b) = True := eq_true c1
    have e : cmpI a b = -1 := if_pos c1
    simp only [a88, a88_0, a88_1, a88_2, a88_3, a88_7, a88_9, a88_10, Slots.ofList, wpc_draw, s3, reduceIte, Nat.reduceEqDiff, aBin, aInt, negIf, Option.some.injEq, exists_eq_left', Option.map_some, Option.bind_some, z1, wc_eq (nan123 _ _)]
    exact finI (by simp only [get_put, reduceIte, Nat.reduceEqDiff]; rw [e]) rfl
  have z1 : (a < b) = False := eq_false c1
  by_cases c2 : a > b
  · have z2 : (a > b) = True := eq_true c2
    have e : cmpI a b = 1 := by rw [cmpI, if_neg c1, if_pos c2]
    simp only [a88, a88_0, a88_1, a88_2, a88_3, a88_7, a88_9, a88_11, a88_12, Slots.ofList, wpc_draw, s3, reduceIte, Nat.reduceEqDiff, aBin, aInt, negIf, Option.some.injEq, exists_eq_left', Option.map_some, Option.bind_some, z1, z2, wc_eq (nan123 _ _)]
    exact finI (by simp only [get_put, reduceIte, Nat.reduceEqDiff]; rw [e]) rfl
  have z2 : (a > b) = False := eq_false c2
  have e : cmpI a b = 0 := by rw [cmpI, if_neg c1, if_neg c2]
  simp only [a88, a88_0, a88_1, a88_2, a88_3, a88_7, a88_9, a88_11, a88_13, Slots.ofList, wpc_draw, s3, reduceIte, Nat.reduceEqDiff, aBin, aInt, negIf, Option.some.injEq, exists_eq_left', Option.map_some, Option.bind_some, z1, z2, wc_eq (nan123 _ _)]
  exact finI (by simp only [get_put, reduceIte, Nat.reduceEqDiff]; rw [e]) rfl
theorem nan124 (a : Int) (h : Heap) : WC env 124 [.int .i64 a] h (fun o => o = .ret ⟨.bool false, h, .none⟩) := by
  refine call_pure rfl rfl rfl rfl ?_
  have z : (a != a) = false := by simp
  simp only [a124, a124_0, a124_1, Slots.ofList, wpc_draw, s3, reduceIte, Nat.reduceEqDiff, aBin, aInt, negIf, Option.some.injEq, exists_eq_left', Option.map_some, Option.bind_some, z]
  exact finB (by simp only [get_put, reduceIte, Nat.reduceEqDiff]) rfl
theorem cmp89 (a b : Int) (h : Heap) : WC env 89 [.int .i64 a, .int .i64 b] h (fun o => o = .ret ⟨.int .i64 (cmpI a b), h, .none⟩) := by
  refine call_pure rfl rfl rfl rfl ?_
  by_cases c1 : a < b
  · have z1 : (a < b) = True := eq_true c1
    have e : cmpI a b = -1 := if_pos c1
    simp only [a89, a89_0, a89_1, a89_2, a89_3, a89_7, a89_9, a89_10, Slots.ofList, wpc_draw, s3, reduceIte, Nat.reduceEqDiff, aBin, aInt, negIf, Option.some.injEq, exists_eq_left', Option.map_some, Option.bind_some, z1, wc_eq (nan124 _ _)]
    exact finI (by simp only [get_put, reduceIte, Nat.reduceEqDiff]; rw [e]) rfl
  have z1 : (a < b) = False := eq_false c1
  by_cases c2 : a > b
  · have z2 : (a > b) = True := eq_true c2
    have e : cmpI a b = 1 := by rw [cmpI, if_neg c1, if_pos c2]
    simp only [a89, a89_0, a89_1, a89_2, a89_3, a89_7, a89_9, a89_11, a89_12, Slots.ofList, wpc_draw, s3, reduceIte, Nat.reduceEqDiff, aBin, aInt, negIf, Option.some.injEq, exists_eq_left', Option.map_some, Option.bind_some, z1, z2, wc_eq (nan124 _ _)]
    exact finI (by simp only [get_put, reduceIte, Nat.reduceEqDiff]; rw [e]) rfl
  have z2 : (a > b) = False := eq_false c2
  have e : cmpI a b = 0 := by rw [cmpI, if_neg c1, if_neg c2]
  simp only [a89, a89_0, a89_1, a89_2, a89_3, a89_7, a89_9, a89_11, a89_13, Slots.ofList, wpc_draw, s3, reduceIte, Nat.reduceEqDiff, aBin, aInt, negIf, Option.some.injEq, exists_eq_left', Option.map_some, Option.bind_some, z1, z2, wc_eq (nan124 _ _)]
  exact finI (by simp only [get_put, reduceIte, Nat.reduceEqDiff]; rw [e]) rfl
theorem nan126 (a : Int) (h : Heap) : WC env 126 [.int .u32 a] h (fun o => o = .ret ⟨.bool false, h, .none⟩) := by
  refine call_pure rfl rfl rfl rfl ?_
  have z : (a != a) = false := by simp
  simp only [a126, a126_0, a126_1, Slots.ofList, wpc_draw, s3, reduceIte, Nat.reduceEqDiff, aBin, aInt, negIf, Option.some.injEq, exists_eq_left', Option.map_some, Option.bind_some, z]
  exact finB (by simp only [get_put, reduceIte, Nat.reduceEqDiff]) rfl
theorem cmp92 (a b : Int) (h : Heap) : WC env 92 [.int .u32 a, .int .u32 b] h (fun o => o = .ret ⟨.int .i64 (cmpI a b), h, .none⟩) := by
  refine call_pure rfl rfl rfl rfl ?_
  by_cases c1 : a < b
  · have z1 : (a < b) = True := eq_true c1
    have e : cmpI a b = -1 := if_pos c1
    simp only [a92, a92_0, a92_1, a92_2, a92_3, a92_7, a92_9, a92_10, Slots.ofList, wpc_draw, s3, reduceIte, Nat.reduceEqDiff, aBin, aInt, negIf, Option.some.injEq, exists_eq_left', Option.map_some, Option.bind_some, z1, wc_eq (nan126 _ _)]
    exact finI (by simp only [get_put, reduceIte, Nat.reduceEqDiff]; rw [e]) rfl
  have z1 : (a < b) = False := eq_false c1
  by_cases c2 : a > b
  · have z2 : (a > b) = True := eq_true c2
    have e : cmpI a b = 1 := by rw [cmpI, if_neg c1, if_pos c2]
    simp only [a92, a92_0, a92_1, a92_2, a92_3, a92_7, a92_9, a92_11, a92_12, Slots.ofList, wpc_draw, s3, reduceIte, Nat.reduceEqDiff, aBin, aInt, negIf, Option.some.injEq, exists_eq_left', Option.map_some, Option.bind_some, z1, z2, wc_eq (nan126 _ _)]
    exact finI (by simp only [get_put, reduceIte, Nat.reduceEqDiff]; rw [e]) rfl
  have z2 : (a > b) = False := eq_false c2
  have e : cmpI a b = 0 := by rw [cmpI, if_neg c1, if_neg c2]
  simp only [a92, a92_0, a92_1, a92_2, a92_3, a92_7, a92_9, a92_11, a92_13, Slots.ofList, wpc_draw, s3, reduceIte, Nat.reduceEqDiff, aBin, aInt, negIf, Option.some.injEq, exists_eq_left', Option.map_some, Option.bind_some, z1, z2, wc_eq (nan126 _ _)]
  exact finI (by simp only [get_put, reduceIte, Nat.reduceEqDiff]; rw [e]) rfl
theorem nan127 (a : Int) (h : Heap) : WC env 127 [.int .i64 a] h (fun o => o = .ret ⟨.bool false, h, .none⟩) := by
  refine call_pure rfl rfl rfl rfl ?_
  have z : (a != a) = false := by simp
  simp only [a127, a127_0, a127_1, Slots.ofList, wpc_draw, s3, reduceIte, Nat.reduceEqDiff, aBin, aInt, negIf, Option.some.injEq, exists_eq_left', Option.map_some, Option.bind_some, z]
  exact finB (by simp only [get_put, reduceIte, Nat.reduceEqDiff]) rfl
theorem cmp94 (a b : Int) (h : Heap) : WC env 94 [.int .i64 a, .int .i64 b] h (fun o => o = .ret ⟨.int .i64 (cmpI a b), h, .none⟩) := by
  refine call_pure rfl rfl rfl rfl ?_
  by_cases c1 : a < b
  · have z1 : (a < b) = True := eq_true c1
    have e : cmpI a b = -1 := if_pos c1
    simp only [a94, a94_0, a94_1, a94_2, a94_3, a94_7, a94_9, a94_10, Slots.ofList, wpc_draw, s3, reduceIte, Nat.reduceEqDiff, aBin, aInt, negIf, Option.some.injEq, exists_eq_left', Option.map_some, Option.bind_some, z1, wc_eq (nan127 _ _)]
    exact finI (by simp only [get_put, reduceIte, Nat.reduceEqDiff]; rw [e]) rfl
  have z1 : (a < b) = False := eq_false c1
  by_cases c2 : a > b
  · have z2 : (a > b) = True := eq_true c2
    have e : cmpI a b = 1 := by rw [cmpI, if_neg c1, if_pos c2]
    simp only [a94, a94_0, a94_1, a94_2, a94_3, a94_7, a94_9, a94_11, a94_12, Slots.ofList, wpc_draw, s3, reduceIte, Nat.reduceEqDiff, aBin, aInt, negIf, Option.some.injEq, exists_eq_left', Option.map_some, Option.bind_some, z1, z2, wc_eq (nan127 _ _)]
    exact finI (by simp only [get_put, reduceIte, Nat.reduceEqDiff]; rw [e]) rfl
  have z2 : (a > b) = False := eq_false c2
  have e : cmpI a b = 0 := by rw [cmpI, if_neg c1, if_neg c2]
  simp only [a94, a94_0, a94_1, a94_2, a94_3, a94_7, a94_9, a94_11, a94_13, Slots.ofList, wpc_draw, s3, reduceIte, Nat.reduceEqDiff, aBin, aInt, negIf, Option.some.injEq, exists_eq_left', Option.map_some, Option.bind_some, z1, z2, wc_eq (nan127 _ _)]
  exact finI (by simp only [get_put, reduceIte, Nat.reduceEqDiff]; rw [e]) rfl
theorem nan125 (a : List UInt8) (h : Heap) : WC env 125 [.str a] h (fun o => o = .ret ⟨.bool false, h, .none⟩) := by
  refine call_pure rfl rfl rfl rfl ?_
  have z : (a == a) = true := by simp
  simp only [a125, a125_0, a125_1, Slots.ofList, wpc_draw, s3, reduceIte, Nat.reduceEqDiff, aBin, aInt, negIf, Option.some.injEq, exists_eq_left', Option.map_some, Option.bind_some, aStr, z, Bool.not_true]
  exact finB (by simp only [get_put, reduceIte, Nat.reduceEqDiff]) rfl
theorem cmp90 (a b : List UInt8) (h : Heap) : WC env 90 [.str a, .str b] h (fun o => o = .ret ⟨.int .i64 (cmpS a b), h, .none⟩) := by
  refine call_pure rfl rfl rfl rfl ?_
  cases z1 : Op.bytesLess a b with
  | true =>
    have e : cmpS a b = -1 := by rw [cmpS, z1]; rfl
    simp only [a90, a90_0, a90_1, a90_2, a90_3, a90_7, a90_9, a90_10, Slots.ofList, wpc_draw, s3, reduceIte, Nat.reduceEqDiff, aBin, aInt, negIf, Option.some.injEq, exists_eq_left', Option.map_some, Option.bind_some, aStr, z1, wc_eq (nan125 _ _)]
    exact finI (by simp only [get_put, reduceIte, Nat.reduceEqDiff]; rw [e]) rfl
  | false =>
  cases z2 : (a == b) with
  | false =>
    have e : cmpS a b = 1 := by rw [cmpS, z1, z2]; rfl
    simp only [a90, a90_0, a90_1, a90_2, a90_3, a90_7, a90_9, a90_11, a90_12, Slots.ofList, wpc_draw, s3, reduceIte, Nat.reduceEqDiff, aBin, aInt, negIf, Option.some.injEq, exists_eq_left', Option.map_some, Option.bind_some, aStr, z1, z2, Bool.or_false, Bool.not_false, wc_eq (nan125 _ _)]
    exact finI (by simp only [get_put, reduceIte, Nat.reduceEqDiff]; rw [e]) rfl
  | true =>
  have e : cmpS a b = 0 := by rw [cmpS, z1, z2]; rfl
  simp only [a90, a90_0, a90_1, a90_2, a90_3, a90_7, a90_9, a90_11, a90_13, Slots.ofList, wpc_draw, s3, reduceIte, Nat.reduceEqDiff, aBin, aInt, negIf, Option.some.injEq, exists_eq_left', Option.map_some, Option.bind_some, aStr, z1, z2, Bool.or_true, Bool.not_true, wc_eq (nan125 _ _)]
  exact finI (by simp only [get_put, reduceIte, Nat.reduceEqDiff]; rw [e]) rfl
/-- the first of them that is not zero -/
def orI : List Int → Int
  | [] => 0
  | x :: l => if x ≠ 0 then x else orI l
theorem or2 (x y : Int) (h : Heap) : WC env 91 [.fs true 2 [.int .i64 x, .int .i64 y]] h (fun o => o = .ret ⟨.int .i64 (orI [x, y]), h, .none⟩) := by
  have go : ran a91 [.fs true 2 [.int .i64 x, .int .i64 y]] = some (.int .i64 (orI [x, y])) := by
    cases i0 x <;> cases i0 y <;> kernel_rfl
  exact pure_run (n := 29) rfl rfl rfl rfl rfl go
theorem or3 (x y z : Int) (h : Heap) : WC env 91 [.fs true 3 [.int .i64 x, .int .i64 y, .int .i64 z]] h (fun o => o = .ret ⟨.int .i64 (orI [x, y, z]), h, .none⟩) := by
  have go : ran a91 [.fs true 3 [.int .i64 x, .int .i64 y, .int .i64 z]] = some (.int .i64 (orI [x, y, z])) := by
    cases i0 x <;> cases i0 y <;> cases i0 z <;> kernel_rfl
  exact pure_run (n := 29) rfl rfl rfl rfl rfl go
def cmpNs : List Int → List Int → Int
  | [], [] => 0
  | [], _ :: _ => -1
  | _ :: _, [] => 1
  | a :: l, b :: m => if cmpI a b ≠ 0 then cmpI a b else cmpNs l m
theorem u32_length (l : List Int) : (u32s l).length = l.length := List.length_map _
theorem idx_nums {f : Option Bool} {l : List Int} {i : Nat} (hi : i < l.length) : aIdxAddr 1 (slAV f l.length (u32s l)) (.int .i64 i) = some (.fp ((u32s l).drop i)) := by
  have hl := u32_length l
  have go : ∀ b, aIdxAddr 1 (.fs b l.length (u32s l)) (.int .i64 i) = some (.fp ((u32s l).drop i)) := by
    intro b
    cases e : u32s l with
    | nil => rw [e] at hl; simp at hl; omega
    | cons c cs => simp only [aIdxAddr, aIndex_nat (kd := .i64) hi, Option.map_some, Nat.mul_one]
  cases f with
  | none =>
    cases n : l.length with
    | zero => omega
    | succ n => have := go false; rw [n] at this; exact this
  | some b => exact go b
theorem ld_nums {l : List Int} {i : Nat} (hi : i < l.length) (h : Heap) : aLoad h false 1 (.fp ((u32s l).drop i)) = some ⟨.int .u32 l[i], h, .none⟩ := by
  have : (u32s l).drop i = .int .u32 l[i] :: u32s (l.drop (i + 1)) := by
    rw [u32s, List.drop_eq_getElem_cons (by simpa using hi)]
    simp [u32s]
  rw [this]; rfl
theorem nums_loop {f1 f2 : Option Bool} {l m : List Int} (hl : l.length < 9223372036854775808) (hm : m.length < 9223372036854775808) {h : Heap} {Q : AExit → St → Prop} :
    ∀ (f i : Nat) (σ : Slots), l.length - i < f → i ≤ l.length → i ≤ m.length → σ.get 0 = slAV f1 l.length (u32s l) → σ.get 1 = slAV f2 m.length (u32s m) → σ.get 9 = slAV f1 l.length (u32s l) → σ.get 10 = .int .i64 l.length → σ.get 11 = .int .i64 i →
    (∀ σ', (∀ x, σ'.get 4 = .int .i64 x → x = cmpNs (l.drop i) (m.drop i) → Q .ret ⟨σ', h⟩) ∧ (σ'.get 0 = σ.get 0 → σ'.get 1 = σ.get 1 → (l.drop (min l.length m.length) = [] ∧ (cmpNs (l.drop i) (m.drop i) = if l.length < m.length then -1 else 0)) → Q (.exit 0) ⟨σ', h⟩)) →
    WPr env a93_l11 ⟨σ, h⟩ Q := by
  intro f
  induction f with
  | zero => intro i σ h1; omega
  | succ f ih =>
    intro i σ hf hi hi' g0 g1 g9 g10 g11 hQ
    refine wpr_round' fun b hb => ?_
    have nm : ∀ h, aLenOp false h (slAV f2 m.length (u32s m)) = some ⟨.int .i64 m.length, h, .none⟩ := fun h => len_sl _ _ _ (fun _ => trivial) h
    by_cases c1 : i < l.length
    · have z0 : ((i : Int) < (l.length : Int)) = True := eq_true (by omega)
      have zi : IntKind.wrap .i64 ((i : Int) + 1) = ((i + 1 : Nat) : Int) := wrap_nat (by omega) (by omega)
      have lx := idx_nums (f := f1) c1
      have ld := ld_nums c1 h
      have hd1 : l.drop i = l[i] :: l.drop (i + 1) := List.drop_eq_getElem_cons c1
      by_cases c2 : i < m.length
      · have z1 : ((i : Int) ≥ (m.length : Int)) = False := eq_false (by omega)
        have lx2 := idx_nums (f := f2) c2
        have ld2 := ld_nums c2 h
        have hd2 : m.drop i = m[i] :: m.drop (i + 1) := List.drop_eq_getElem_cons c2
        rw [hd1, hd2, cmpNs] at hQ
        by_cases c3 : cmpI l[i] m[i] = 0
        · have z3 : (cmpI l[i] m[i] != 0) = false := by simpa using c3
          rw [if_neg (by omega)] at hQ
          simp only [a93_l11, a93_2, a93_3, a93_4, a93_6, a93_7, a93_8, a93_10, wpc_draw, s3, reduceIte, Nat.reduceEqDiff, aBin, aInt, negIf, Option.some.injEq, exists_eq_left', Option.map_some, Option.bind_some, g0, g1, g9, g10, g11, z0, z1, zi, lx, ld, lx2, ld2, nm, wc_eq (cmp92 _ _ _), z3]
          subst hb
          refine ih (i + 1) _ (by omega) (by omega) (by omega) ?_ ?_ ?_ ?_ ?_ fun σ' => ⟨fun x => (hQ σ').1 x, fun e0 e1 => (hQ σ').2 (by rw [e0]; simp only [get_put, reduceIte, Nat.reduceEqDiff]) (by rw [e1]; simp only [get_put, reduceIte, Nat.reduceEqDiff])⟩
          · simp only [get_put, reduceIte, Nat.reduceEqDiff, g0]
          · simp only [get_put, reduceIte, Nat.reduceEqDiff, g1]
          · simp only [get_put, reduceIte, Nat.reduceEqDiff, g9]
          · simp only [get_put, reduceIte, Nat.reduceEqDiff, g10]
          · simp only [get_put, reduceIte, Nat.reduceEqDiff]
        · have z3 : (cmpI l[i] m[i] != 0) = true := by simpa using c3
          rw [if_pos c3] at hQ
          simp only [a93_l11, a93_2, a93_3, a93_4, a93_6, a93_7, a93_8, a93_9, wpc_draw, s3, reduceIte, Nat.reduceEqDiff, aBin, aInt, negIf, Option.some.injEq, exists_eq_left', Option.map_some, Option.bind_some, g0, g1, g9, g10, g11, z0, z1, zi, lx, ld, lx2, ld2, nm, wc_eq (cmp92 _ _ _), z3]
          exact (hQ _).1 _ (by simp only [get_put, reduceIte, Nat.reduceEqDiff]) rfl
      · have z1 : ((i : Int) ≥ (m.length : Int)) = True := eq_true (by omega)
        have hd2 : m.drop i = [] := List.drop_of_length_le (by omega)
        rw [hd1, hd2, cmpNs] at hQ
        simp only [a93_l11, a93_2, a93_3, a93_4, a93_5, wpc_draw, s3, reduceIte, Nat.reduceEqDiff, aBin, aInt, negIf, Option.some.injEq, exists_eq_left', Option.map_some, Option.bind_some, g0, g1, g9, g10, g11, z0, z1, zi, lx, ld, nm]
        exact (hQ _).1 _ (by simp only [get_put, reduceIte, Nat.reduceEqDiff]) rfl
    · have z0 : ((i : Int) < (l.length : Int)) = False := eq_false (by omega)
      have hd1 : l.drop i = [] := List.drop_of_length_le (by omega)
      simp only [a93_l11, a93_2, wpc_draw, s3, reduceIte, Nat.reduceEqDiff, aBin, aInt, negIf, Option.some.injEq, exists_eq_left', Option.map_some, Option.bind_some, g10, g11, z0]
      refine (hQ _).2 (by simp only [get_put, reduceIte, Nat.reduceEqDiff]) (by simp only [get_put, reduceIte, Nat.reduceEqDiff]) ⟨List.drop_of_length_le (by omega), ?_⟩
      rw [hd1]
      cases e : m.drop i with
      | nil =>
        have : m.length ≤ i := List.drop_eq_nil_iff.1 e
        rw [if_neg (by omega), cmpNs]
      | cons x y =>
        have : ¬ m.length ≤ i := fun c => by rw [List.drop_of_length_le c] at e; cases e
        rw [if_pos (by omega), cmpNs]
theorem nums_spec (f1 f2 : Option Bool) (l m : List Int) (hl : l.length < 9223372036854775808) (hm : m.length < 9223372036854775808) (h : Heap) : WC env 93 [slAV f1 l.length (u32s l), slAV f2 m.length (u32s m)] h (fun o => o = .ret ⟨.int .i64 (cmpNs l m), h, .none⟩) := by
  refine call_pure rfl rfl rfl (by simp only [AV.noRefs, noRef_sl _ _ (noRefs_u32 _), Bool.and_self]) ?_
  have nl : ∀ h, aLenOp false h (slAV f1 l.length (u32s l)) = some ⟨.int .i64 l.length, h, .none⟩ := fun h => len_sl _ _ _ (fun _ => trivial) h
  have nm : ∀ h, aLenOp false h (slAV f2 m.length (u32s m)) = some ⟨.int .i64 m.length, h, .none⟩ := fun h => len_sl _ _ _ (fun _ => trivial) h
  simp only [a93, a93_0, a93_1, Slots.ofList, wpc_draw, s3, reduceIte, Nat.reduceEqDiff, aBin, aInt, negIf, Option.some.injEq, exists_eq_left', Option.map_some, Option.bind_some, nl]
  refine nums_loop (f1 := f1) (f2 := f2) hl hm (l.length + 1) 0 _ (by omega) (by omega) (by omega) ?_ ?_ ?_ ?_ ?_ fun σ' => ⟨fun x g e => ?_, fun e0 e1 e => ?_⟩
  · simp only [get_put, reduceIte, Nat.reduceEqDiff]
  · simp only [get_put, reduceIte, Nat.reduceEqDiff]
  · simp only [get_put, reduceIte, Nat.reduceEqDiff]
  · simp only [get_put, reduceIte, Nat.reduceEqDiff]
  · simp only [get_put, reduceIte, Nat.reduceEqDiff]; rfl
  · simp only [wpc_draw, s3, reduceIte, Nat.reduceEqDiff, aBin, aInt, negIf, Option.some.injEq, exists_eq_left', Option.map_some, Option.bind_some]
    exact finI g (by rw [e]; rfl)
  · simp only [get_put, reduceIte, Nat.reduceEqDiff] at e0 e1
    by_cases c : l.length < m.length
    · have z : ((l.length : Int) < (m.length : Int)) = True := eq_true (by omega)
      have e := e.2
      rw [if_pos c, List.drop_zero, List.drop_zero] at e
      simp only [a93_12, a93_13, wpc_draw, s3, reduceIte, Nat.reduceEqDiff, aBin, aInt, negIf, Option.some.injEq, exists_eq_left', Option.map_some, Option.bind_some, e0, e1, nl, nm, z]
      exact finI (by simp only [get_put, reduceIte, Nat.reduceEqDiff]; rw [e]) rfl
    · have z : ((l.length : Int) < (m.length : Int)) = False := eq_false (by omega)
      have e := e.2
      rw [if_neg c, List.drop_zero, List.drop_zero] at e
      simp only [a93_12, a93_14, wpc_draw, s3, reduceIte, Nat.reduceEqDiff, aBin, aInt, negIf, Option.some.injEq, exists_eq_left', Option.map_some, Option.bind_some, e0, e1, nl, nm, z]
      exact finI (by simp only [get_put, reduceIte, Nat.reduceEqDiff]; rw [e]) rfl
end Go.Bf

set_option linter.unusedVariables false
set_option linter.unusedSimpArgs false
set_option maxRecDepth 20000
namespace Go.AM
/-- a call of a value that is known -/
def callvK (E : Env) : Option AV → Option (List AV) → Heap → (COut → Prop) → Prop
  | some (.fn (.func g) first cap), some vs, h, Q => WC E g (first ++ vs ++ cap) h Q
  | _, _, _, _ => False
theorem wp1_callv' {E : Env} {f : Opd} {args : List Opd} {d : Option Nat} {s : St} {K : St → Cls → Prop} {Q : AExit → St → Prop} : wp1 E (.callv f args) d s K Q = callvK E (E.opd s.σ f) (E.opds s.σ args) s.h (callK s d K Q) := by
  refine propext ⟨?_, ?_⟩
  · rintro ⟨g, first, cap, vs, h1, h2, h3⟩
    rw [h1, h2]; exact h3
  · intro h
    unfold callvK at h
    split at h
    · rename_i g first cap vs e1 e2
      exact ⟨g, first, cap, vs, e1, e2, h⟩
    · exact h.elim
theorem callvK_fn {E : Env} {g : Nat} {vs : List AV} {h : Heap} {Q : COut → Prop} : callvK E (some (.fn (.func g) [] [])) (some vs) h Q = WC E g vs h Q := by
  show WC E g ([] ++ vs ++ []) h Q = _
  rw [List.nil_append, List.append_nil]
end Go.AM
namespace Go.Bf
open Go.AM
mutual
def Wf : Tm → Prop
  | .mk k i s c nf ns af ar => (kindOk (.mk k i s c nf ns af ar) = true ∧ ar.length ≤ 4096) ∧ Wfs ar
def Wfs : List Tm → Prop
  | [] => True
  | t :: l => Wf t ∧ Wfs l
end
theorem Wfs.get : ∀ {l : List Tm} (h : Wfs l) {t : Tm}, t ∈ l → Wf t
  | [], h, t, m => by simp at m
  | u :: l, h, t, m => by
    rw [Wfs] at h
    rcases List.mem_cons.1 m with rfl | m
    · exact h.1
    · exact Wfs.get h.2 m
theorem walk_grows : ∀ t deep n d, (walkF t deep n d).1 = none → n + 1 ≤ (walkF t deep n d).2.1 := by
  refine tm_ind fun k i s c nf ns af ar ih deep n d h => ?_
  have go : ∀ (l : List Tm), (∀ t, t ∈ l → t ∈ ar) → ∀ deep n d, (walkFs l deep n d).1 = none → n + l.length ≤ (walkFs l deep n d).2.1 := by
    intro l
    induction l with
    | nil => intro _ _ _ _ _; exact Nat.le_refl _
    | cons t l ihl =>
      intro hl deep n d h
      have h1 := ih t (hl t (by simp)) deep n d
      rw [walkFs] at h ⊢
      split at h
      · rename_i n' d' e
        rw [e] at h1
        have h2 := ihl (fun t m => hl t (by simp [m])) _ _ _ h
        have h1 := h1 rfl
        simp only [List.length_cons] at h1 h2 ⊢
        omega
      · cases h
  rw [walkF] at h ⊢
  split at h
  · cases h
  rename_i c1
  rw [if_neg c1]
  split at h
  · cases h
  rename_i c2
  rw [if_neg c2]
  split at h
  · cases h
  rename_i c3
  exact Nat.le_trans (by omega) (go ar (fun _ m => m) _ _ _ h)
theorem walks_grow : ∀ (l : List Tm) deep n d, (walkFs l deep n d).1 = none → n + l.length ≤ (walkFs l deep n d).2.1
  | [], _, _, _, _ => Nat.le_refl _
  | t :: l, deep, n, d, h => by
    have h1 := walk_grows t deep n d
    rw [walkFs] at h ⊢
    split at h
    · rename_i n' d' e
      rw [e] at h1
      have h2 := walks_grow l _ _ _ h
      have h1 := h1 rfl
      simp only [List.length_cons] at h1 h2 ⊢
      omega
    · cases h
theorem walks_le : ∀ (l : List Tm) deep n d, n ≤ 4096 → d ≤ 256 → (walkFs l deep n d).2.1 ≤ 4096 ∧ (walkFs l deep n d).2.2 ≤ 256
  | [], _, _, _, hn, hd => ⟨hn, hd⟩
  | t :: l, deep, n, d, hn, hd => by
    have h1 := walk_le t deep n d hn hd
    rw [walkFs]
    split
    · rename_i n' d' e
      rw [e] at h1
      exact walks_le l _ _ _ h1.1 h1.2
    · rename_i n' d' e
      rw [e] at h1
      exact h1
theorem wf_walk : ∀ t deep n d, n ≤ 4096 → d ≤ 256 → (walkF t deep n d).1 = none → Wf t := by
  refine tm_ind fun k i s c nf ns af ar ih deep n d hn hd h => ?_
  have go : ∀ (l : List Tm), (∀ t, t ∈ l → t ∈ ar) → ∀ deep n d, n ≤ 4096 → d ≤ 256 → (walkFs l deep n d).1 = none → Wfs l := by
    intro l
    induction l with
    | nil => intro _ _ _ _ _ _ _; trivial
    | cons t l ihl =>
      intro hl deep n d hn hd h
      have h1 := ih t (hl t (by simp)) deep n d hn hd
      have hb := walk_le t deep n d hn hd
      rw [walkFs] at h
      split at h
      · rename_i n' d' e
        rw [e] at h1 hb
        exact ⟨h1 rfl, ihl (fun t m => hl t (by simp [m])) _ _ _ hb.1 hb.2 h⟩
      · cases h
  rw [walkF] at h
  split at h
  · cases h
  rename_i c1
  split at h
  · cases h
  rename_i c2
  split at h
  · cases h
  · rename_i e
    have h1 := walks_grow _ _ _ _ h
    have h2 := (walks_le ar (deep + 1) (n + 1) (max d deep) (by omega) (by omega)).1
    refine ⟨⟨?_, by omega⟩, go ar (fun _ m => m) _ _ _ (by omega) (by omega) h⟩
    cases hk : kindOk (.mk k i s c nf ns af ar) with
    | true => rfl
    | false => rw [formF, if_pos hk] at e; cases e
theorem wf_chk {t : Tm} (h : chkF t = none) : Wf t := wf_walk t 1 0 0 (by omega) (by omega) h
mutual
def ordF : Tm → Tm → Int
  | .mk k i s c nf ns af ar, .mk k' i' s' c' nf' ns' af' ar' =>
    if k ≠ k' then cmpI k k'
    else if k = 1 then cmpI i i'
    else if k = 2 then cmpS s s'
    else if k = 3 ∨ k = 4 then orI [cmpS s s', cmpI c c', cmpNs ns ns']
    else if k = 5 then orI [cmpI ar.length ar'.length, ordFs ar ar']
    else if k = 7 then ordL ar ar'
    else 0
def ordFs : List Tm → List Tm → Int
  | [], [] => 0
  | [], _ :: _ => -1
  | _ :: _, [] => 1
  | a :: l, b :: m => if ordF a b ≠ 0 then ordF a b else ordFs l m
def ordL : List Tm → List Tm → Int
  | [], _ => 0
  | _ :: _, [] => 0
  | a :: l, b :: m =>
    if l.length = 0 then (if m.length = 0 then ordF a b else cmpI a.kind 7)
    else if m.length = 0 then cmpI 7 b.kind
    else if ordF a b ≠ 0 then ordF a b else ordL l m
end
def OrdOk (a : Tm) : Prop := ∀ b, b.Ok → Wf b → ∀ h, WC env 53 [.agg (tc a), .agg (tc b)] h (fun o => o = .ret ⟨.int .i64 (ordF a b), h, .none⟩)
theorem cmpf_loop {f1 f2 : Option Bool} {l m : List Tm} (hP : ∀ t, t ∈ l → OrdOk t) (okm : Oks m) (wfm : Wfs m) (hl : l.length < 9223372036854775808) (hm : m.length < 9223372036854775808) {Q : AExit → St → Prop} :
    ∀ (f i : Nat) (σ : Slots) (h : Heap), l.length - i < f → i ≤ l.length → i ≤ m.length → HeapOk h → σ.get 0 = slAV f1 l.length (tcs l) → σ.get 1 = slAV f2 m.length (tcs m) → σ.get 2 = .fn (.func 53) [] [] → σ.get 11 = slAV f1 l.length (tcs l) → σ.get 12 = .int .i64 l.length → σ.get 13 = .int .i64 i →
    (∀ σ' h', (∀ x, σ'.get 6 = .int .i64 x → x = ordFs (l.drop i) (m.drop i) → Q .ret ⟨σ', h'⟩) ∧ (σ'.get 0 = σ.get 0 → σ'.get 1 = σ.get 1 → (ordFs (l.drop i) (m.drop i) = if l.length < m.length then -1 else 0) → Q (.exit 0) ⟨σ', h'⟩)) →
    WPr env a95_l11 ⟨σ, h⟩ Q := by
  intro f
  induction f with
  | zero => intro i σ h h1; omega
  | succ f ih =>
    intro i σ h hf hi hi' ho g0 g1 g2 g11 g12 g13 hQ
    refine wpr_round' fun b hb => ?_
    have nm : ∀ h, aLenOp false h (slAV f2 m.length (tcs m)) = some ⟨.int .i64 m.length, h, .none⟩ := fun h => len_sl _ _ _ (fun _ => trivial) h
    by_cases c1 : i < l.length
    · have z0 : ((i : Int) < (l.length : Int)) = True := eq_true (by omega)
      have zi : IntKind.wrap .i64 ((i : Int) + 1) = ((i + 1 : Nat) : Int) := wrap_nat (by omega) (by omega)
      have lx := idx_args (f := f1) c1
      have ld := ld_args c1 h
      have hd1 : l.drop i = l[i] :: l.drop (i + 1) := List.drop_eq_getElem_cons c1
      obtain ⟨h2, st2, ho2, le2, at2⟩ := box_t ho l[i]
      by_cases c2 : i < m.length
      · have z1 : ((i : Int) ≥ (m.length : Int)) = False := eq_false (by omega)
        have lx2 := idx_args (f := f2) c2
        have ld2 := ld_args c2 h2
        have hd2 : m.drop i = m[i] :: m.drop (i + 1) := List.drop_eq_getElem_cons c2
        obtain ⟨h3, st3, ho3, le3, at3⟩ := box_t ho2 m[i]
        have lt2 := ld_t (le3.2 _ _ _ at2)
        have lt3 := ld_t at3
        have wo := hP l[i] (List.getElem_mem c1) m[i] (okm.get (List.getElem_mem c2)) (wfm.get (List.getElem_mem c2))
        rw [hd1, hd2, ordFs] at hQ
        by_cases c3 : ordF l[i] m[i] = 0
        · have z3 : (ordF l[i] m[i] != 0) = false := by simpa using c3
          rw [if_neg (by omega)] at hQ
          simp only [a95_l11, a95_2, a95_3, a95_4, a95_6, a95_7, a95_8, a95_10, wpc_draw, s3, reduceIte, Nat.reduceEqDiff, aBin, aInt, negIf, Option.some.injEq, exists_eq_left', Option.map_some, Option.bind_some, wp1_callv', callvK_fn, g0, g1, g2, g11, g12, g13, z0, z1, zi, lx, ld, lx2, ld2, nm, st2, st3, lt2, lt3, wc_eq (wo _), z3]
          subst hb
          refine ih (i + 1) _ h3 (by omega) (by omega) (by omega) ho3 ?_ ?_ ?_ ?_ ?_ ?_ fun σ' h' => ⟨fun x => (hQ σ' h').1 x, fun e0 e1 => (hQ σ' h').2 (by rw [e0]; simp only [get_put, reduceIte, Nat.reduceEqDiff]) (by rw [e1]; simp only [get_put, reduceIte, Nat.reduceEqDiff])⟩
          · simp only [get_put, reduceIte, Nat.reduceEqDiff, g0]
          · simp only [get_put, reduceIte, Nat.reduceEqDiff, g1]
          · simp only [get_put, reduceIte, Nat.reduceEqDiff, g2]
          · simp only [get_put, reduceIte, Nat.reduceEqDiff, g11]
          · simp only [get_put, reduceIte, Nat.reduceEqDiff, g12]
          · simp only [get_put, reduceIte, Nat.reduceEqDiff]
        · have z3 : (ordF l[i] m[i] != 0) = true := by simpa using c3
          rw [if_pos c3] at hQ
          simp only [a95_l11, a95_2, a95_3, a95_4, a95_6, a95_7, a95_8, a95_9, wpc_draw, s3, reduceIte, Nat.reduceEqDiff, aBin, aInt, negIf, Option.some.injEq, exists_eq_left', Option.map_some, Option.bind_some, wp1_callv', callvK_fn, g0, g1, g2, g11, g12, g13, z0, z1, zi, lx, ld, lx2, ld2, nm, st2, st3, lt2, lt3, wc_eq (wo _), z3]
          exact (hQ _ _).1 _ (by simp only [get_put, reduceIte, Nat.reduceEqDiff]) rfl
      · have z1 : ((i : Int) ≥ (m.length : Int)) = True := eq_true (by omega)
        have hd2 : m.drop i = [] := List.drop_of_length_le (by omega)
        rw [hd1, hd2, ordFs] at hQ
        simp only [a95_l11, a95_2, a95_3, a95_4, a95_5, wpc_draw, s3, reduceIte, Nat.reduceEqDiff, aBin, aInt, negIf, Option.some.injEq, exists_eq_left', Option.map_some, Option.bind_some, g0, g1, g11, g12, g13, z0, z1, zi, lx, ld, nm, st2]
        exact (hQ _ _).1 _ (by simp only [get_put, reduceIte, Nat.reduceEqDiff]) rfl
    · have z0 : ((i : Int) < (l.length : Int)) = False := eq_false (by omega)
      have hd1 : l.drop i = [] := List.drop_of_length_le (by omega)
      simp only [a95_l11, a95_2, wpc_draw, s3, reduceIte, Nat.reduceEqDiff, aBin, aInt, negIf, Option.some.injEq, exists_eq_left', Option.map_some, Option.bind_some, g12, g13, z0]
      refine (hQ _ _).2 (by simp only [get_put, reduceIte, Nat.reduceEqDiff]) (by simp only [get_put, reduceIte, Nat.reduceEqDiff]) ?_
      rw [hd1]
      cases e : m.drop i with
      | nil =>
        have : m.length ≤ i := List.drop_eq_nil_iff.1 e
        rw [if_neg (by omega), ordFs]
      | cons x y =>
        have : ¬ m.length ≤ i := fun c => by rw [List.drop_of_length_le c] at e; cases e
        rw [if_pos (by omega), ordFs]
theorem cmpf_spec (f1 f2 : Option Bool) (l m : List Tm) (hP : ∀ t, t ∈ l → OrdOk t) (okm : Oks m) (wfm : Wfs m) (hl : l.length < 9223372036854775808) (hm : m.length < 9223372036854775808) (h : Heap) : WC env 95 [slAV f1 l.length (tcs l), slAV f2 m.length (tcs m), .fn (.func 53) [] []] h (fun o => o = .ret ⟨.int .i64 (ordFs l m), h, .none⟩) := by
  refine call_pure rfl rfl rfl (by simp only [AV.noRefs, AV.noRef, noRef_sl _ _ (noRef_tcs _), Bool.and_self]) ?_
  have nl : ∀ h, aLenOp false h (slAV f1 l.length (tcs l)) = some ⟨.int .i64 l.length, h, .none⟩ := fun h => len_sl _ _ _ (fun _ => trivial) h
  have nm : ∀ h, aLenOp false h (slAV f2 m.length (tcs m)) = some ⟨.int .i64 m.length, h, .none⟩ := fun h => len_sl _ _ _ (fun _ => trivial) h
  simp only [a95, a95_0, a95_1, Slots.ofList, wpc_draw, s3, reduceIte, Nat.reduceEqDiff, aBin, aInt, negIf, Option.some.injEq, exists_eq_left', Option.map_some, Option.bind_some, nl]
  refine cmpf_loop (f1 := f1) (f2 := f2) hP okm wfm hl hm (l.length + 1) 0 _ _ (by omega) (by omega) (by omega) HeapOk.empty ?_ ?_ ?_ ?_ ?_ ?_ fun σ' h' => ⟨fun x g e => ?_, fun e0 e1 e => ?_⟩
  · simp only [get_put, reduceIte, Nat.reduceEqDiff]
  · simp only [get_put, reduceIte, Nat.reduceEqDiff]
  · simp only [get_put, reduceIte, Nat.reduceEqDiff]
  · simp only [get_put, reduceIte, Nat.reduceEqDiff]
  · simp only [get_put, reduceIte, Nat.reduceEqDiff]
  · simp only [get_put, reduceIte, Nat.reduceEqDiff]; rfl
  · simp only [wpc_draw, s3, reduceIte, Nat.reduceEqDiff, aBin, aInt, negIf, Option.some.injEq, exists_eq_left', Option.map_some, Option.bind_some]
    exact finI g (by rw [e]; rfl)
  · simp only [get_put, reduceIte, Nat.reduceEqDiff] at e0 e1
    rw [List.drop_zero, List.drop_zero] at e
    by_cases c : l.length < m.length
    · have z : ((l.length : Int) < (m.length : Int)) = True := eq_true (by omega)
      rw [if_pos c] at e
      simp only [a95_12, a95_13, wpc_draw, s3, reduceIte, Nat.reduceEqDiff, aBin, aInt, negIf, Option.some.injEq, exists_eq_left', Option.map_some, Option.bind_some, e0, e1, nl, nm, z]
      exact finI (by simp only [get_put, reduceIte, Nat.reduceEqDiff]; rw [e]) rfl
    · have z : ((l.length : Int) < (m.length : Int)) = False := eq_false (by omega)
      rw [if_neg c] at e
      simp only [a95_12, a95_14, wpc_draw, s3, reduceIte, Nat.reduceEqDiff, aBin, aInt, negIf, Option.some.injEq, exists_eq_left', Option.map_some, Option.bind_some, e0, e1, nl, nm, z]
      exact finI (by simp only [get_put, reduceIte, Nat.reduceEqDiff]; rw [e]) rfl
/-- a slice that holds these terms -/
inductive Sl : AV → List Tm → Prop
  | nil : Sl .nils []
  | fs (b : Bool) (l : List Tm) : Sl (.fs b l.length (tcs l)) l
theorem sl_of (f : Option Bool) (l : List Tm) : Sl (slAV f l.length (tcs l)) l := by
  cases f with
  | none => cases l with
    | nil => exact .nil
    | cons a l => exact .fs false (a :: l)
  | some b => exact .fs b l
theorem Sl.noRef {v : AV} {l : List Tm} (h : Sl v l) : v.noRef = true := by
  cases h with
  | nil => rfl
  | fs b l => exact noRef_tcs l
theorem Sl.eq {v : AV} {l : List Tm} (h : Sl v l) : ∃ f, v = slAV f l.length (tcs l) := by
  cases h with
  | nil => exact ⟨none, rfl⟩
  | fs b l => exact ⟨some b, rfl⟩
theorem Sl.len {v : AV} {l : List Tm} (k : Sl v l) (h : Heap) : aLenOp false h v = some ⟨.int .i64 l.length, h, .none⟩ := by
  cases k with
  | nil => rfl
  | fs b l => rfl
theorem Sl.idx {v : AV} {l : List Tm} (k : Sl v l) {i : Nat} (hi : i < l.length) : aIdxAddr 6 v (.int .i64 i) = some (.fp ((tcs l).drop (i * 6))) := by
  obtain ⟨f, rfl⟩ := k.eq; exact idx_args hi
theorem Sl.tail {v : AV} {a : Tm} {l : List Tm} (k : Sl v (a :: l)) : ∃ v', aSlice 6 v (some (.int .i64 1)) none none = some v' ∧ Sl v' l := by
  cases k with
  | fs b l =>
    refine ⟨.fs b l.length (tcs l), ?_, .fs b l⟩
    have e1 : (tcs (a :: l)).length = (a :: l).length * 6 := tcs_length _
    have e2 : bounds (a :: l).length (a :: l).length (some (.int .i64 ((1 : Nat) : Int))) none none = some (1, (a :: l).length, (a :: l).length) := bounds_from (by simp)
    have e3 : ((tcs (a :: l)).drop (1 * 6)).take (((a :: l).length - 1) * 6) = tcs l := by
      rw [tcs, Nat.one_mul, List.drop_append, List.drop_of_length_le (by rw [tc_length]; exact Nat.le_refl _), tc_length, List.nil_append, Nat.sub_self, List.drop_zero]
      exact List.take_of_length_le (by rw [tcs_length]; simp)
    have e2' : bounds (a :: l).length (a :: l).length (some (.int .i64 1)) none none = some (1, (a :: l).length, (a :: l).length) := e2
    simp only [aSlice, e1, if_true, e2', Option.map_some, e3, beq_self_eq_true, Bool.and_true]
    rfl
end Go.Bf

set_option linter.unusedVariables false
set_option linter.unusedSimpArgs false
set_option maxRecDepth 20000
namespace Go.Bf
open Go.AM
theorem fill3 (x y z : Int) : aFill [.int .i64 0, .int .i64 0, .int .i64 0] [(0, 1, .int .i64 x), (1, 1, .int .i64 y), (2, 1, .int .i64 z)] = some [.int .i64 x, .int .i64 y, .int .i64 z] := rfl
theorem len3 (x y z : AV) : ([x, y, z] : List AV).length = 3 := rfl
theorem fill2 (x y : Int) : aFill [.int .i64 0, .int .i64 0] [(0, 1, .int .i64 x), (1, 1, .int .i64 y)] = some [.int .i64 x, .int .i64 y] := rfl
theorem len2 (x y : AV) : ([x, y] : List AV).length = 2 := rfl
theorem left_one {nv av : AV} (hn : SN nv) (ha : SN av) (b : Bool) (k i : Int) (s : List UInt8) (c : Int) : ran a128 [.fs b 1 [.int .i64 k, .int .i64 i, .str s, .int .u32 c, nv, av]] = some (.agg [.int .i64 k, .int .i64 i, .str s, .int .u32 c, nv, av]) := by
  cases hn <;> cases ha <;> kernel_rfl
theorem left_many (b : Bool) (n : Nat) (cs : List AV) : ran a128 [.fs b (n + 2) cs] = some (.agg [.int .i64 7, .int .i64 0, .str [], .int .u32 0, .nils, .fs b (n + 2) cs]) := by kernel_rfl
/-- what is left of a list, as a term -/
theorem left_spec {v : AV} {l : List Tm} (k : Sl v l) (hl : l ≠ []) (h : Heap) : ∃ t : Tm, WC env 128 [v] h (fun o => o = .ret ⟨.agg (tc t), h, .none⟩) ∧ ((∃ a, l = [a] ∧ t = a) ∨ (2 ≤ l.length ∧ ∃ b, t = .mk 7 0 [] 0 none [] (some b) l)) := by
  have hr : AV.noRefs [v] = true := by simp only [AV.noRefs, k.noRef, Bool.and_self]
  cases k with
  | nil => exact absurd rfl hl
  | fs b l =>
    match l, hl with
    | [a], _ =>
      refine ⟨a, ?_, .inl ⟨a, rfl, rfl⟩⟩
      refine pure_run (n := 29) rfl rfl rfl hr (noRef_agg a) ?_
      cases a with
      | mk k i s c nf ns af ar =>
        exact left_one (slF nf ns.length (u32s ns)).any (slF af ar.length (tcs ar)).any b k i s c
    | a :: a' :: l, _ =>
      refine ⟨.mk 7 0 [] 0 none [] (some b) (a :: a' :: l), ?_, .inr ⟨by simp, b, rfl⟩⟩
      refine pure_run (n := 29) rfl rfl rfl hr (noRef_agg _) ?_
      exact left_many b l.length (tcs (a :: a' :: l))
theorem lists_loop {h : Heap} {Q : AExit → St → Prop} : ∀ (l m : List Tm) (σ : Slots), l ≠ [] → m ≠ [] → (∀ t, t ∈ l → OrdOk t) → Oks m → Wfs m → Sl (σ.get 0) l → Sl (σ.get 1) m →
    (∀ σ', (∀ x, σ'.get 4 = .int .i64 x → x = ordL l m → Q .ret ⟨σ', h⟩) ∧ (∀ l' m', (∀ t, t ∈ l' → t ∈ l) → (∀ t, t ∈ m' → t ∈ m) → (lastNot7 l' = lastNot7 l) → (lastNot7 m' = lastNot7 m) → l' ≠ [] → m' ≠ [] → (l'.length = 1 ∨ m'.length = 1) → ordL l m = ordL l' m' → Sl (σ'.get 0) l' → Sl (σ'.get 1) m' → Q (.exit 0) ⟨σ', h⟩)) →
    WPr env a96_l6 ⟨σ, h⟩ Q := by
  intro l
  induction l with
  | nil => intro m σ h1; exact absurd rfl h1
  | cons a l ih =>
    intro m σ _ hm hP okm wfm k0 k1 hQ
    cases m with
    | nil => exact absurd rfl hm
    | cons b m =>
      refine wpr_round' fun bb hbb => ?_
      obtain ⟨v0, g0⟩ : ∃ v, σ.get 0 = v := ⟨_, rfl⟩
      obtain ⟨v1, g1⟩ : ∃ v, σ.get 1 = v := ⟨_, rfl⟩
      rw [g0] at k0
      rw [g1] at k1
      have n0 := k0.len
      have n1 := k1.len
      rw [List.length_cons] at n0 n1
      by_cases c0 : l.length = 0
      · have z0 : (((l.length + 1 : Nat) : Int) > 1) = False := eq_false (by omega)
        simp only [a96_l6, a96_1, wpo_u, wpc_draw, s3, reduceIte, Nat.reduceEqDiff, aBin, aInt, negIf, Option.some.injEq, exists_eq_left', Option.map_some, Option.bind_some, g0, g1, n0, n1, z0, aPick]
        refine (hQ _).2 (a :: l) (b :: m) (fun _ x => x) (fun _ x => x) rfl rfl (by simp) (by simp) (.inl (by rw [List.length_cons, c0])) rfl ?_ ?_
        · simp only [get_put, reduceIte, Nat.reduceEqDiff, g0]; exact k0
        · simp only [get_put, reduceIte, Nat.reduceEqDiff, g1]; exact k1
      have z0 : (((l.length + 1 : Nat) : Int) > 1) = True := eq_true (by omega)
      by_cases c1 : m.length = 0
      · have z1 : (((m.length + 1 : Nat) : Int) > 1) = False := eq_false (by omega)
        simp only [a96_l6, a96_1, wpo_u, wpc_draw, s3, reduceIte, Nat.reduceEqDiff, aBin, aInt, negIf, Option.some.injEq, exists_eq_left', Option.map_some, Option.bind_some, g0, g1, n0, n1, z0, z1, aPick]
        refine (hQ _).2 (a :: l) (b :: m) (fun _ x => x) (fun _ x => x) rfl rfl (by simp) (by simp) (.inr (by rw [List.length_cons, c1])) rfl ?_ ?_
        · simp only [get_put, reduceIte, Nat.reduceEqDiff, g0]; exact k0
        · simp only [get_put, reduceIte, Nat.reduceEqDiff, g1]; exact k1
      have z1 : (((m.length + 1 : Nat) : Int) > 1) = True := eq_true (by omega)
      have x0 : aIdxAddr 6 v0 (.int .i64 0) = some (.fp (tcs (a :: l))) := by have := k0.idx (i := 0) (by simp); simpa using this
      have x1 : aIdxAddr 6 v1 (.int .i64 0) = some (.fp (tcs (b :: m))) := by have := k1.idx (i := 0) (by simp); simpa using this
      have l0 : ∀ h, aLoad h true 6 (.fp (tcs (a :: l))) = some ⟨.agg (tc a), h, .none⟩ := fun h => by have := ld_args (l := a :: l) (i := 0) (by simp) h; simpa using this
      have l1 : ∀ h, aLoad h true 6 (.fp (tcs (b :: m))) = some ⟨.agg (tc b), h, .none⟩ := fun h => by have := ld_args (l := b :: m) (i := 0) (by simp) h; simpa using this
      have wo := hP a (by simp) b (okm.get (by simp)) (wfm.get (by simp))
      simp only [a96_l6, a96_1, wpo_u, s3, reduceIte, Nat.reduceEqDiff, aBin, aInt, negIf, Option.some.injEq, exists_eq_left', Option.map_some, Option.bind_some, g0, g1, n0, n1, z0, z1, aPick]
      refine wpc_draw_k ?_
      simp only [s3, reduceIte, Nat.reduceEqDiff, aBin, aInt, negIf, Option.some.injEq, exists_eq_left', Option.map_some, Option.bind_some, k3, a96_2, g0, g1, x0, x1, l0, l1, wc_eq (wo _)]
      refine ⟨rfl, ?_⟩
      by_cases c3 : ordF a b = 0
      · have z3 : (ordF a b != 0) = false := by simpa using c3
        have eo : ordL (a :: l) (b :: m) = ordL l m := by
          rw [ordL, if_neg c0, if_neg c1, if_neg (by omega)]
        obtain ⟨t0, s0, q0⟩ := k0.tail
        obtain ⟨t1, s1, q1⟩ := k1.tail
        simp only [a96_3, s3, reduceIte, Nat.reduceEqDiff, aBin, aInt, negIf, Option.some.injEq, exists_eq_left', Option.map_some, Option.bind_some, z3]
        refine wpc_draw_k ?_
        simp only [s3, reduceIte, Nat.reduceEqDiff, aBin, aInt, negIf, Option.some.injEq, exists_eq_left', Option.map_some, Option.bind_some, k3, a96_5, g0, g1, s0, s1]
        refine ⟨rfl, ?_⟩
        subst hbb
        have e7 : ∀ (x : Tm) (l : List Tm), l.length ≠ 0 → lastNot7 l = lastNot7 (x :: l) := by
          intro x l hl
          cases l with
          | nil => exact absurd rfl hl
          | cons y l => rfl
        refine ih m _ (fun e => c0 (by rw [e]; rfl)) (fun e => c1 (by rw [e]; rfl)) (fun t x => hP t (by simp [x])) okm.2 wfm.2 ?_ ?_ fun σ' => ⟨fun x g e => (hQ σ').1 x g (by rw [eo]; exact e), fun l' m' p1 p2 p3 p4 p5 p6 p7 p8 p9 p10 => (hQ σ').2 l' m' (fun t x => by simp [p1 t x]) (fun t x => by simp [p2 t x]) (by rw [p3]; exact e7 a l c0) (by rw [p4]; exact e7 b m c1) p5 p6 p7 (by rw [eo]; exact p8) p9 p10⟩
        · simp only [get_put, reduceIte, Nat.reduceEqDiff]; exact q0
        · simp only [get_put, reduceIte, Nat.reduceEqDiff]; exact q1
      · have z3 : (ordF a b != 0) = true := by simpa using c3
        simp only [a96_3, a96_4, s3, reduceIte, Nat.reduceEqDiff, aBin, aInt, negIf, Option.some.injEq, exists_eq_left', Option.map_some, Option.bind_some, z3]
        exact (hQ _).1 (ordF a b) (by simp only [get_put, reduceIte, Nat.reduceEqDiff]) (by rw [ordL, if_neg c0, if_neg c1, if_pos c3])
def KindsOk : Prop := ∀ a b : Tm, a.kind ≠ b.kind → ∀ h, WC env 53 [.agg (tc a), .agg (tc b)] h (fun o => o = .ret ⟨.int .i64 (cmpI a.kind b.kind), h, .none⟩)
theorem lists_spec (kinds : KindsOk) (f1 f2 : Option Bool) (l m : List Tm) (hl : l ≠ []) (hm : m ≠ []) (l7 : lastNot7 l = true) (m7 : lastNot7 m = true) (hP : ∀ t, t ∈ l → OrdOk t) (okm : Oks m) (wfm : Wfs m) (h : Heap) : WC env 96 [slAV f1 l.length (tcs l), slAV f2 m.length (tcs m)] h (fun o => o = .ret ⟨.int .i64 (ordL l m), h, .none⟩) := by
  refine call_pure rfl rfl rfl (by simp only [AV.noRefs, noRef_sl _ _ (noRef_tcs _), Bool.and_self]) ?_
  simp only [a96, a96_0, Slots.ofList, wpc_draw, s3, reduceIte, Nat.reduceEqDiff, aBin, aInt, negIf, Option.some.injEq, exists_eq_left', Option.map_some, Option.bind_some]
  refine lists_loop l m _ hl hm hP okm wfm ?_ ?_ fun σ' => ⟨fun x g e => ?_, fun l' m' p1 p2 p3 p4 p5 p6 p7 p8 p9 p10 => ?_⟩
  · simp only [get_put, reduceIte, Nat.reduceEqDiff]; exact sl_of _ _
  · simp only [get_put, reduceIte, Nat.reduceEqDiff]; exact sl_of _ _
  · simp only [wpc_draw, s3, reduceIte, Nat.reduceEqDiff, aBin, aInt, negIf, Option.some.injEq, exists_eq_left', Option.map_some, Option.bind_some]
    exact finI g (by rw [e])
  · obtain ⟨v0, g0⟩ : ∃ v, σ'.get 0 = v := ⟨_, rfl⟩
    obtain ⟨v1, g1⟩ : ∃ v, σ'.get 1 = v := ⟨_, rfl⟩
    rw [g0] at p9
    rw [g1] at p10
    obtain ⟨a, wa, ha⟩ := left_spec p9 p5 Heap.empty
    obtain ⟨b, wb, hb⟩ := left_spec p10 p6 Heap.empty
    have wo : WC env 53 [.agg (tc a), .agg (tc b)] Heap.empty (fun o => o = .ret ⟨.int .i64 (ordL l m), .empty, .none⟩) := by
      rw [p8]
      rcases ha with ⟨x, rfl, rfl⟩ | ⟨n0, f, rfl⟩
      · rcases hb with ⟨y, rfl, rfl⟩ | ⟨n1, g, rfl⟩
        · have : ordL [a] [b] = ordF a b := by simp [ordL]
          rw [this]
          exact hP a (p1 a (by simp)) b (okm.get (p2 b (by simp))) (wfm.get (p2 b (by simp))) _
        · have h7 : a.kind ≠ 7 := by
            rw [l7, lastNot7] at p3
            simpa using p3
          match m', n1 with
          | b :: b' :: m', n1 =>
            have : ordL [a] (b :: b' :: m') = cmpI a.kind 7 := by simp [ordL]
            rw [this]
            exact kinds a (.mk 7 0 [] 0 none [] (some g) (b :: b' :: m')) h7 _
      · rcases hb with ⟨y, rfl, rfl⟩ | ⟨n1, g, rfl⟩
        · have h7 : b.kind ≠ 7 := by
            rw [m7, lastNot7] at p4
            simpa using p4
          match l', n0 with
          | a :: a' :: l', n0 =>
            have : ordL (a :: a' :: l') [b] = cmpI 7 b.kind := by simp [ordL]
            rw [this]
            exact kinds (.mk 7 0 [] 0 none [] (some f) (a :: a' :: l')) b (fun e => h7 e.symm) _
        · omega
    simp only [a96_7, a96_8, wpc_draw, s3, reduceIte, Nat.reduceEqDiff, aBin, aInt, negIf, Option.some.injEq, exists_eq_left', Option.map_some, Option.bind_some, wp1_callv', callvK_fn, g0, g1, wc_eq wa, wc_eq wb, wc_eq wo]
    exact finI (by simp only [get_put, reduceIte, Nat.reduceEqDiff]) rfl
theorem ord_kinds : KindsOk := by
  intro a b hk h
  rcases a with ⟨k, i, s, c, nf, ns, af, ar⟩
  rcases b with ⟨k', i', s', c', nf', ns', af', ar'⟩
  have hk : k ≠ k' := hk
  refine call_pure rfl rfl rfl (by simp only [AV.noRefs, AV.noRef, noRef_tc, Bool.and_self]) ?_
  obtain ⟨ca, ea⟩ : ∃ ca, ca = tc (.mk k i s c nf ns af ar) := ⟨_, rfl⟩
  obtain ⟨cb, eb⟩ : ∃ cb, cb = tc (.mk k' i' s' c' nf' ns' af' ar') := ⟨_, rfl⟩
  rw [← ea, ← eb]
  obtain ⟨nv, env'⟩ : ∃ nv, nv = slAV nf ns.length (u32s ns) := ⟨_, rfl⟩
  obtain ⟨av, eav⟩ : ∃ av, av = slAV af ar.length (tcs ar) := ⟨_, rfl⟩
  obtain ⟨nv2, env2⟩ : ∃ nv, nv = slAV nf' ns'.length (u32s ns') := ⟨_, rfl⟩
  obtain ⟨av2, eav2⟩ : ∃ av, av = slAV af' ar'.length (tcs ar') := ⟨_, rfl⟩
  have ea' : ca = [.int .i64 k, .int .i64 i, .str s, .int .u32 c, nv, av] := by rw [ea, env', eav]; rfl
  have eb' : cb = [.int .i64 k', .int .i64 i', .str s', .int .u32 c', nv2, av2] := by rw [eb, env2, eav2]; rfl
  obtain ⟨h1, eh1⟩ : ∃ h1, h1 = Heap.empty.new ca := ⟨_, rfl⟩
  have ho1 : HeapOk h1 := by rw [eh1]; exact HeapOk.empty.new _
  have a1' : h1.at_ Heap.empty.next 0 = some ca := by rw [eh1]; exact at_new _
  obtain ⟨h2, eh2⟩ : ∃ h2, h2 = h1.new cb := ⟨_, rfl⟩
  have a2' : h2.at_ Heap.empty.next 0 = some ca := by rw [eh2]; exact (le_new ho1 _).2 _ _ _ a1'
  have b2' : h2.at_ h1.next 0 = some cb := by rw [eh2]; exact at_new _
  have y1 : (AV.agg ca).row = some ca := rfl
  have y2 : ca.length = 6 := by rw [ea']; rfl
  have y3 : (AV.agg cb).row = some cb := rfl
  have y4 : cb.length = 6 := by rw [eb']; rfl
  rw [ea'] at a2'
  rw [eb'] at b2'
  have p0 := ld60 a2'
  have p1 := ld61 a2'
  have p2 := ld62 a2'
  have p3 := ld63 a2'
  have p4 := ld64 a2'
  have p5 := ld65 a2'
  have q0 := ld60 b2'
  have q1 := ld61 b2'
  have q2 := ld62 b2'
  have q3 := ld63 b2'
  have q4 := ld64 b2'
  have q5 := ld65 b2'
  have z : (k != k') = true := by simpa using hk
  simp only [a53, a53_0, a53_1, a53_2, Slots.ofList, s3, reduceIte, Nat.reduceEqDiff, aBin, aInt, negIf, Option.some.injEq, exists_eq_left', Option.map_some, Option.bind_some, y1, y2, y3, y4, ← eh1, ← eh2, aFieldAddr, Nat.zero_add, Int.reduceBEq, Int.reduceBNe, p0, q0, z, wc_eq (cmp88 _ _ _)]
  exact finI (x := cmpI k k') (by simp only [get_put, reduceIte, Nat.reduceEqDiff]) rfl
theorem ord_k1 (i : Int) (s : List UInt8) (c : Int) (nf : Option Bool) (ns : List Int) (af : Option Bool) (ar : List Tm) (i' : Int) (s' : List UInt8) (c' : Int) (nf' : Option Bool) (ns' : List Int) (af' : Option Bool) (ar' : List Tm) (h : Heap) : WC env 53 [.agg (tc (.mk 1 i s c nf ns af ar)), .agg (tc (.mk 1 i' s' c' nf' ns' af' ar'))] h (fun o => o = .ret ⟨.int .i64 (ordF (.mk 1 i s c nf ns af ar) (.mk 1 i' s' c' nf' ns' af' ar')), h, .none⟩) := by
  refine call_pure rfl rfl rfl (by simp only [AV.noRefs, AV.noRef, noRef_tc, Bool.and_self]) ?_
  obtain ⟨ca, ea⟩ : ∃ ca, ca = tc (.mk 1 i s c nf ns af ar) := ⟨_, rfl⟩
  obtain ⟨cb, eb⟩ : ∃ cb, cb = tc (.mk 1 i' s' c' nf' ns' af' ar') := ⟨_, rfl⟩
  rw [← ea, ← eb]
  obtain ⟨nv, env'⟩ : ∃ nv, nv = slAV nf ns.length (u32s ns) := ⟨_, rfl⟩
  obtain ⟨av, eav⟩ : ∃ av, av = slAV af ar.length (tcs ar) := ⟨_, rfl⟩
  obtain ⟨nv2, env2⟩ : ∃ nv, nv = slAV nf' ns'.length (u32s ns') := ⟨_, rfl⟩
  obtain ⟨av2, eav2⟩ : ∃ av, av = slAV af' ar'.length (tcs ar') := ⟨_, rfl⟩
  have ea' : ca = [.int .i64 1, .int .i64 i, .str s, .int .u32 c, nv, av] := by rw [ea, env', eav]; rfl
  have eb' : cb = [.int .i64 1, .int .i64 i', .str s', .int .u32 c', nv2, av2] := by rw [eb, env2, eav2]; rfl
  obtain ⟨h1, eh1⟩ : ∃ h1, h1 = Heap.empty.new ca := ⟨_, rfl⟩
  have ho1 : HeapOk h1 := by rw [eh1]; exact HeapOk.empty.new _
  have a1' : h1.at_ Heap.empty.next 0 = some ca := by rw [eh1]; exact at_new _
  obtain ⟨h2, eh2⟩ : ∃ h2, h2 = h1.new cb := ⟨_, rfl⟩
  have a2' : h2.at_ Heap.empty.next 0 = some ca := by rw [eh2]; exact (le_new ho1 _).2 _ _ _ a1'
  have b2' : h2.at_ h1.next 0 = some cb := by rw [eh2]; exact at_new _
  have y1 : (AV.agg ca).row = some ca := rfl
  have y2 : ca.length = 6 := by rw [ea']; rfl
  have y3 : (AV.agg cb).row = some cb := rfl
  have y4 : cb.length = 6 := by rw [eb']; rfl
  rw [ea'] at a2'
  rw [eb'] at b2'
  have p0 := ld60 a2'
  have p1 := ld61 a2'
  have p2 := ld62 a2'
  have p3 := ld63 a2'
  have p4 := ld64 a2'
  have p5 := ld65 a2'
  have q0 := ld60 b2'
  have q1 := ld61 b2'
  have q2 := ld62 b2'
  have q3 := ld63 b2'
  have q4 := ld64 b2'
  have q5 := ld65 b2'
  have e : ordF (.mk 1 i s c nf ns af ar) (.mk 1 i' s' c' nf' ns' af' ar') = cmpI i i' := by simp [ordF]
  simp only [a53, a53_0, a53_1, a53_3, a53_4, Slots.ofList, s3, reduceIte, Nat.reduceEqDiff, aBin, aInt, negIf, Option.some.injEq, exists_eq_left', Option.map_some, Option.bind_some, y1, y2, y3, y4, ← eh1, ← eh2, aFieldAddr, Nat.zero_add, Int.reduceBEq, Int.reduceBNe, p0, q0, a53_10, p1, q1, wc_eq (cmp89 _ _ _)]
  exact finI (by simp only [get_put, reduceIte, Nat.reduceEqDiff]; rw [e]) rfl
theorem ord_k2 (i : Int) (s : List UInt8) (c : Int) (nf : Option Bool) (ns : List Int) (af : Option Bool) (ar : List Tm) (i' : Int) (s' : List UInt8) (c' : Int) (nf' : Option Bool) (ns' : List Int) (af' : Option Bool) (ar' : List Tm) (h : Heap) : WC env 53 [.agg (tc (.mk 2 i s c nf ns af ar)), .agg (tc (.mk 2 i' s' c' nf' ns' af' ar'))] h (fun o => o = .ret ⟨.int .i64 (ordF (.mk 2 i s c nf ns af ar) (.mk 2 i' s' c' nf' ns' af' ar')), h, .none⟩) := by
  refine call_pure rfl rfl rfl (by simp only [AV.noRefs, AV.noRef, noRef_tc, Bool.and_self]) ?_
  obtain ⟨ca, ea⟩ : ∃ ca, ca = tc (.mk 2 i s c nf ns af ar) := ⟨_, rfl⟩
  obtain ⟨cb, eb⟩ : ∃ cb, cb = tc (.mk 2 i' s' c' nf' ns' af' ar') := ⟨_, rfl⟩
  rw [← ea, ← eb]
  obtain ⟨nv, env'⟩ : ∃ nv, nv = slAV nf ns.length (u32s ns) := ⟨_, rfl⟩
  obtain ⟨av, eav⟩ : ∃ av, av = slAV af ar.length (tcs ar) := ⟨_, rfl⟩
  obtain ⟨nv2, env2⟩ : ∃ nv, nv = slAV nf' ns'.length (u32s ns') := ⟨_, rfl⟩
  obtain ⟨av2, eav2⟩ : ∃ av, av = slAV af' ar'.length (tcs ar') := ⟨_, rfl⟩
  have ea' : ca = [.int .i64 2, .int .i64 i, .str s, .int .u32 c, nv, av] := by rw [ea, env', eav]; rfl
  have eb' : cb = [.int .i64 2, .int .i64 i', .str s', .int .u32 c', nv2, av2] := by rw [eb, env2, eav2]; rfl
  obtain ⟨h1, eh1⟩ : ∃ h1, h1 = Heap.empty.new ca := ⟨_, rfl⟩
  have ho1 : HeapOk h1 := by rw [eh1]; exact HeapOk.empty.new _
  have a1' : h1.at_ Heap.empty.next 0 = some ca := by rw [eh1]; exact at_new _
  obtain ⟨h2, eh2⟩ : ∃ h2, h2 = h1.new cb := ⟨_, rfl⟩
  have a2' : h2.at_ Heap.empty.next 0 = some ca := by rw [eh2]; exact (le_new ho1 _).2 _ _ _ a1'
  have b2' : h2.at_ h1.next 0 = some cb := by rw [eh2]; exact at_new _
  have y1 : (AV.agg ca).row = some ca := rfl
  have y2 : ca.length = 6 := by rw [ea']; rfl
  have y3 : (AV.agg cb).row = some cb := rfl
  have y4 : cb.length = 6 := by rw [eb']; rfl
  rw [ea'] at a2'
  rw [eb'] at b2'
  have p0 := ld60 a2'
  have p1 := ld61 a2'
  have p2 := ld62 a2'
  have p3 := ld63 a2'
  have p4 := ld64 a2'
  have p5 := ld65 a2'
  have q0 := ld60 b2'
  have q1 := ld61 b2'
  have q2 := ld62 b2'
  have q3 := ld63 b2'
  have q4 := ld64 b2'
  have q5 := ld65 b2'
  have e : ordF (.mk 2 i s c nf ns af ar) (.mk 2 i' s' c' nf' ns' af' ar') = cmpS s s' := by simp [ordF]
  simp only [a53, a53_0, a53_1, a53_3, a53_4, a53_5, Slots.ofList, s3, reduceIte, Nat.reduceEqDiff, aBin, aInt, negIf, Option.some.injEq, exists_eq_left', Option.map_some, Option.bind_some, y1, y2, y3, y4, ← eh1, ← eh2, aFieldAddr, Nat.zero_add, Int.reduceBEq, Int.reduceBNe, p0, q0, a53_11, p2, q2, wc_eq (cmp90 _ _ _)]
  exact finI (by simp only [get_put, reduceIte, Nat.reduceEqDiff]; rw [e]) rfl
theorem ord_k3 (i : Int) (s : List UInt8) (c : Int) (nf : Option Bool) (ns : List Int) (af : Option Bool) (ar : List Tm) (i' : Int) (s' : List UInt8) (c' : Int) (nf' : Option Bool) (ns' : List Int) (af' : Option Bool) (ar' : List Tm) (hl : ns.length < 9223372036854775808) (hm : ns'.length < 9223372036854775808) (h : Heap) : WC env 53 [.agg (tc (.mk 3 i s c nf ns af ar)), .agg (tc (.mk 3 i' s' c' nf' ns' af' ar'))] h (fun o => o = .ret ⟨.int .i64 (ordF (.mk 3 i s c nf ns af ar) (.mk 3 i' s' c' nf' ns' af' ar')), h, .none⟩) := by
  refine call_pure rfl rfl rfl (by simp only [AV.noRefs, AV.noRef, noRef_tc, Bool.and_self]) ?_
  obtain ⟨ca, ea⟩ : ∃ ca, ca = tc (.mk 3 i s c nf ns af ar) := ⟨_, rfl⟩
  obtain ⟨cb, eb⟩ : ∃ cb, cb = tc (.mk 3 i' s' c' nf' ns' af' ar') := ⟨_, rfl⟩
  rw [← ea, ← eb]
  obtain ⟨nv, env'⟩ : ∃ nv, nv = slAV nf ns.length (u32s ns) := ⟨_, rfl⟩
  obtain ⟨av, eav⟩ : ∃ av, av = slAV af ar.length (tcs ar) := ⟨_, rfl⟩
  obtain ⟨nv2, env2⟩ : ∃ nv, nv = slAV nf' ns'.length (u32s ns') := ⟨_, rfl⟩
  obtain ⟨av2, eav2⟩ : ∃ av, av = slAV af' ar'.length (tcs ar') := ⟨_, rfl⟩
  have ea' : ca = [.int .i64 3, .int .i64 i, .str s, .int .u32 c, nv, av] := by rw [ea, env', eav]; rfl
  have eb' : cb = [.int .i64 3, .int .i64 i', .str s', .int .u32 c', nv2, av2] := by rw [eb, env2, eav2]; rfl
  obtain ⟨h1, eh1⟩ : ∃ h1, h1 = Heap.empty.new ca := ⟨_, rfl⟩
  have ho1 : HeapOk h1 := by rw [eh1]; exact HeapOk.empty.new _
  have a1' : h1.at_ Heap.empty.next 0 = some ca := by rw [eh1]; exact at_new _
  obtain ⟨h2, eh2⟩ : ∃ h2, h2 = h1.new cb := ⟨_, rfl⟩
  have a2' : h2.at_ Heap.empty.next 0 = some ca := by rw [eh2]; exact (le_new ho1 _).2 _ _ _ a1'
  have b2' : h2.at_ h1.next 0 = some cb := by rw [eh2]; exact at_new _
  have y1 : (AV.agg ca).row = some ca := rfl
  have y2 : ca.length = 6 := by rw [ea']; rfl
  have y3 : (AV.agg cb).row = some cb := rfl
  have y4 : cb.length = 6 := by rw [eb']; rfl
  rw [ea'] at a2'
  rw [eb'] at b2'
  have p0 := ld60 a2'
  have p1 := ld61 a2'
  have p2 := ld62 a2'
  have p3 := ld63 a2'
  have p4 := ld64 a2'
  have p5 := ld65 a2'
  have q0 := ld60 b2'
  have q1 := ld61 b2'
  have q2 := ld62 b2'
  have q3 := ld63 b2'
  have q4 := ld64 b2'
  have q5 := ld65 b2'
  have e : ordF (.mk 3 i s c nf ns af ar) (.mk 3 i' s' c' nf' ns' af' ar') = orI [cmpS s s', cmpI c c', cmpNs ns ns'] := by simp [ordF]
  have wn : ∀ h, WC env 93 [nv, nv2] h (fun o => o = .ret ⟨.int .i64 (cmpNs ns ns'), h, .none⟩) := fun h => by rw [env', env2]; exact nums_spec _ _ _ _ hl hm h
  simp only [a53, a53_0, a53_1, a53_3, a53_4, a53_5, a53_6, Slots.ofList, s3, reduceIte, Nat.reduceEqDiff, aBin, aInt, negIf, Option.some.injEq, exists_eq_left', Option.map_some, Option.bind_some, y1, y2, y3, y4, ← eh1, ← eh2, aFieldAddr, Nat.zero_add, Int.reduceBEq, Int.reduceBNe, p0, q0]
  refine wpc_draw_k ?_
  simp only [Slots.ofList, s3, reduceIte, Nat.reduceEqDiff, aBin, aInt, negIf, Option.some.injEq, exists_eq_left', Option.map_some, Option.bind_some, y1, y2, y3, y4, ← eh1, ← eh2, aFieldAddr, Nat.zero_add, Int.reduceBEq, Int.reduceBNe, k3, a53_12, p2, p3, p4, q2, q3, q4, wc_eq (cmp90 _ _ _), wc_eq (cmp92 _ _ _), wc_eq (wn _), fill3, len3, Nat.reduceMul, wc_eq (or3 _ _ _ _)]
  refine ⟨rfl, ?_⟩
  exact finI (by simp only [get_put, reduceIte, Nat.reduceEqDiff]; rw [e]) rfl
theorem ord_k4 (i : Int) (s : List UInt8) (c : Int) (nf : Option Bool) (ns : List Int) (af : Option Bool) (ar : List Tm) (i' : Int) (s' : List UInt8) (c' : Int) (nf' : Option Bool) (ns' : List Int) (af' : Option Bool) (ar' : List Tm) (hl : ns.length < 9223372036854775808) (hm : ns'.length < 9223372036854775808) (h : Heap) : WC env 53 [.agg (tc (.mk 4 i s c nf ns af ar)), .agg (tc (.mk 4 i' s' c' nf' ns' af' ar'))] h (fun o => o = .ret ⟨.int .i64 (ordF (.mk 4 i s c nf ns af ar) (.mk 4 i' s' c' nf' ns' af' ar')), h, .none⟩) := by
  refine call_pure rfl rfl rfl (by simp only [AV.noRefs, AV.noRef, noRef_tc, Bool.and_self]) ?_
  obtain ⟨ca, ea⟩ : ∃ ca, ca = tc (.mk 4 i s c nf ns af ar) := ⟨_, rfl⟩
  obtain ⟨cb, eb⟩ : ∃ cb, cb = tc (.mk 4 i' s' c' nf' ns' af' ar') := ⟨_, rfl⟩
  rw [← ea, ← eb]
  obtain ⟨nv, env'⟩ : ∃ nv, nv = slAV nf ns.length (u32s ns) := ⟨_, rfl⟩
  obtain ⟨av, eav⟩ : ∃ av, av = slAV af ar.length (tcs ar) := ⟨_, rfl⟩
  obtain ⟨nv2, env2⟩ : ∃ nv, nv = slAV nf' ns'.length (u32s ns') := ⟨_, rfl⟩
  obtain ⟨av2, eav2⟩ : ∃ av, av = slAV af' ar'.length (tcs ar') := ⟨_, rfl⟩
  have ea' : ca = [.int .i64 4, .int .i64 i, .str s, .int .u32 c, nv, av] := by rw [ea, env', eav]; rfl
  have eb' : cb = [.int .i64 4, .int .i64 i', .str s', .int .u32 c', nv2, av2] := by rw [eb, env2, eav2]; rfl
  obtain ⟨h1, eh1⟩ : ∃ h1, h1 = Heap.empty.new ca := ⟨_, rfl⟩
  have ho1 : HeapOk h1 := by rw [eh1]; exact HeapOk.empty.new _
  have a1' : h1.at_ Heap.empty.next 0 = some ca := by rw [eh1]; exact at_new _
  obtain ⟨h2, eh2⟩ : ∃ h2, h2 = h1.new cb := ⟨_, rfl⟩
  have a2' : h2.at_ Heap.empty.next 0 = some ca := by rw [eh2]; exact (le_new ho1 _).2 _ _ _ a1'
  have b2' : h2.at_ h1.next 0 = some cb := by rw [eh2]; exact at_new _
  have y1 : (AV.agg ca).row = some ca := rfl
  have y2 : ca.length = 6 := by rw [ea']; rfl
  have y3 : (AV.agg cb).row = some cb := rfl
  have y4 : cb.length = 6 := by rw [eb']; rfl
  rw [ea'] at a2'
  rw [eb'] at b2'
  have p0 := ld60 a2'
  have p1 := ld61 a2'
  have p2 := ld62 a2'
  have p3 := ld63 a2'
  have p4 := ld64 a2'
  have p5 := ld65 a2'
  have q0 := ld60 b2'
  have q1 := ld61 b2'
  have q2 := ld62 b2'
  have q3 := ld63 b2'
  have q4 := ld64 b2'
  have q5 := ld65 b2'
  have e : ordF (.mk 4 i s c nf ns af ar) (.mk 4 i' s' c' nf' ns' af' ar') = orI [cmpS s s', cmpI c c', cmpNs ns ns'] := by simp [ordF]
  have wn : ∀ h, WC env 93 [nv, nv2] h (fun o => o = .ret ⟨.int .i64 (cmpNs ns ns'), h, .none⟩) := fun h => by rw [env', env2]; exact nums_spec _ _ _ _ hl hm h
  simp only [a53, a53_0, a53_1, a53_3, a53_4, a53_5, a53_6, a53_7, Slots.ofList, s3, reduceIte, Nat.reduceEqDiff, aBin, aInt, negIf, Option.some.injEq, exists_eq_left', Option.map_some, Option.bind_some, y1, y2, y3, y4, ← eh1, ← eh2, aFieldAddr, Nat.zero_add, Int.reduceBEq, Int.reduceBNe, p0, q0]
  refine wpc_draw_k ?_
  simp only [Slots.ofList, s3, reduceIte, Nat.reduceEqDiff, aBin, aInt, negIf, Option.some.injEq, exists_eq_left', Option.map_some, Option.bind_some, y1, y2, y3, y4, ← eh1, ← eh2, aFieldAddr, Nat.zero_add, Int.reduceBEq, Int.reduceBNe, k3, a53_12, p2, p3, p4, q2, q3, q4, wc_eq (cmp90 _ _ _), wc_eq (cmp92 _ _ _), wc_eq (wn _), fill3, len3, Nat.reduceMul, wc_eq (or3 _ _ _ _)]
  refine ⟨rfl, ?_⟩
  exact finI (by simp only [get_put, reduceIte, Nat.reduceEqDiff]; rw [e]) rfl
theorem ord_k5 (i : Int) (s : List UInt8) (c : Int) (nf : Option Bool) (ns : List Int) (af : Option Bool) (ar : List Tm) (i' : Int) (s' : List UInt8) (c' : Int) (nf' : Option Bool) (ns' : List Int) (af' : Option Bool) (ar' : List Tm) (hP : ∀ t, t ∈ ar → OrdOk t) (okm : Oks ar') (wfm : Wfs ar') (hl : ar.length < 9223372036854775808) (hm : ar'.length < 9223372036854775808) (h : Heap) : WC env 53 [.agg (tc (.mk 5 i s c nf ns af ar)), .agg (tc (.mk 5 i' s' c' nf' ns' af' ar'))] h (fun o => o = .ret ⟨.int .i64 (ordF (.mk 5 i s c nf ns af ar) (.mk 5 i' s' c' nf' ns' af' ar')), h, .none⟩) := by
  refine call_pure rfl rfl rfl (by simp only [AV.noRefs, AV.noRef, noRef_tc, Bool.and_self]) ?_
  obtain ⟨ca, ea⟩ : ∃ ca, ca = tc (.mk 5 i s c nf ns af ar) := ⟨_, rfl⟩
  obtain ⟨cb, eb⟩ : ∃ cb, cb = tc (.mk 5 i' s' c' nf' ns' af' ar') := ⟨_, rfl⟩
  rw [← ea, ← eb]
  obtain ⟨nv, env'⟩ : ∃ nv, nv = slAV nf ns.length (u32s ns) := ⟨_, rfl⟩
  obtain ⟨av, eav⟩ : ∃ av, av = slAV af ar.length (tcs ar) := ⟨_, rfl⟩
  obtain ⟨nv2, env2⟩ : ∃ nv, nv = slAV nf' ns'.length (u32s ns') := ⟨_, rfl⟩
  obtain ⟨av2, eav2⟩ : ∃ av, av = slAV af' ar'.length (tcs ar') := ⟨_, rfl⟩
  have ea' : ca = [.int .i64 5, .int .i64 i, .str s, .int .u32 c, nv, av] := by rw [ea, env', eav]; rfl
  have eb' : cb = [.int .i64 5, .int .i64 i', .str s', .int .u32 c', nv2, av2] := by rw [eb, env2, eav2]; rfl
  obtain ⟨h1, eh1⟩ : ∃ h1, h1 = Heap.empty.new ca := ⟨_, rfl⟩
  have ho1 : HeapOk h1 := by rw [eh1]; exact HeapOk.empty.new _
  have a1' : h1.at_ Heap.empty.next 0 = some ca := by rw [eh1]; exact at_new _
  obtain ⟨h2, eh2⟩ : ∃ h2, h2 = h1.new cb := ⟨_, rfl⟩
  have a2' : h2.at_ Heap.empty.next 0 = some ca := by rw [eh2]; exact (le_new ho1 _).2 _ _ _ a1'
  have b2' : h2.at_ h1.next 0 = some cb := by rw [eh2]; exact at_new _
  have y1 : (AV.agg ca).row = some ca := rfl
  have y2 : ca.length = 6 := by rw [ea']; rfl
  have y3 : (AV.agg cb).row = some cb := rfl
  have y4 : cb.length = 6 := by rw [eb']; rfl
  rw [ea'] at a2'
  rw [eb'] at b2'
  have p0 := ld60 a2'
  have p1 := ld61 a2'
  have p2 := ld62 a2'
  have p3 := ld63 a2'
  have p4 := ld64 a2'
  have p5 := ld65 a2'
  have q0 := ld60 b2'
  have q1 := ld61 b2'
  have q2 := ld62 b2'
  have q3 := ld63 b2'
  have q4 := ld64 b2'
  have q5 := ld65 b2'
  have e : ordF (.mk 5 i s c nf ns af ar) (.mk 5 i' s' c' nf' ns' af' ar') = orI [cmpI ar.length ar'.length, ordFs ar ar'] := by simp [ordF]
  have wn : ∀ h, WC env 95 [av, av2, .fn (.func 53) [] []] h (fun o => o = .ret ⟨.int .i64 (ordFs ar ar'), h, .none⟩) := fun h => by rw [eav, eav2]; exact cmpf_spec _ _ _ _ hP okm wfm hl hm h
  have al : ∀ h, aLenOp false h av = some ⟨.int .i64 ar.length, h, .none⟩ := fun h => by rw [eav]; exact len_sl _ _ _ (fun _ => trivial) h
  have al2 : ∀ h, aLenOp false h av2 = some ⟨.int .i64 ar'.length, h, .none⟩ := fun h => by rw [eav2]; exact len_sl _ _ _ (fun _ => trivial) h
  simp only [a53, a53_0, a53_1, a53_3, a53_4, a53_5, a53_6, a53_7, a53_8, Slots.ofList, s3, reduceIte, Nat.reduceEqDiff, aBin, aInt, negIf, Option.some.injEq, exists_eq_left', Option.map_some, Option.bind_some, y1, y2, y3, y4, ← eh1, ← eh2, aFieldAddr, Nat.zero_add, Int.reduceBEq, Int.reduceBNe, p0, q0]
  refine wpc_draw_k ?_
  simp only [Slots.ofList, s3, reduceIte, Nat.reduceEqDiff, aBin, aInt, negIf, Option.some.injEq, exists_eq_left', Option.map_some, Option.bind_some, y1, y2, y3, y4, ← eh1, ← eh2, aFieldAddr, Nat.zero_add, Int.reduceBEq, Int.reduceBNe, k3, a53_13, p5, q5, al, al2, wc_eq (cmp94 _ _ _), wc_eq (wn _), fill2, len2, Nat.reduceMul, wc_eq (or2 _ _ _)]
  refine ⟨rfl, ?_⟩
  exact finI (by simp only [get_put, reduceIte, Nat.reduceEqDiff]; rw [e]) rfl
theorem ord_k7 (i : Int) (s : List UInt8) (c : Int) (nf : Option Bool) (ns : List Int) (af : Option Bool) (ar : List Tm) (i' : Int) (s' : List UInt8) (c' : Int) (nf' : Option Bool) (ns' : List Int) (af' : Option Bool) (ar' : List Tm) (hP : ∀ t, t ∈ ar → OrdOk t) (okm : Oks ar') (wfm : Wfs ar') (hl : ar ≠ []) (hm : ar' ≠ []) (l7 : lastNot7 ar = true) (m7 : lastNot7 ar' = true) (h : Heap) : WC env 53 [.agg (tc (.mk 7 i s c nf ns af ar)), .agg (tc (.mk 7 i' s' c' nf' ns' af' ar'))] h (fun o => o = .ret ⟨.int .i64 (ordF (.mk 7 i s c nf ns af ar) (.mk 7 i' s' c' nf' ns' af' ar')), h, .none⟩) := by
  refine call_pure rfl rfl rfl (by simp only [AV.noRefs, AV.noRef, noRef_tc, Bool.and_self]) ?_
  obtain ⟨ca, ea⟩ : ∃ ca, ca = tc (.mk 7 i s c nf ns af ar) := ⟨_, rfl⟩
  obtain ⟨cb, eb⟩ : ∃ cb, cb = tc (.mk 7 i' s' c' nf' ns' af' ar') := ⟨_, rfl⟩
  rw [← ea, ← eb]
  obtain ⟨nv, env'⟩ : ∃ nv, nv = slAV nf ns.length (u32s ns) := ⟨_, rfl⟩
  obtain ⟨av, eav⟩ : ∃ av, av = slAV af ar.length (tcs ar) := ⟨_, rfl⟩
  obtain ⟨nv2, env2⟩ : ∃ nv, nv = slAV nf' ns'.length (u32s ns') := ⟨_, rfl⟩
  obtain ⟨av2, eav2⟩ : ∃ av, av = slAV af' ar'.length (tcs ar') := ⟨_, rfl⟩
  have ea' : ca = [.int .i64 7, .int .i64 i, .str s, .int .u32 c, nv, av] := by rw [ea, env', eav]; rfl
  have eb' : cb = [.int .i64 7, .int .i64 i', .str s', .int .u32 c', nv2, av2] := by rw [eb, env2, eav2]; rfl
  obtain ⟨h1, eh1⟩ : ∃ h1, h1 = Heap.empty.new ca := ⟨_, rfl⟩
  have ho1 : HeapOk h1 := by rw [eh1]; exact HeapOk.empty.new _
  have a1' : h1.at_ Heap.empty.next 0 = some ca := by rw [eh1]; exact at_new _
  obtain ⟨h2, eh2⟩ : ∃ h2, h2 = h1.new cb := ⟨_, rfl⟩
  have a2' : h2.at_ Heap.empty.next 0 = some ca := by rw [eh2]; exact (le_new ho1 _).2 _ _ _ a1'
  have b2' : h2.at_ h1.next 0 = some cb := by rw [eh2]; exact at_new _
  have y1 : (AV.agg ca).row = some ca := rfl
  have y2 : ca.length = 6 := by rw [ea']; rfl
  have y3 : (AV.agg cb).row = some cb := rfl
  have y4 : cb.length = 6 := by rw [eb']; rfl
  rw [ea'] at a2'
  rw [eb'] at b2'
  have p0 := ld60 a2'
  have p1 := ld61 a2'
  have p2 := ld62 a2'
  have p3 := ld63 a2'
  have p4 := ld64 a2'
  have p5 := ld65 a2'
  have q0 := ld60 b2'
  have q1 := ld61 b2'
  have q2 := ld62 b2'
  have q3 := ld63 b2'
  have q4 := ld64 b2'
  have q5 := ld65 b2'
  have e : ordF (.mk 7 i s c nf ns af ar) (.mk 7 i' s' c' nf' ns' af' ar') = ordL ar ar' := by simp [ordF]
  have wn : ∀ h, WC env 96 [av, av2] h (fun o => o = .ret ⟨.int .i64 (ordL ar ar'), h, .none⟩) := fun h => by rw [eav, eav2]; exact lists_spec ord_kinds _ _ _ _ hl hm l7 m7 hP okm wfm h
  simp only [a53, a53_0, a53_1, a53_3, a53_4, a53_5, a53_6, a53_7, a53_8, a53_9, Slots.ofList, s3, reduceIte, Nat.reduceEqDiff, aBin, aInt, negIf, Option.some.injEq, exists_eq_left', Option.map_some, Option.bind_some, y1, y2, y3, y4, ← eh1, ← eh2, aFieldAddr, Nat.zero_add, Int.reduceBEq, Int.reduceBNe, p0, q0, a53_14, p5, q5, wc_eq (wn _)]
  exact finI (by simp only [get_put, reduceIte, Nat.reduceEqDiff]; rw [e]) rfl
theorem ord_k0 (k : Int) (i : Int) (s : List UInt8) (c : Int) (nf : Option Bool) (ns : List Int) (af : Option Bool) (ar : List Tm) (i' : Int) (s' : List UInt8) (c' : Int) (nf' : Option Bool) (ns' : List Int) (af' : Option Bool) (ar' : List Tm) (hk : ∀ j : Int, 1 ≤ j → j ≤ 7 → j ≠ 6 → k ≠ j) (h : Heap) : WC env 53 [.agg (tc (.mk k i s c nf ns af ar)), .agg (tc (.mk k i' s' c' nf' ns' af' ar'))] h (fun o => o = .ret ⟨.int .i64 (ordF (.mk k i s c nf ns af ar) (.mk k i' s' c' nf' ns' af' ar')), h, .none⟩) := by
  refine call_pure rfl rfl rfl (by simp only [AV.noRefs, AV.noRef, noRef_tc, Bool.and_self]) ?_
  obtain ⟨ca, ea⟩ : ∃ ca, ca = tc (.mk k i s c nf ns af ar) := ⟨_, rfl⟩
  obtain ⟨cb, eb⟩ : ∃ cb, cb = tc (.mk k i' s' c' nf' ns' af' ar') := ⟨_, rfl⟩
  rw [← ea, ← eb]
  obtain ⟨nv, env'⟩ : ∃ nv, nv = slAV nf ns.length (u32s ns) := ⟨_, rfl⟩
  obtain ⟨av, eav⟩ : ∃ av, av = slAV af ar.length (tcs ar) := ⟨_, rfl⟩
  obtain ⟨nv2, env2⟩ : ∃ nv, nv = slAV nf' ns'.length (u32s ns') := ⟨_, rfl⟩
  obtain ⟨av2, eav2⟩ : ∃ av, av = slAV af' ar'.length (tcs ar') := ⟨_, rfl⟩
  have ea' : ca = [.int .i64 k, .int .i64 i, .str s, .int .u32 c, nv, av] := by rw [ea, env', eav]; rfl
  have eb' : cb = [.int .i64 k, .int .i64 i', .str s', .int .u32 c', nv2, av2] := by rw [eb, env2, eav2]; rfl
  obtain ⟨h1, eh1⟩ : ∃ h1, h1 = Heap.empty.new ca := ⟨_, rfl⟩
  have ho1 : HeapOk h1 := by rw [eh1]; exact HeapOk.empty.new _
  have a1' : h1.at_ Heap.empty.next 0 = some ca := by rw [eh1]; exact at_new _
  obtain ⟨h2, eh2⟩ : ∃ h2, h2 = h1.new cb := ⟨_, rfl⟩
  have a2' : h2.at_ Heap.empty.next 0 = some ca := by rw [eh2]; exact (le_new ho1 _).2 _ _ _ a1'
  have b2' : h2.at_ h1.next 0 = some cb := by rw [eh2]; exact at_new _
  have y1 : (AV.agg ca).row = some ca := rfl
  have y2 : ca.length = 6 := by rw [ea']; rfl
  have y3 : (AV.agg cb).row = some cb := rfl
  have y4 : cb.length = 6 := by rw [eb']; rfl
  rw [ea'] at a2'
  rw [eb'] at b2'
  have p0 := ld60 a2'
  have p1 := ld61 a2'
  have p2 := ld62 a2'
  have p3 := ld63 a2'
  have p4 := ld64 a2'
  have p5 := ld65 a2'
  have q0 := ld60 b2'
  have q1 := ld61 b2'
  have q2 := ld62 b2'
  have q3 := ld63 b2'
  have q4 := ld64 b2'
  have q5 := ld65 b2'
  have z : (k != k) = false := by simp
  have k1 : (k == 1) = false := by simpa using hk 1 (by omega) (by omega) (by omega)
  have k2 : (k == 2) = false := by simpa using hk 2 (by omega) (by omega) (by omega)
  have k3 : (k == 3) = false := by simpa using hk 3 (by omega) (by omega) (by omega)
  have k4 : (k == 4) = false := by simpa using hk 4 (by omega) (by omega) (by omega)
  have k5 : (k == 5) = false := by simpa using hk 5 (by omega) (by omega) (by omega)
  have k7 : (k == 7) = false := by simpa using hk 7 (by omega) (by omega) (by omega)
  have e : ordF (.mk k i s c nf ns af ar) (.mk k i' s' c' nf' ns' af' ar') = 0 := by
    simp only [ordF, ne_eq, not_true, if_false, hk 1 (by omega) (by omega) (by omega), hk 2 (by omega) (by omega) (by omega), hk 3 (by omega) (by omega) (by omega), hk 4 (by omega) (by omega) (by omega), hk 5 (by omega) (by omega) (by omega), hk 7 (by omega) (by omega) (by omega), or_self]
  simp only [a53, a53_0, a53_1, a53_3, a53_4, a53_5, a53_6, a53_7, a53_8, a53_9, Slots.ofList, s3, reduceIte, Nat.reduceEqDiff, aBin, aInt, negIf, Option.some.injEq, exists_eq_left', Option.map_some, Option.bind_some, y1, y2, y3, y4, ← eh1, ← eh2, aFieldAddr, Nat.zero_add, Int.reduceBEq, Int.reduceBNe, p0, q0, z, k1, k2, k3, k4, k5, k7, a53_15]
  exact finI (by simp only [get_put, reduceIte, Nat.reduceEqDiff]; rw [e]) rfl
theorem wf_list {i : Int} {s : List UInt8} {c : Int} {nf : Option Bool} {ns : List Int} {af : Option Bool} {ar : List Tm} (w : Wf (.mk 7 i s c nf ns af ar)) : ar ≠ [] ∧ lastNot7 ar = true := by
  have h := w.1.1
  rw [kindOk] at h
  simp at h
  exact ⟨fun e => by rw [e] at h; simp at h, h.2⟩
theorem ord_spec : ∀ a : Tm, a.Ok → Wf a → OrdOk a := by
  refine tm_ind fun k i s c nf ns af ar ih ok wf b okb wfb h => ?_
  rcases b with ⟨k', i', s', c', nf', ns', af', ar'⟩
  obtain ⟨_, sn, sa, sr⟩ := ok.lens
  obtain ⟨_, sn', sa', sr'⟩ := okb.lens
  have hP : ∀ t, t ∈ ar → OrdOk t := fun t m => ih t m (sr.get m) (wf.2.get m)
  by_cases hk : k = k'
  · subst hk
    by_cases e1 : k = 1
    · subst e1; exact ord_k1 i s c nf ns af ar i' s' c' nf' ns' af' ar' h
    by_cases e2 : k = 2
    · subst e2; exact ord_k2 i s c nf ns af ar i' s' c' nf' ns' af' ar' h
    by_cases e3 : k = 3
    · subst e3; exact ord_k3 i s c nf ns af ar i' s' c' nf' ns' af' ar' sn sn' h
    by_cases e4 : k = 4
    · subst e4; exact ord_k4 i s c nf ns af ar i' s' c' nf' ns' af' ar' sn sn' h
    by_cases e5 : k = 5
    · subst e5; exact ord_k5 i s c nf ns af ar i' s' c' nf' ns' af' ar' hP sr' wfb.2 sa sa' h
    by_cases e7 : k = 7
    · subst e7; exact ord_k7 i s c nf ns af ar i' s' c' nf' ns' af' ar' hP sr' wfb.2 (wf_list wf).1 (wf_list wfb).1 (wf_list wf).2 (wf_list wfb).2 h
    exact ord_k0 k i s c nf ns af ar i' s' c' nf' ns' af' ar' (fun j h1 h2 h3 => by omega) h
  · have := ord_kinds (.mk k i s c nf ns af ar) (.mk k' i' s' c' nf' ns' af' ar') hk h
    have e : ordF (.mk k i s c nf ns af ar) (.mk k' i' s' c' nf' ns' af' ar') = cmpI k k' := by rw [ordF, if_pos hk]
    rw [e]; exact this
end Go.Bf

set_option linter.unusedVariables false
set_option linter.unusedSimpArgs false
set_option maxRecDepth 20000
namespace Go.Bf
open Go.AM
def cmpL : List UInt8 → List UInt8 → Int
  | [], [] => 0
  | [], _ :: _ => -1
  | _ :: _, [] => 1
  | a :: l, b :: m => if a.toNat < b.toNat then -1 else if a.toNat > b.toNat then 1 else cmpL l m
theorem cmpL_eq : ∀ a b : List UInt8, cmpL a b = cmpS a b
  | [], [] => by rw [cmpL, cmpS]; rfl
  | [], _ :: _ => by rw [cmpL, cmpS]; rfl
  | _ :: _, [] => by rw [cmpL, cmpS]; rfl
  | a :: l, b :: m => by
    have ih := cmpL_eq l m
    rw [cmpL, cmpS, Op.bytesLess]
    have lt : (decide (a < b)) = decide (a.toNat < b.toNat) := by rw [decide_eq_decide]; exact UInt8.lt_iff_toNat_lt
    by_cases h1 : a.toNat < b.toNat
    · rw [if_pos h1, lt, decide_eq_true h1]; rfl
    · rw [if_neg h1, lt, decide_eq_false h1, Bool.false_or]
      by_cases h2 : a.toNat > b.toNat
      · have hne : (a == b) = false := by
          cases e : (a == b) with
          | false => rfl
          | true => have := eq_of_beq e; subst this; omega
        have hne2 : (a :: l == b :: m) = false := by rw [List.cons_beq_cons, hne]; rfl
        rw [if_pos h2, hne, hne2]; rfl
      · have e : a = b := UInt8.toNat_inj.1 (by omega)
        subst e
        rw [if_neg h2, ih, cmpS, List.cons_beq_cons, beq_self_eq_true, Bool.true_and, Bool.true_and]
end Go.Bf

set_option linter.unusedVariables false
set_option linter.unusedSimpArgs false
set_option maxRecDepth 20000
namespace Go.Bf
open Go.AM
end Go.Bf

set_option linter.unusedVariables false
set_option linter.unusedSimpArgs false
set_option maxRecDepth 20000
namespace Go.Bf
open Go.AM
section
variable {h : Heap} {i2 i3 : Nat} {nf nf' : Option Bool} {ns ns' : List Int}
  (l4 : aLoad h false 1 (.ptr i2 0 4) = some ⟨slAV nf ns.length (u32s ns), h, .read⟩) (l4' : aLoad h false 1 (.ptr i3 0 4) = some ⟨slAV nf' ns'.length (u32s ns'), h, .read⟩)
include l4 l4'
end
section
variable {h : Heap} {i2 i3 : Nat} {af af' : Option Bool} {ar ar' : List Tm}
  (l5 : aLoad h false 1 (.ptr i2 0 5) = some ⟨slAV af ar.length (tcs ar), h, .read⟩) (l5' : aLoad h false 1 (.ptr i3 0 5) = some ⟨slAV af' ar'.length (tcs ar'), h, .read⟩)
include l5 l5'
end
theorem wf_list2 {i : Int} {s : List UInt8} {c : Int} {nf : Option Bool} {ns : List Int} {af : Option Bool} {ar : List Tm} (w : Wf (.mk 7 i s c nf ns af ar)) : 2 ≤ ar.length := by
  have h := w.1.1
  rw [kindOk] at h
  simp at h
  exact h.1.2
end Go.Bf

set_option linter.unusedVariables false
set_option linter.unusedSimpArgs false
set_option maxRecDepth 20000
namespace Go.AM
theorem frz_agg {h : Heap} {l l' : List AV} (k : FrzAll h l l') : Frz h (.agg l) (.agg l') := by
  cases hr : AV.noRef (.agg l) with
  | true =>
    have : l = l' := by
      simp only [AV.noRef] at hr
      induction l generalizing l' with
      | nil => exact Eq.symm k
      | cons v l ih =>
        obtain ⟨a, b, rfl, ha, hb⟩ := k
        simp only [AV.noRefs, Bool.and_eq_true] at hr
        rw [(frz_noRef hr.1).1 ha, ih hb hr.2]
    subst this
    exact (frz_noRef hr).2 rfl
  | false =>
    obtain ⟨n, hn⟩ := frzAll_mapM k
    refine ⟨n + 1, fun m hm => ?_⟩
    cases m with
    | zero => omega
    | succ m => simp only [freeze, hr, hn m (by omega), Option.map_some]
end Go.AM
namespace Go.Bf
open Go.AM
theorem frz_acc {h : Heap} {sz n : Nat} {v : AV} {cells : List AV} (k : Acc h sz v cells) (hn : AV.noRefs cells = true) (hl : aLen v = some n) : ∃ f, Frz h v (slAV f n cells) := by
  cases k with
  | nils => cases hl; exact ⟨none, (frz_noRef (v := .nils) rfl).2 rfl⟩
  | full m _ hc => cases hl; exact ⟨some true, (frz_noRef (v := .fs true n cells) hn).2 rfl⟩
  | sl id gen m _ hat hc =>
    cases hl
    have ht : (cells.drop 0).take (n * sz) = cells := by rw [List.drop_zero]; exact List.take_of_length_le (by omega)
    refine ⟨some false, (frz_sl hat (by omega) (by rw [ht]; exact hn)).2 ?_⟩
    rw [ht]; rfl
/-- a function that is pure answers in any heap what it answers in one -/
theorem pure_any {f : Nat} {fn : AFunc} {args : List AV} {h0 h : Heap} {v : AV} {c : Cls} (hp : env.prim f = none) (hf : env.func f = some fn) (hu : env.pure_ f = true) (hr : AV.noRefs args = true)
    (w : WC env f args h0 (fun o => o = .ret ⟨v, h0, c⟩)) : WC env f args h (fun o => o = .ret ⟨v, h, .none⟩) := by
  obtain ⟨n, o, hn, ho⟩ := run_of_wc w
  subst ho
  cases n with
  | zero => cases hn
  | succ n =>
    have key : ∀ h, env.call (n + 1) f args h = (env.body (env.call n) n fn args .empty).bind fun
          | .ret r => (Go.AM.freeze r.h n r.v).map fun v => .ret ⟨v, h, .none⟩
          | .panic _ _ => none := by
      intro h
      show (match env.prim f with | some p => _ | none => _) = _
      rw [hp]
      show (env.func f).bind _ = _
      rw [hf]
      show (match env.pure_ f with | true => _ | false => _) = _
      rw [hu]
      show (match AV.noRefs args with | true => _ | false => _) = _
      rw [hr]
      rfl
    refine wc_run (n := n + 1) ?_
    rw [key] at hn ⊢
    cases e : env.body (env.call n) n fn args .empty with
    | none => rw [e] at hn; cases hn
    | some o =>
      rw [e] at hn
      cases o with
      | panic v' h' => cases hn
      | ret r =>
        change (Option.bind (some (COut.ret r)) _) = _ at hn
        change (Option.bind (some (COut.ret r)) _) = _
        simp only [Option.bind_some] at hn ⊢
        cases e2 : Go.AM.freeze r.h n r.v with
        | none => rw [e2] at hn; cases hn
        | some v' =>
          rw [e2] at hn
          simp only [Option.map_some, Option.some.injEq, COut.ret.injEq, OpRes.mk.injEq] at hn
          simp only [Option.map_some]
          rw [hn.1]
mutual
def er : Tm → Tm
  | .mk k i s c nf ns af ar => .mk k i s c none ns none (ers ar)
def ers : List Tm → List Tm
  | [] => []
  | t :: l => er t :: ers l
end
theorem ers_append : ∀ (l m : List Tm), ers (l ++ m) = ers l ++ ers m
  | [], m => rfl
  | t :: l, m => by rw [List.cons_append, ers, ers_append l m]; rfl
theorem ers_length : ∀ l : List Tm, (ers l).length = l.length
  | [] => rfl
  | t :: l => by rw [ers, List.length_cons, List.length_cons, ers_length l]
theorem tcs_append : ∀ (l m : List Tm), tcs (l ++ m) = tcs l ++ tcs m
  | [], m => rfl
  | t :: l, m => by rw [List.cons_append, tcs, tcs_append l m, tcs, List.append_assoc]
theorem oks_append : ∀ {l m : List Tm}, Oks l → Oks m → Oks (l ++ m)
  | [], _, _, h => h
  | t :: l, m, h, h2 => by
    rw [Oks] at h
    rw [List.cons_append, Oks]
    exact ⟨h.1, oks_append h.2 h2⟩
theorem wf_nums {t : Tm} (w : Wf t) : ∀ {k i : Int} {s : List UInt8} {c : Int} {nf : Option Bool} {ns : List Int} {af : Option Bool} {ar : List Tm}, t = .mk k i s c nf ns af ar → ns.length ≤ 3 := by
  rintro k i s c nf ns af ar rfl
  have h := w.1.1
  rw [kindOk] at h
  split at h
  · simp [emptyF] at h; rw [h.1.1.2.1]; simp
  split at h
  · simp [emptyF] at h; rw [h.1.1.1]; simp
  split at h
  · simp at h; omega
  split at h
  · simp at h; omega
  split at h
  · simp [emptyF] at h; rw [h.1.2.1]; simp
  split at h
  · simp [emptyF] at h; rw [h.1.1.2.1]; simp
  split at h
  · simp [emptyF] at h; rw [h.1.1.1.2.1]; simp
  · cases h
theorem sliceCells_nums {h : Heap} (f : Option Bool) (ns : List Int) : ∃ c, sliceCells h 1 ns.length (slAV f ns.length (u32s ns)) = some (u32s ns, c) := by
  have hl := u32_length ns
  have ht : (u32s ns).take (ns.length * 1) = u32s ns := List.take_of_length_le (by omega)
  have go : ∀ b, sliceCells h 1 ns.length (.fs b ns.length (u32s ns)) = some (u32s ns, .none) := by
    intro b
    simp only [sliceCells]
    rw [if_pos ⟨Nat.le_refl _, by omega⟩, ht]
  cases f with
  | none =>
    cases ns with
    | nil => exact ⟨_, rfl⟩
    | cons x l => exact ⟨_, go false⟩
  | some b => exact ⟨_, go b⟩
theorem aLen_sl (f : Option Bool) (n : Nat) (cs : List AV) : aLen (slAV f n cs) = some n := by
  cases f with
  | none => cases n <;> rfl
  | some b => rfl
theorem eqs_sl (f : Option Bool) (n : Nat) (cs : List AV) : ∃ b, aEq .slice (slAV f n cs) .nils = some b ∧ (b = true → slAV f n cs = .nils ∧ n = 0) := by
  cases f with
  | none =>
    cases n with
    | zero => exact ⟨true, rfl, fun _ => ⟨rfl, rfl⟩⟩
    | succ n => exact ⟨false, rfl, fun h => by cases h⟩
  | some b => exact ⟨false, rfl, fun h => by cases h⟩
/-- slices.Clone of numbers -/
theorem clone_nums (f : Option Bool) (ns : List Int) (hn : ns.length ≤ 1000) {h : Heap} (ho : HeapOk h) : ∃ v h', WC env 69 [slAV f ns.length (u32s ns)] h (fun o => o = .ret ⟨v, h', .write⟩) ∧ HeapOk h' ∧ h.le h' ∧ Acc h' 1 v (u32s ns) ∧ aLen v = some ns.length ∧ ∀ id, v.own = some id → h.next ≤ id := by
  obtain ⟨b, eb, hb⟩ := eqs_sl f ns.length (u32s ns)
  cases b with
  | true =>
    obtain ⟨e1, e2⟩ := hb rfl
    have e3 : ns = [] := List.length_eq_zero_iff.1 e2
    subst e3
    refine ⟨.nils, h, ?_, ho, Heap.le_refl h, .nils, rfl, fun id e => by cases e⟩
    refine call_body rfl rfl (.inl rfl) ?_
    simp only [a69, a69_0, a69_1, a69_2, Slots.ofList, wpc_draw, s3, reduceIte, Nat.reduceEqDiff, aBin, aInt, negIf, Option.some.injEq, exists_eq_left', Option.map_some, Option.bind_some, eb]
    exact ⟨[.nils], by simp only [Env.results, Option.map_some, get_put, reduceIte, Nat.reduceEqDiff], rfl⟩
  | false =>
    obtain ⟨c0, hc⟩ := sliceCells_nums (h := h) f ns
    obtain ⟨v, h', c', w1, k, l1, ho', l3, l4⟩ := Acc.append (bt := 4) ho (by omega : 0 < 1) (Acc.full (h := h) (sz := 1) 0 [] rfl) (m := 0) rfl (aLen_sl f _ _) hc (by rw [u32_length]; omega) (by omega) (by omega)
    rw [List.nil_append] at k
    rw [Nat.zero_add] at l4
    refine ⟨v, h', ?_, ho', ⟨l1.1, fun id gen cs e => l1.2 id gen cs (by intro e2; cases e2) e⟩, k, l4, fun id e => (l3 id e).elim (fun e2 => by cases e2) (fun e2 => e2)⟩
    refine call_body rfl rfl (.inl rfl) ?_
    have y1 : aFill [] [] = some [] := rfl
    simp only [a69, a69_0, a69_1, a69_3, Slots.ofList, wpc_draw, s3, reduceIte, Nat.reduceEqDiff, aBin, aInt, negIf, Option.some.injEq, exists_eq_left', Option.map_some, Option.bind_some, eb, y1, List.length_nil, Nat.reduceMul, w1, isC c']
    exact ⟨[v], by simp only [Env.results, Option.map_some, get_put, reduceIte, Nat.reduceEqDiff], rfl⟩
end Go.Bf

set_option linter.unusedVariables false
set_option linter.unusedSimpArgs false
set_option maxRecDepth 20000
namespace Go.Bf
open Go.AM
section
variable {h : Heap} {i : Nat} {a b c d e f : AV} (hat : h.at_ i 0 = some [a, b, c, d, e, f])
include hat
theorem st64 {v : AV} (hv : v.row = some [v]) : aStore h 1 (.ptr i 0 4) v = some ⟨.undef, h.upd i 0 [a, b, c, d, v, f], .write⟩ := by
  simp only [aStore, hat, Option.bind_some, hv]; rfl
theorem st65 {v : AV} (hv : v.row = some [v]) : aStore h 1 (.ptr i 0 5) v = some ⟨.undef, h.upd i 0 [a, b, c, d, e, v], .write⟩ := by
  simp only [aStore, hat, Option.bind_some, hv]; rfl
end
theorem fill6 (t : Tm) : aFill [.int .i64 0, .int .i64 0, .str [], .int .u32 0, .nils, .nils] [(0, 6, .agg (tc t))] = some (tc t) := by
  cases t; rfl
theorem one_t (h : Heap) (t : Tm) : sliceCells h 6 1 (.fs true 1 (tc t)) = some (tc t, .none) := by
  have hl := tc_length t
  simp only [sliceCells]
  rw [if_pos ⟨Nat.le_refl _, by omega⟩, List.take_of_length_le (by omega)]
def CopyOk (t : Tm) : Prop := ∃ t', t'.Ok ∧ er t' = er t ∧ ∀ h, WC env 39 [.agg (tc t)] h (fun o => o = .ret ⟨.agg (tc t'), h, .none⟩)
theorem copy_loop {ar : List Tm} (hP : ∀ t, t ∈ ar → CopyOk t) (hlen : ar.length ≤ 4096) {af : Option Bool} {i1 i2 bd : Nat} {C Z : List AV} (b1 : i1 < bd) (b2 : i2 < bd) {Q : AExit → St → Prop} :
    ∀ (f i : Nat) (σ : Slots) (h : Heap) (v : AV) (l : List Tm), ar.length - i < f → i ≤ ar.length → HeapOk h → bd ≤ h.next → h.at_ i1 0 = some C → h.at_ i2 0 = some Z → Acc h 6 v (tcs l) → aLen v = some i → l.length = i → ers l = ers (ar.take i) → Oks l → (∀ id, v.own = some id → bd ≤ id) →
    σ.get 1 = .ptr i1 0 0 → σ.get 2 = .ptr i2 0 0 → σ.get 3 = v → σ.get 11 = slAV af ar.length (tcs ar) → σ.get 12 = .int .i64 ar.length → σ.get 13 = .int .i64 i →
    (∀ σ' h' v' l', Chg (fun j => bd ≤ j) h h' → HeapOk h' → h'.at_ i1 0 = some C → h'.at_ i2 0 = some Z → Acc h' 6 v' (tcs l') → aLen v' = some ar.length → l'.length = ar.length → ers l' = ers ar → Oks l' → (∀ id, v'.own = some id → bd ≤ id) → σ'.get 1 = .ptr i1 0 0 → σ'.get 2 = .ptr i2 0 0 → σ'.get 3 = v' → Q (.exit 0) ⟨σ', h'⟩) →
    WPr env a39_l8 ⟨σ, h⟩ Q := by
  intro f
  induction f with
  | zero => intro i σ h v l h1; omega
  | succ f ih =>
    intro i σ h v l hf hi ho hbd h1 h2 k hv hl he hok hown g1 g2 g3 g11 g12 g13 hQ
    refine wpr_round' fun b hb => ?_
    by_cases c1 : i < ar.length
    · have z0 : ((i : Int) < (ar.length : Int)) = True := eq_true (by omega)
      have zi : IntKind.wrap .i64 ((i : Int) + 1) = ((i + 1 : Nat) : Int) := wrap_nat (by omega) (by omega)
      have lx := idx_args (f := af) c1
      have ld := ld_args c1 h
      obtain ⟨t', ok', er', wc'⟩ := hP ar[i] (List.getElem_mem c1)
      obtain ⟨h3, st3, ho3, le3, at3⟩ := box_t ho ar[i]
      have lt3 := ld_t at3
      have y1 := fill6 t'
      have y2 : (tc t').length = 6 := tc_length t'
      obtain ⟨v', h4, c4, w4, k4, lb4, ho4, ow4, len4⟩ := Acc.append (bt := 88) ho3 (by omega : 0 < 6) (k.le le3) hv (show aLen (.fs true 1 (tc t')) = some 1 from rfl) (one_t h3 t') (by rw [y2]) (by omega) (by omega)
      have cg : Chg (fun j => bd ≤ j) h h4 := le3.chg.trans (lb4.chg fun j e => hown j e)
      have n1 : h4.at_ i1 0 = some C := lb4.2 _ _ _ (fun e => by have := hown _ e; omega) (le3.2 _ _ _ h1)
      have n2 : h4.at_ i2 0 = some Z := lb4.2 _ _ _ (fun e => by have := hown _ e; omega) (le3.2 _ _ _ h2)
      have k4' : Acc h4 6 v' (tcs (l ++ [t'])) := by rw [tcs_append, tcs, tcs, List.append_nil]; exact k4
      simp only [a39_l8, a39_4, a39_5, a39_6, a39_7, wpc_draw, s3, reduceIte, Nat.reduceEqDiff, aBin, aInt, negIf, Option.some.injEq, exists_eq_left', Option.map_some, Option.bind_some, g1, g2, g3, g11, g12, g13, z0, zi, lx, ld, st3, lt3, wc_eq (wc' _), y1, y2, Nat.reduceMul, w4, isC c4]
      subst hb
      refine ih (i + 1) _ h4 v' (l ++ [t']) (by omega) (by omega) ho4 (by have := le3.1; have := lb4.1; omega) n1 n2 k4' len4 (by simp [hl]) ?_ (oks_append hok ⟨ok', trivial⟩) (fun id e => ?_) ?_ ?_ ?_ ?_ ?_ ?_ fun σ' h' v'' l'' p0 => hQ σ' h' v'' l'' (cg.trans p0)
      · rw [List.take_succ_eq_append_getElem c1, ers_append, ers_append, he, ers, ers, ers, ers, er']
      · rcases ow4 id e with e2 | e2
        · exact hown id e2
        · have := le3.1; omega
      · simp only [get_put, reduceIte, Nat.reduceEqDiff, g1]
      · simp only [get_put, reduceIte, Nat.reduceEqDiff, g2]
      · simp only [get_put, reduceIte, Nat.reduceEqDiff]
      · simp only [get_put, reduceIte, Nat.reduceEqDiff, g11]
      · simp only [get_put, reduceIte, Nat.reduceEqDiff, g12]
      · simp only [get_put, reduceIte, Nat.reduceEqDiff]
    · have z0 : ((i : Int) < (ar.length : Int)) = False := eq_false (by omega)
      have hi' : i = ar.length := by omega
      subst hi'
      rw [List.take_length] at he
      simp only [a39_l8, a39_4, wpc_draw, s3, reduceIte, Nat.reduceEqDiff, aBin, aInt, negIf, Option.some.injEq, exists_eq_left', Option.map_some, Option.bind_some, g12, g13, z0]
      refine hQ _ h v l Chg.refl ho h1 h2 k hv hl he hok hown ?_ ?_ ?_ <;> simp only [get_put, reduceIte, Nat.reduceEqDiff, g1, g2, g3]
theorem copy_spec : ∀ t : Tm, t.Ok → Wf t → CopyOk t := by
  refine tm_ind fun k i s c nf ns af ar ih ok wf => ?_
  obtain ⟨ss, sn, sa, sr⟩ := ok.lens
  have hP : ∀ t, t ∈ ar → CopyOk t := fun t m => ih t m (sr.get m) (wf.2.get m)
  have hn3 : ns.length ≤ 3 := wf_nums wf rfl
  have ha4 : ar.length ≤ 4096 := wf.1.2
  rw [Tm.Ok] at ok
  obtain ⟨t, et⟩ : ∃ t : Tm, t = .mk k i s c nf ns af ar := ⟨_, rfl⟩
  have hr : AV.noRefs [.agg (tc t)] = true := by simp only [AV.noRefs, AV.noRef, noRef_tc, Bool.and_self]
  have run : WC env 39 [.agg (tc t)] .empty (fun o => ∃ t' : Tm, t'.Ok ∧ er t' = er t ∧ o = .ret ⟨.agg (tc t'), .empty, .none⟩) := by
    refine call_pure rfl rfl rfl hr ?_
    obtain ⟨cs, ec⟩ : ∃ cs, cs = tc t := ⟨_, rfl⟩
    have ec' : cs = [.int .i64 k, .int .i64 i, .str s, .int .u32 c, slAV nf ns.length (u32s ns), slAV af ar.length (tcs ar)] := by rw [ec, et]; rfl
    rw [← ec]
    obtain ⟨i1, ei1⟩ : ∃ i1, i1 = Heap.empty.next := ⟨_, rfl⟩
    obtain ⟨h1, eh1⟩ : ∃ h1, h1 = Heap.empty.new cs := ⟨_, rfl⟩
    have ho1 : HeapOk h1 := by rw [eh1]; exact HeapOk.empty.new _
    have a1 : h1.at_ i1 0 = some cs := by rw [eh1, ei1]; exact at_new _
    obtain ⟨i2, ei2⟩ : ∃ i2, i2 = h1.next := ⟨_, rfl⟩
    obtain ⟨h2, eh2⟩ : ∃ h2, h2 = h1.new [.int .i64 0, .int .i64 0, .str [], .int .u32 0, .nils, .nils] := ⟨_, rfl⟩
    have ho2 : HeapOk h2 := by rw [eh2]; exact ho1.new _
    have a2 : h2.at_ i1 0 = some cs := by rw [eh2]; exact (le_new ho1 _).2 _ _ _ a1
    have r2 : h2.at_ i2 0 = some [.int .i64 0, .int .i64 0, .str [], .int .u32 0, .nils, .nils] := by rw [eh2, ei2]; exact at_new _
    rw [ec'] at a2
    have y1 : (AV.agg cs).row = some cs := rfl
    have y2 : cs.length = 6 := by rw [ec']; rfl
    have l4 := ld64 a2
    obtain ⟨vn, h3, wn, ho3, le3, kn, len3, own3⟩ := clone_nums nf ns (by omega) ho2
    have a3 := le3.2 _ _ _ a2
    have r3 := le3.2 _ _ _ r2
    have t1 := ho2.lt a2
    have t2 := ho2.lt r2
    have s4 := st64 a3 kn.row
    obtain ⟨h4, eh4⟩ : ∃ h4, h4 = h3.upd i1 0 [.int .i64 k, .int .i64 i, .str s, .int .u32 c, vn, slAV af ar.length (tcs ar)] := ⟨_, rfl⟩
    rw [← eh4] at s4
    have ho4 : HeapOk h4 := by rw [eh4]; exact ho3.upd (at_look.1 a3) _ _
    have a4 : h4.at_ i1 0 = some [.int .i64 k, .int .i64 i, .str s, .int .u32 c, vn, slAV af ar.length (tcs ar)] := by rw [eh4]; exact at_upd
    have hne : i2 ≠ i1 := by have := ho1.lt a1; omega
    have r4 : h4.at_ i2 0 = _ := (by rw [eh4]; exact at_upd_ne hne : h4.at_ i2 0 = h3.at_ i2 0).trans r3
    have ch4 : Chg (fun j => j = i1) h3 h4 := by rw [eh4]; exact upd_chg rfl
    have kn4 : Acc h4 1 vn (u32s ns) := kn.chg ch4 (fun id e => by have := own3 id e; omega)
    have l5 := ld65 a4
    have al : ∀ h, aLenOp false h (slAV af ar.length (tcs ar)) = some ⟨.int .i64 ar.length, h, .none⟩ := fun h => len_sl _ _ _ (fun _ => trivial) h
    simp only [a39, a39_0, a39_1, a39_2, a39_3, Slots.ofList, wpc_draw, s3, reduceIte, Nat.reduceEqDiff, aBin, aInt, negIf, Option.some.injEq, exists_eq_left', Option.map_some, Option.bind_some, y1, y2, ← eh1, ← eh2, ← ei1, ← ei2, aFieldAddr, Nat.zero_add, l4, wc_eq wn, s4, l5, al]
    have hle : h2.next ≤ h4.next := Nat.le_trans le3.1 ch4.1
    have hvn : ∀ id, vn.own = some id → id < h4.next := fun id e => kn4.ownLt ho4 e
    refine copy_loop (ar := ar) hP ha4 (af := af) (i1 := i1) (i2 := i2) (bd := h4.next) (by omega) (by omega) (ar.length + 1) 0 _ h4 .nils [] (by omega) (by omega) ho4 (Nat.le_refl _) a4 r4 .nils rfl rfl rfl trivial (fun id e => by cases e) ?_ ?_ ?_ ?_ ?_ ?_ fun σ' h' v' l' p0 p1 p2 p3 p4 p5 p6 p7 p8 p9 q1 q2 q3 => ?_
    · simp only [get_put, reduceIte, Nat.reduceEqDiff]
    · simp only [get_put, reduceIte, Nat.reduceEqDiff]
    · simp only [get_put, reduceIte, Nat.reduceEqDiff]
    · simp only [get_put, reduceIte, Nat.reduceEqDiff]
    · simp only [get_put, reduceIte, Nat.reduceEqDiff]
    · simp only [get_put, reduceIte, Nat.reduceEqDiff]; rfl
    have kn5 : Acc h' 1 vn (u32s ns) := kn4.chg p0 (fun id e => by have := hvn id e; omega)
    have s5 := st65 p2 p4.row
    obtain ⟨h5, eh5⟩ : ∃ h5, h5 = h'.upd i1 0 [.int .i64 k, .int .i64 i, .str s, .int .u32 c, vn, v'] := ⟨_, rfl⟩
    rw [← eh5] at s5
    have a5 : h5.at_ i1 0 = some [.int .i64 k, .int .i64 i, .str s, .int .u32 c, vn, v'] := by rw [eh5]; exact at_upd
    have r5 : h5.at_ i2 0 = some [.int .i64 0, .int .i64 0, .str [], .int .u32 0, .nils, .nils] := (by rw [eh5]; exact at_upd_ne hne : h5.at_ i2 0 = h'.at_ i2 0).trans p3
    have lb := ld6 a5
    have sb := st6 (a' := .int .i64 k) (b' := .int .i64 i) (c' := .str s) (d' := .int .u32 c) (e' := vn) (f' := v') r5
    obtain ⟨h6, eh6⟩ : ∃ h6, h6 = h5.upd i2 0 [.int .i64 k, .int .i64 i, .str s, .int .u32 c, vn, v'] := ⟨_, rfl⟩
    rw [← eh6] at sb
    have r6 : h6.at_ i2 0 = some [.int .i64 k, .int .i64 i, .str s, .int .u32 c, vn, v'] := by rw [eh6]; exact at_upd
    have ch6 : Chg (fun j => j = i1 ∨ j = i2) h' h6 := by
      rw [eh6, eh5]
      exact (upd_chg (S := fun j => j = i1 ∨ j = i2) (.inl rfl)).trans (upd_chg (S := fun j => j = i1 ∨ j = i2) (.inr rfl))
    obtain ⟨f1, z1⟩ := frz_acc (kn5.chg ch6 (fun id e => by have := own3 id e; omega)) (noRefs_u32 ns) len3
    obtain ⟨f2, z2⟩ := frz_acc (p4.chg ch6 (fun id e => by have := p9 id e; omega)) (noRef_tcs l') p5
    simp only [a39_9, a39_10, wpc_draw, s3, reduceIte, Nat.reduceEqDiff, aBin, aInt, negIf, Option.some.injEq, exists_eq_left', Option.map_some, Option.bind_some, q1, q2, q3, aFieldAddr, Nat.zero_add, s5, lb, sb]
    rw [← p6] at z2
    refine ⟨[.agg [.int .i64 k, .int .i64 i, .str s, .int .u32 c, vn, v']], .agg (tc (.mk k i s c f1 ns f2 l')), ?_, ?_, .mk k i s c f1 ns f2 l', ?_, ?_, rfl⟩
    · simp only [Env.results, Option.map_some, get_put, reduceIte, Nat.reduceEqDiff, q2, ld6 r6, Option.bind_some]
    · exact frz_agg ⟨_, _, rfl, (frz_noRef (v := .int .i64 k) rfl).2 rfl, _, _, rfl, (frz_noRef (v := .int .i64 i) rfl).2 rfl, _, _, rfl, (frz_noRef (v := .str s) rfl).2 rfl, _, _, rfl, (frz_noRef (v := .int .u32 c) rfl).2 rfl, _, _, rfl, z1, _, _, rfl, z2, rfl⟩
    · rw [Tm.Ok]
      exact ⟨ok.1, ok.2.1, ok.2.2.1, ok.2.2.2.1, ss, sn, by omega, p8⟩
    · rw [et, er, er, p7]
  obtain ⟨o, hrun, t', ok', e', rfl⟩ := run
  refine ⟨t', ok', by rw [e', et], fun h => ?_⟩
  rw [← et]
  exact pure_any rfl rfl rfl hr (h0 := .empty) (c := .none) ⟨_, hrun, rfl⟩
end Go.Bf

set_option linter.unusedVariables false
set_option linter.unusedSimpArgs false
set_option maxRecDepth 20000
namespace Go.Bf
open Go.AM
/-- is it a term? -/
def isT (t : Tm) : Bool := match chkF t with | none => true | some _ => false
theorem eq_walk (x : WFlt) : aEq (.iface true) (walkAV x) .nili = some (match x with | none => true | some _ => false) := by
  rcases x with _ | ⟨a, c, u⟩ <;> rfl
theorem isT_wf {t : Tm} (h : isT t = true) : Wf t := by
  unfold isT at h
  split at h
  · rename_i e; exact wf_chk e
  · cases h
theorem eq_chk (t : Tm) : aEq (.iface true) (walkAV (chkF t)) .nili = some (isT t) := eq_walk _
def eqF (a b : Tm) : Bool := isT a && isT b && (ordF a b == 0)
theorem equal_spec (a b : Tm) (oka : a.Ok) (okb : b.Ok) (h : Heap) : WC env 33 [.agg (tc a), .agg (tc b)] h (fun o => o = .ret ⟨.bool (eqF a b), h, .none⟩) := by
  refine call_pure rfl rfl rfl (by simp only [AV.noRefs, AV.noRef, noRef_tc, Bool.and_self]) ?_
  obtain ⟨h1, eh1⟩ : ∃ h1, h1 = Heap.empty.new (tc a) := ⟨_, rfl⟩
  have ho1 : HeapOk h1 := by rw [eh1]; exact HeapOk.empty.new _
  have a1 : h1.at_ Heap.empty.next 0 = some (tc a) := by rw [eh1]; exact at_new _
  obtain ⟨h2, eh2⟩ : ∃ h2, h2 = h1.new (tc b) := ⟨_, rfl⟩
  have a2 : h2.at_ Heap.empty.next 0 = some (tc a) := by rw [eh2]; exact (le_new ho1 _).2 _ _ _ a1
  have b2 : h2.at_ h1.next 0 = some (tc b) := by rw [eh2]; exact at_new _
  have y1 : (AV.agg (tc a)).row = some (tc a) := rfl
  have y2 : (tc a).length = 6 := tc_length a
  have y3 : (AV.agg (tc b)).row = some (tc b) := rfl
  have y4 : (tc b).length = 6 := tc_length b
  have la := ld_t a2
  have lb := ld_t b2
  cases e1 : isT a with
  | false =>
    have e : eqF a b = false := by rw [eqF, e1]; rfl
    have q1 := eq_chk a
    rw [e1] at q1
    simp only [a33, a33_0, a33_1, Slots.ofList, wpc_draw, s3, reduceIte, Nat.reduceEqDiff, aBin, aInt, negIf, Option.some.injEq, exists_eq_left', Option.map_some, Option.bind_some, y1, y2, y3, y4, ← eh1, ← eh2, la, lb, wc_eq (check_spec a oka _), q1, aPick]
    exact finB (by simp only [get_put, reduceIte, Nat.reduceEqDiff]; rw [e]) rfl
  | true =>
  have q1 := eq_chk a
  rw [e1] at q1
  cases e2 : isT b with
  | false =>
    have e : eqF a b = false := by rw [eqF, e1, e2]; rfl
    have q2 := eq_chk b
    rw [e2] at q2
    simp only [a33, a33_0, a33_1, Slots.ofList, wpc_draw, s3, reduceIte, Nat.reduceEqDiff, aBin, aInt, negIf, Option.some.injEq, exists_eq_left', Option.map_some, Option.bind_some, y1, y2, y3, y4, ← eh1, ← eh2, la, lb, wc_eq (check_spec a oka _), wc_eq (check_spec b okb _), q1, q2, aPick]
    exact finB (by simp only [get_put, reduceIte, Nat.reduceEqDiff]; rw [e]) rfl
  | true =>
  have q2 := eq_chk b
  rw [e2] at q2
  have wo := ord_spec a oka (isT_wf e1) b okb (isT_wf e2)
  have e : eqF a b = (ordF a b == 0) := by rw [eqF, e1, e2]; rfl
  simp only [a33, a33_0, a33_1, Slots.ofList, wpc_draw, s3, reduceIte, Nat.reduceEqDiff, aBin, aInt, negIf, Option.some.injEq, exists_eq_left', Option.map_some, Option.bind_some, y1, y2, y3, y4, ← eh1, ← eh2, la, lb, wc_eq (check_spec a oka _), wc_eq (check_spec b okb _), q1, q2, aPick, wc_eq (wo _)]
  exact finB (by simp only [get_put, reduceIte, Nat.reduceEqDiff]; rw [e]) rfl
mutual
def sameF : Tm → Tm → Bool
  | .mk k i s c nf ns af ar, .mk k' i' s' c' nf' ns' af' ar' => k == k' && i == i' && s == s' && c == c' && ns.length == ns'.length && ar.length == ar'.length && ns == ns' && sameFs ar ar'
def sameFs : List Tm → List Tm → Bool
  | [], [] => true
  | [], _ :: _ => false
  | _ :: _, [] => false
  | a :: l, b :: m => sameF a b && sameFs l m
end
def SameOk (a : Tm) : Prop := ∀ b, b.Ok → ∀ h, WC env 19 [.agg (tc a), .agg (tc b)] h (fun o => o = .ret ⟨.bool (sameF a b), h, .none⟩)
section
variable {h : Heap} {i2 i3 : Nat} {x0 x1 x2 x3 y0 y1 y2 y3 : AV} {nf nf' : Option Bool} {ns ns' : List Int} {av av2 : AV}
  (l4 : aLoad h false 1 (.ptr i2 0 4) = some ⟨slAV nf ns.length (u32s ns), h, .read⟩) (l4' : aLoad h false 1 (.ptr i3 0 4) = some ⟨slAV nf' ns'.length (u32s ns'), h, .read⟩)
include l4 l4'
theorem same_nums (hlen : ns.length = ns'.length) (hb : ns.length < 9223372036854775808) {Q : AExit → St → Prop} :
    ∀ (f i : Nat) (σ : Slots), ns.length - i < f → i ≤ ns.length → σ.get 2 = .ptr i2 0 0 → σ.get 3 = .ptr i3 0 0 → σ.get 5 = .int .i64 i →
    (∀ σ', (σ'.get 4 = .bool false → ns.drop i ≠ ns'.drop i → Q .ret ⟨σ', h⟩) ∧ (σ'.get 2 = .ptr i2 0 0 → σ'.get 3 = .ptr i3 0 0 → ns.drop i = ns'.drop i → Q (.exit 0) ⟨σ', h⟩)) →
    WPr env a19_l8 ⟨σ, h⟩ Q := by
  intro f
  induction f with
  | zero => intro i σ h1; omega
  | succ f ih =>
    intro i σ hf hi g2 g3 g5 hQ
    refine wpr_round' fun b hb => ?_
    have nl : ∀ h, aLenOp false h (slAV nf ns.length (u32s ns)) = some ⟨.int .i64 ns.length, h, .none⟩ := fun h => len_sl _ _ _ (fun _ => trivial) h
    by_cases c1 : i < ns.length
    · have c2 : i < ns'.length := by omega
      have z0 : ((i : Int) < (ns.length : Int)) = True := eq_true (by omega)
      have zi : IntKind.wrap .i64 ((i : Int) + 1) = ((i + 1 : Nat) : Int) := wrap_nat (by omega) (by omega)
      have lx := idx_nums (f := nf) c1
      have ld := ld_nums c1 h
      have lx2 := idx_nums (f := nf') c2
      have ld2 := ld_nums c2 h
      have hd1 : ns.drop i = ns[i] :: ns.drop (i + 1) := List.drop_eq_getElem_cons c1
      have hd2 : ns'.drop i = ns'[i] :: ns'.drop (i + 1) := List.drop_eq_getElem_cons c2
      rw [hd1, hd2] at hQ
      simp only [a19_l8, a19_4, s3, reduceIte, Nat.reduceEqDiff, aBin, aInt, negIf, Option.some.injEq, exists_eq_left', Option.map_some, Option.bind_some, g2, g3, g5, aFieldAddr, Nat.zero_add, l4, l4', nl, z0]
      refine wpc_draw_k ?_
      by_cases c3 : ns[i] = ns'[i]
      · have z3 : (ns[i] != ns'[i]) = false := by simpa using c3
        simp only [s3, reduceIte, Nat.reduceEqDiff, aBin, aInt, negIf, Option.some.injEq, exists_eq_left', Option.map_some, Option.bind_some, k3, a19_5, a19_7, g2, g3, g5, aFieldAddr, Nat.zero_add, l4, l4', lx, ld, lx2, ld2, z3, zi]
        refine ⟨rfl, ?_⟩
        subst hb
        refine ih (i + 1) _ (by omega) (by omega) ?_ ?_ ?_ fun σ' => ⟨fun g e => (hQ σ').1 g (fun e2 => e (by injection e2)), fun e0 e1 e => (hQ σ').2 e0 e1 (by rw [c3, e])⟩
        · simp only [get_put, reduceIte, Nat.reduceEqDiff, g2]
        · simp only [get_put, reduceIte, Nat.reduceEqDiff, g3]
        · simp only [get_put, reduceIte, Nat.reduceEqDiff]
      · have z3 : (ns[i] != ns'[i]) = true := by simpa using c3
        simp only [s3, reduceIte, Nat.reduceEqDiff, aBin, aInt, negIf, Option.some.injEq, exists_eq_left', Option.map_some, Option.bind_some, k3, a19_5, a19_6, g2, g3, g5, aFieldAddr, Nat.zero_add, l4, l4', lx, ld, lx2, ld2, z3, zi]
        refine ⟨rfl, ?_⟩
        exact (hQ _).1 (by simp only [get_put, reduceIte, Nat.reduceEqDiff]) (fun e => c3 (by injection e))
    · have z0 : ((i : Int) < (ns.length : Int)) = False := eq_false (by omega)
      simp only [a19_l8, a19_4, s3, reduceIte, Nat.reduceEqDiff, aBin, aInt, negIf, Option.some.injEq, exists_eq_left', Option.map_some, Option.bind_some, g2, g3, g5, aFieldAddr, Nat.zero_add, l4, l4', nl, z0]
      refine (hQ _).2 (by simp only [get_put, reduceIte, Nat.reduceEqDiff, g2]) (by simp only [get_put, reduceIte, Nat.reduceEqDiff, g3]) ?_
      rw [List.drop_of_length_le (by omega), List.drop_of_length_le (by omega)]
end
section
variable {h : Heap} {i2 i3 : Nat} {af af' : Option Bool} {ar ar' : List Tm}
  (l5 : aLoad h false 1 (.ptr i2 0 5) = some ⟨slAV af ar.length (tcs ar), h, .read⟩) (l5' : aLoad h false 1 (.ptr i3 0 5) = some ⟨slAV af' ar'.length (tcs ar'), h, .read⟩)
include l5 l5'
theorem same_args (hP : ∀ t, t ∈ ar → SameOk t) (okm : Oks ar') (hlen : ar.length = ar'.length) (hb : ar.length < 9223372036854775808) {Q : AExit → St → Prop} :
    ∀ (f i : Nat) (σ : Slots), ar.length - i < f → i ≤ ar.length → σ.get 2 = .ptr i2 0 0 → σ.get 3 = .ptr i3 0 0 → σ.get 6 = .int .i64 i →
    (∀ σ', (σ'.get 4 = .bool false → sameFs (ar.drop i) (ar'.drop i) = false → Q .ret ⟨σ', h⟩) ∧ (sameFs (ar.drop i) (ar'.drop i) = true → Q (.exit 2) ⟨σ', h⟩)) →
    WPr env a19_l14 ⟨σ, h⟩ Q := by
  intro f
  induction f with
  | zero => intro i σ h1; omega
  | succ f ih =>
    intro i σ hf hi g2 g3 g6 hQ
    refine wpr_round' fun b hb => ?_
    have nl : ∀ h, aLenOp false h (slAV af ar.length (tcs ar)) = some ⟨.int .i64 ar.length, h, .none⟩ := fun h => len_sl _ _ _ (fun _ => trivial) h
    by_cases c1 : i < ar.length
    · have c2 : i < ar'.length := by omega
      have z0 : ((i : Int) < (ar.length : Int)) = True := eq_true (by omega)
      have zi : IntKind.wrap .i64 ((i : Int) + 1) = ((i + 1 : Nat) : Int) := wrap_nat (by omega) (by omega)
      have lx := idx_args (f := af) c1
      have ld := ld_args c1 h
      have lx2 := idx_args (f := af') c2
      have ld2 := ld_args c2 h
      have hd1 : ar.drop i = ar[i] :: ar.drop (i + 1) := List.drop_eq_getElem_cons c1
      have hd2 : ar'.drop i = ar'[i] :: ar'.drop (i + 1) := List.drop_eq_getElem_cons c2
      have wo := hP ar[i] (List.getElem_mem c1) ar'[i] (okm.get (List.getElem_mem c2))
      rw [hd1, hd2, sameFs] at hQ
      simp only [a19_l14, a19_10, s3, reduceIte, Nat.reduceEqDiff, aBin, aInt, negIf, Option.some.injEq, exists_eq_left', Option.map_some, Option.bind_some, g2, g3, g6, aFieldAddr, Nat.zero_add, l5, l5', nl, z0]
      refine wpc_draw_k ?_
      cases z3 : sameF ar[i] ar'[i] with
      | true =>
        rw [z3, Bool.true_and] at hQ
        rw [z3] at wo
        simp only [s3, reduceIte, Nat.reduceEqDiff, aBin, aInt, negIf, Option.some.injEq, exists_eq_left', Option.map_some, Option.bind_some, k3, a19_11, a19_13, g2, g3, g6, aFieldAddr, Nat.zero_add, l5, l5', lx, ld, lx2, ld2, wc_eq (wo _), aUn, Bool.not_true, zi]
        refine ⟨rfl, ?_⟩
        subst hb
        refine ih (i + 1) _ (by omega) (by omega) ?_ ?_ ?_ hQ
        · simp only [get_put, reduceIte, Nat.reduceEqDiff, g2]
        · simp only [get_put, reduceIte, Nat.reduceEqDiff, g3]
        · simp only [get_put, reduceIte, Nat.reduceEqDiff]
      | false =>
        rw [z3, Bool.false_and] at hQ
        rw [z3] at wo
        simp only [s3, reduceIte, Nat.reduceEqDiff, aBin, aInt, negIf, Option.some.injEq, exists_eq_left', Option.map_some, Option.bind_some, k3, a19_11, a19_12, g2, g3, g6, aFieldAddr, Nat.zero_add, l5, l5', lx, ld, lx2, ld2, wc_eq (wo _), aUn, Bool.not_false, zi]
        refine ⟨rfl, ?_⟩
        exact (hQ _).1 (by simp only [get_put, reduceIte, Nat.reduceEqDiff]) rfl
    · have z0 : ((i : Int) < (ar.length : Int)) = False := eq_false (by omega)
      simp only [a19_l14, a19_10, s3, reduceIte, Nat.reduceEqDiff, aBin, aInt, negIf, Option.some.injEq, exists_eq_left', Option.map_some, Option.bind_some, g2, g3, g6, aFieldAddr, Nat.zero_add, l5, l5', nl, z0]
      refine (hQ _).2 ?_
      rw [List.drop_of_length_le (by omega), List.drop_of_length_le (by omega), sameFs]
end
end Go.Bf

set_option linter.unusedVariables false
set_option linter.unusedSimpArgs false
set_option maxRecDepth 20000
namespace Go.Bf
open Go.AM
theorem same_spec : ∀ a : Tm, a.Ok → SameOk a := by
  refine tm_ind fun k i s c nf ns af ar ih ok b okb h => ?_
  rcases b with ⟨k', i', s', c', nf', ns', af', ar'⟩
  obtain ⟨_, sn, sa, sr⟩ := ok.lens
  obtain ⟨_, sn', sa', sr'⟩ := okb.lens
  have hP : ∀ t, t ∈ ar → SameOk t := fun t m => ih t m (sr.get m)
  obtain ⟨a, eta⟩ : ∃ a : Tm, a = .mk k i s c nf ns af ar := ⟨_, rfl⟩
  obtain ⟨b, etb⟩ : ∃ b : Tm, b = .mk k' i' s' c' nf' ns' af' ar' := ⟨_, rfl⟩
  have es : sameF a b = (k == k' && i == i' && s == s' && c == c' && ns.length == ns'.length && ar.length == ar'.length && ns == ns' && sameFs ar ar') := by rw [eta, etb, sameF]
  rw [← eta, ← etb]
  refine call_pure rfl rfl rfl (by simp only [AV.noRefs, AV.noRef, noRef_tc, Bool.and_self]) ?_
  obtain ⟨ca, ea⟩ : ∃ ca, ca = tc a := ⟨_, rfl⟩
  obtain ⟨cb, eb⟩ : ∃ cb, cb = tc b := ⟨_, rfl⟩
  rw [← ea, ← eb]
  have ea' : ca = [.int .i64 k, .int .i64 i, .str s, .int .u32 c, slAV nf ns.length (u32s ns), slAV af ar.length (tcs ar)] := by rw [ea, eta]; rfl
  have eb' : cb = [.int .i64 k', .int .i64 i', .str s', .int .u32 c', slAV nf' ns'.length (u32s ns'), slAV af' ar'.length (tcs ar')] := by rw [eb, etb]; rfl
  obtain ⟨i2, ei2⟩ : ∃ i2, i2 = Heap.empty.next := ⟨_, rfl⟩
  obtain ⟨h1, eh1⟩ : ∃ h1, h1 = Heap.empty.new ca := ⟨_, rfl⟩
  have ho1 : HeapOk h1 := by rw [eh1]; exact HeapOk.empty.new _
  have a1' : h1.at_ i2 0 = some ca := by rw [eh1, ei2]; exact at_new _
  obtain ⟨i3, ei3⟩ : ∃ i3, i3 = h1.next := ⟨_, rfl⟩
  obtain ⟨h2, eh2⟩ : ∃ h2, h2 = h1.new cb := ⟨_, rfl⟩
  have a2' : h2.at_ i2 0 = some ca := by rw [eh2]; exact (le_new ho1 _).2 _ _ _ a1'
  have b2' : h2.at_ i3 0 = some cb := by rw [eh2, ei3]; exact at_new _
  have y1 : (AV.agg ca).row = some ca := rfl
  have y2 : ca.length = 6 := by rw [ea']; rfl
  have y3 : (AV.agg cb).row = some cb := rfl
  have y4 : cb.length = 6 := by rw [eb']; rfl
  rw [ea'] at a2'
  rw [eb'] at b2'
  have p0 := ld60 a2'
  have p1 := ld61 a2'
  have p2 := ld62 a2'
  have p3 := ld63 a2'
  have p4 := ld64 a2'
  have p5 := ld65 a2'
  have q0 := ld60 b2'
  have q1 := ld61 b2'
  have q2 := ld62 b2'
  have q3 := ld63 b2'
  have q4 := ld64 b2'
  have q5 := ld65 b2'
  have n1 : ∀ h, aLenOp false h (slAV nf ns.length (u32s ns)) = some ⟨.int .i64 ns.length, h, .none⟩ := fun h => len_sl _ _ _ (fun _ => trivial) h
  have n2 : ∀ h, aLenOp false h (slAV nf' ns'.length (u32s ns')) = some ⟨.int .i64 ns'.length, h, .none⟩ := fun h => len_sl _ _ _ (fun _ => trivial) h
  have n3 : ∀ h, aLenOp false h (slAV af ar.length (tcs ar)) = some ⟨.int .i64 ar.length, h, .none⟩ := fun h => len_sl _ _ _ (fun _ => trivial) h
  have n4 : ∀ h, aLenOp false h (slAV af' ar'.length (tcs ar')) = some ⟨.int .i64 ar'.length, h, .none⟩ := fun h => len_sl _ _ _ (fun _ => trivial) h
  by_cases c0 : k = k'
  case neg =>
    have z0 : (k != k') = true := by simp; omega
    have er : sameF a b = false := by rw [es]; simp [c0]
    simp only [a19, a19_0, a19_1, a19_2, Slots.ofList, s3, reduceIte, Nat.reduceEqDiff, aBin, aInt, negIf, Option.some.injEq, exists_eq_left', Option.map_some, Option.bind_some, y1, y2, y3, y4, ← eh1, ← eh2, ← ei2, ← ei3, aFieldAddr, Nat.zero_add, aPick, aStr, p0, p1, p2, p3, p4, p5, q0, q1, q2, q3, q4, q5, n1, n2, n3, n4, z0]
    exact finB (by simp only [get_put, reduceIte, Nat.reduceEqDiff]; rw [er]) rfl
  have z0 : (k != k') = false := by simp; omega
  by_cases c1 : i = i'
  case neg =>
    have z1 : (i != i') = true := by simp; omega
    have er : sameF a b = false := by rw [es]; simp [c1]
    simp only [a19, a19_0, a19_1, a19_2, Slots.ofList, s3, reduceIte, Nat.reduceEqDiff, aBin, aInt, negIf, Option.some.injEq, exists_eq_left', Option.map_some, Option.bind_some, y1, y2, y3, y4, ← eh1, ← eh2, ← ei2, ← ei3, aFieldAddr, Nat.zero_add, aPick, aStr, p0, p1, p2, p3, p4, p5, q0, q1, q2, q3, q4, q5, n1, n2, n3, n4, z0, z1]
    exact finB (by simp only [get_put, reduceIte, Nat.reduceEqDiff]; rw [er]) rfl
  have z1 : (i != i') = false := by simp; omega
  by_cases c2 : s = s'
  case neg =>
    have z2 : (!(s == s')) = true := by simpa using c2
    have er : sameF a b = false := by rw [es]; simp [c2]
    simp only [a19, a19_0, a19_1, a19_2, Slots.ofList, s3, reduceIte, Nat.reduceEqDiff, aBin, aInt, negIf, Option.some.injEq, exists_eq_left', Option.map_some, Option.bind_some, y1, y2, y3, y4, ← eh1, ← eh2, ← ei2, ← ei3, aFieldAddr, Nat.zero_add, aPick, aStr, p0, p1, p2, p3, p4, p5, q0, q1, q2, q3, q4, q5, n1, n2, n3, n4, z0, z1, z2]
    exact finB (by simp only [get_put, reduceIte, Nat.reduceEqDiff]; rw [er]) rfl
  have z2 : (!(s == s')) = false := by simpa using c2
  by_cases c3 : c = c'
  case neg =>
    have z3 : (c != c') = true := by simp; omega
    have er : sameF a b = false := by rw [es]; simp [c3]
    simp only [a19, a19_0, a19_1, a19_2, Slots.ofList, s3, reduceIte, Nat.reduceEqDiff, aBin, aInt, negIf, Option.some.injEq, exists_eq_left', Option.map_some, Option.bind_some, y1, y2, y3, y4, ← eh1, ← eh2, ← ei2, ← ei3, aFieldAddr, Nat.zero_add, aPick, aStr, p0, p1, p2, p3, p4, p5, q0, q1, q2, q3, q4, q5, n1, n2, n3, n4, z0, z1, z2, z3]
    exact finB (by simp only [get_put, reduceIte, Nat.reduceEqDiff]; rw [er]) rfl
  have z3 : (c != c') = false := by simp; omega
  by_cases c4 : ns.length = ns'.length
  case neg =>
    have z4 : ((ns.length : Int) != (ns'.length : Int)) = true := by simp; omega
    have er : sameF a b = false := by rw [es]; simp [c4]
    simp only [a19, a19_0, a19_1, a19_2, Slots.ofList, s3, reduceIte, Nat.reduceEqDiff, aBin, aInt, negIf, Option.some.injEq, exists_eq_left', Option.map_some, Option.bind_some, y1, y2, y3, y4, ← eh1, ← eh2, ← ei2, ← ei3, aFieldAddr, Nat.zero_add, aPick, aStr, p0, p1, p2, p3, p4, p5, q0, q1, q2, q3, q4, q5, n1, n2, n3, n4, z0, z1, z2, z3, z4]
    exact finB (by simp only [get_put, reduceIte, Nat.reduceEqDiff]; rw [er]) rfl
  have z4 : ((ns.length : Int) != (ns'.length : Int)) = false := by simp; omega
  by_cases c5 : ar.length = ar'.length
  case neg =>
    have z5 : ((ar.length : Int) != (ar'.length : Int)) = true := by simp; omega
    have er : sameF a b = false := by rw [es]; simp [c5]
    simp only [a19, a19_0, a19_1, a19_2, Slots.ofList, s3, reduceIte, Nat.reduceEqDiff, aBin, aInt, negIf, Option.some.injEq, exists_eq_left', Option.map_some, Option.bind_some, y1, y2, y3, y4, ← eh1, ← eh2, ← ei2, ← ei3, aFieldAddr, Nat.zero_add, aPick, aStr, p0, p1, p2, p3, p4, p5, q0, q1, q2, q3, q4, q5, n1, n2, n3, n4, z0, z1, z2, z3, z4, z5]
    exact finB (by simp only [get_put, reduceIte, Nat.reduceEqDiff]; rw [er]) rfl
  have z5 : ((ar.length : Int) != (ar'.length : Int)) = false := by simp; omega
  have er : sameF a b = (ns == ns' && sameFs ar ar') := by rw [es]; simp [c0, c1, c2, c3, c4, c5]
  simp only [a19, a19_0, a19_1, a19_3, Slots.ofList, s3, reduceIte, Nat.reduceEqDiff, aBin, aInt, negIf, Option.some.injEq, exists_eq_left', Option.map_some, Option.bind_some, y1, y2, y3, y4, ← eh1, ← eh2, ← ei2, ← ei3, aFieldAddr, Nat.zero_add, aPick, aStr, p0, p1, p2, p3, p4, p5, q0, q1, q2, q3, q4, q5, n1, n2, n3, n4, z0, z1, z2, z3, z4, z5]
  refine same_nums (i2 := i2) (i3 := i3) p4 q4 c4 sn (ns.length + 1) 0 _ (by omega) (by omega) ?_ ?_ ?_ fun σ' => ⟨fun g e => ?_, fun g2 g3 e => ?_⟩
  · simp only [get_put, reduceIte, Nat.reduceEqDiff]
  · simp only [get_put, reduceIte, Nat.reduceEqDiff]
  · simp only [get_put, reduceIte, Nat.reduceEqDiff]; rfl
  · have e : (ns == ns') = false := by simpa using e
    simp only [s3, reduceIte, Nat.reduceEqDiff, aBin, aInt, negIf, Option.some.injEq, exists_eq_left', Option.map_some, Option.bind_some]
    exact finB g (by rw [er, e]; rfl)
  have e : (ns == ns') = true := by simpa using e
  rw [e, Bool.true_and] at er
  simp only [a19_9, s3, reduceIte, Nat.reduceEqDiff, aBin, aInt, negIf, Option.some.injEq, exists_eq_left', Option.map_some, Option.bind_some]
  refine same_args (i2 := i2) (i3 := i3) p5 q5 hP sr' c5 sa (ar.length + 1) 0 _ (by omega) (by omega) ?_ ?_ ?_ fun σ' => ⟨fun g e => ?_, fun e => ?_⟩
  · simp only [get_put, reduceIte, Nat.reduceEqDiff, g2]
  · simp only [get_put, reduceIte, Nat.reduceEqDiff, g3]
  · simp only [get_put, reduceIte, Nat.reduceEqDiff]; rfl
  · simp only [s3, reduceIte, Nat.reduceEqDiff, aBin, aInt, negIf, Option.some.injEq, exists_eq_left', Option.map_some, Option.bind_some]
    exact finB g (by rw [er]; rw [List.drop_zero, List.drop_zero] at e; rw [e])
  · rw [List.drop_zero, List.drop_zero] at e
    simp only [a19_15, s3, reduceIte, Nat.reduceEqDiff, aBin, aInt, negIf, Option.some.injEq, exists_eq_left', Option.map_some, Option.bind_some]
    exact finB (by simp only [get_put, reduceIte, Nat.reduceEqDiff]; rw [er, e]) rfl
end Go.Bf

set_option linter.unusedVariables false
set_option linter.unusedSimpArgs false
namespace Go.Bf
open Go.AM
theorem same_er : ∀ a b : Tm, sameF a b = true ↔ er a = er b := by
  refine tm_ind fun k i s c nf ns af ar ih b => ?_
  rcases b with ⟨k', i', s', c', nf', ns', af', ar'⟩
  have go : ∀ (l m : List Tm), (∀ t, t ∈ l → t ∈ ar) → (sameFs l m = true ↔ ers l = ers m) := by
    intro l
    induction l with
    | nil => intro m _; cases m <;> simp [sameFs, ers]
    | cons x l ihl =>
      intro m hl
      cases m with
      | nil => simp [sameFs, ers]
      | cons y m =>
        rw [sameFs, Bool.and_eq_true, ih x (hl x (by simp)) y, ihl m (fun t h => hl t (by simp [h])), ers, ers, List.cons.injEq]
  have g := go ar ar' (fun _ h => h)
  rw [sameF, er, er]
  simp only [Bool.and_eq_true, beq_iff_eq, g, Tm.mk.injEq, true_and]
  constructor
  · rintro ⟨⟨⟨⟨⟨⟨⟨h1, h2⟩, h3⟩, h4⟩, _⟩, _⟩, h7⟩, h8⟩
    exact ⟨h1, h2, h3, h4, h7, h8⟩
  · rintro ⟨h1, h2, h3, h4, h7, h8⟩
    have : ar.length = ar'.length := by rw [← ers_length ar, h8, ers_length]
    exact ⟨⟨⟨⟨⟨⟨⟨h1, h2⟩, h3⟩, h4⟩, by rw [h7]⟩, this⟩, h7⟩, h8⟩
theorem er_kind (t : Tm) : (er t).kind = t.kind := by cases t; rfl
theorem ord_er : ∀ a b : Tm, ordF (er a) (er b) = ordF a b := by
  refine tm_ind fun k i s c nf ns af ar ih b => ?_
  rcases b with ⟨k', i', s', c', nf', ns', af', ar'⟩
  have g1 : ∀ (l m : List Tm), (∀ t, t ∈ l → t ∈ ar) → ordFs (ers l) (ers m) = ordFs l m := by
    intro l
    induction l with
    | nil => intro m _; cases m <;> rfl
    | cons x l ihl =>
      intro m hl
      cases m with
      | nil => rfl
      | cons y m => rw [ers, ers, ordFs, ordFs, ih x (hl x (by simp)) y, ihl m (fun t h => hl t (by simp [h]))]
  have g2 : ∀ (l m : List Tm), (∀ t, t ∈ l → t ∈ ar) → ordL (ers l) (ers m) = ordL l m := by
    intro l
    induction l with
    | nil => intro m _; cases m <;> rfl
    | cons x l ihl =>
      intro m hl
      cases m with
      | nil => rfl
      | cons y m => rw [ers, ers, ordL, ordL, ih x (hl x (by simp)) y, ihl m (fun t h => hl t (by simp [h])), ers_length, ers_length, er_kind, er_kind]
  rw [er, er, ordF, ordF, g1 ar ar' (fun _ h => h), g2 ar ar' (fun _ h => h), ers_length, ers_length]
theorem cmpI_anti (a b : Int) : cmpI b a = - cmpI a b := by
  unfold cmpI
  repeat' split
  all_goals omega
theorem cmpL_anti : ∀ a b : List UInt8, cmpL b a = - cmpL a b
  | [], [] => rfl
  | [], _ :: _ => rfl
  | _ :: _, [] => rfl
  | a :: l, b :: m => by
    have ih := cmpL_anti l m
    rw [cmpL, cmpL, ih]
    repeat' split
    all_goals omega
theorem cmpS_anti (a b : List UInt8) : cmpS b a = - cmpS a b := by rw [← cmpL_eq, ← cmpL_eq]; exact cmpL_anti a b
theorem cmpNs_anti : ∀ a b : List Int, cmpNs b a = - cmpNs a b
  | [], [] => rfl
  | [], _ :: _ => rfl
  | _ :: _, [] => rfl
  | a :: l, b :: m => by
    rw [cmpNs, cmpNs, cmpI_anti a b, cmpNs_anti l m]
    by_cases h : cmpI a b = 0
    · rw [if_neg (by omega), if_neg (by omega)]
    · rw [if_pos (by omega), if_pos (by omega)]
theorem orI2_anti (a b : Int) : orI [-a, -b] = - orI [a, b] := by
  by_cases h1 : a = 0 <;> by_cases h2 : b = 0 <;> simp [orI, h1, h2]
theorem orI3_anti (a b c : Int) : orI [-a, -b, -c] = - orI [a, b, c] := by
  by_cases h1 : a = 0 <;> by_cases h2 : b = 0 <;> by_cases h3 : c = 0 <;> simp [orI, h1, h2, h3]
theorem ord_anti : ∀ a b : Tm, ordF b a = - ordF a b := by
  refine tm_ind fun k i s c nf ns af ar ih b => ?_
  rcases b with ⟨k', i', s', c', nf', ns', af', ar'⟩
  have g1 : ∀ (l m : List Tm), (∀ t, t ∈ l → t ∈ ar) → ordFs m l = - ordFs l m := by
    intro l
    induction l with
    | nil => intro m _; cases m <;> rfl
    | cons x l ihl =>
      intro m hl
      cases m with
      | nil => rfl
      | cons y m =>
        rw [ordFs, ordFs, ih x (hl x (by simp)) y, ihl m (fun t h => hl t (by simp [h]))]
        by_cases h : ordF x y = 0
        · rw [if_neg (by omega), if_neg (by omega)]
        · rw [if_pos (by omega), if_pos (by omega)]
  have g2 : ∀ (l m : List Tm), (∀ t, t ∈ l → t ∈ ar) → ordL m l = - ordL l m := by
    intro l
    induction l with
    | nil => intro m _; cases m <;> rfl
    | cons x l ihl =>
      intro m hl
      cases m with
      | nil => rfl
      | cons y m =>
        rw [ordL, ordL, ih x (hl x (by simp)) y, ihl m (fun t h => hl t (by simp [h]))]
        by_cases h1 : l.length = 0
        · by_cases h2 : m.length = 0
          · rw [if_pos h1, if_pos h2, if_pos h2, if_pos h1]
          · rw [if_neg h2, if_pos h1, if_pos h1, if_neg h2, cmpI_anti]
        · by_cases h2 : m.length = 0
          · rw [if_pos h2, if_neg h1, if_neg h1, if_pos h2, cmpI_anti]
          · rw [if_neg h2, if_neg h1, if_neg h1, if_neg h2]
            by_cases h : ordF x y = 0
            · rw [if_neg (by omega), if_neg (by omega)]
            · rw [if_pos (by omega), if_pos (by omega)]
  have f1 := g1 ar ar' (fun _ h => h)
  have f2 := g2 ar ar' (fun _ h => h)
  rw [ordF, ordF]
  by_cases hk : k = k'
  · subst hk
    rw [if_neg (show ¬ k ≠ k by simp), if_neg (show ¬ k ≠ k by simp), cmpI_anti i i', cmpS_anti s s', cmpI_anti c c', cmpNs_anti ns ns', cmpI_anti (ar.length : Int) ar'.length, f1, f2, orI3_anti, orI2_anti]
    split
    · rfl
    split
    · rfl
    split
    · rfl
    split
    · rfl
    split
    · rfl
    · rfl
  · rw [if_pos (fun h => hk h.symm), if_pos hk, cmpI_anti]
end Go.Bf

set_option linter.unusedVariables false
set_option linter.unusedSimpArgs false
set_option maxRecDepth 20000
namespace Go.Bf
open Go.AM
def zeroT : Tm := .mk 0 0 [] 0 none [] none []
/-- the arguments are looked at: no fault -/
theorem call_loop {ts : List Tm} (hok : Oks ts) (hall : ∀ t, t ∈ ts → isT t = true) {v : AV} (kv : Sl v ts) (hlen : ts.length < 1000000) {Q : AExit → St → Prop} :
    ∀ (f i : Nat) (σ : Slots) (h : Heap), ts.length - i < f → i ≤ ts.length → HeapOk h → σ.get 25 = v → σ.get 26 = .int .i64 ts.length → σ.get 27 = .int .i64 i →
    (∀ σ' h', HeapOk h' → h.le h' → (∀ n, n < 8 → σ'.get n = σ.get n) → Q (.exit 0) ⟨σ', h'⟩) → WPr env a18_l13 ⟨σ, h⟩ Q := by
  intro f
  induction f with
  | zero => intro i σ h h1; omega
  | succ f ih =>
    intro i σ h hf hi ho g25 g26 g27 hQ
    refine wpr_round' fun b hb => ?_
    by_cases c1 : i < ts.length
    · have z0 : ((i : Int) < (ts.length : Int)) = True := eq_true (by omega)
      have zi : IntKind.wrap .i64 ((i : Int) + 1) = ((i + 1 : Nat) : Int) := wrap_nat (by omega) (by omega)
      have lx := kv.idx c1
      have ld := ld_args c1 h
      obtain ⟨h3, st3, ho3, le3, at3⟩ := box_t ho ts[i]
      have lt3 := ld_t at3
      have q1 := eq_chk ts[i]
      rw [hall _ (List.getElem_mem c1)] at q1
      simp only [a18_l13, a18_5, a18_6, a18_7, a18_8, a18_12, wpc_draw, s3, reduceIte, Nat.reduceEqDiff, aBin, aInt, negIf, Option.some.injEq, exists_eq_left', Option.map_some, Option.bind_some, g25, g26, g27, z0, zi, lx, ld, st3, lt3, wc_eq (check_spec ts[i] (hok.get (List.getElem_mem c1)) _), q1, Bool.not_true]
      subst hb
      refine ih (i + 1) _ h3 (by omega) (by omega) ho3 ?_ ?_ ?_ fun σ' h' p1 p2 p3 => hQ σ' h' p1 ⟨Nat.le_trans le3.1 p2.1, fun id gen cs e => p2.2 _ _ _ (le3.2 _ _ _ e)⟩ fun n hn => ?_
      · simp only [get_put, reduceIte, Nat.reduceEqDiff, g25]
      · simp only [get_put, reduceIte, Nat.reduceEqDiff, g26]
      · simp only [get_put, reduceIte, Nat.reduceEqDiff]
      · rw [p3 n hn]
        simp only [get_put]
        by_cases e8 : n = 8
        · omega
        repeat rw [if_neg (by omega)]
    · have z0 : ((i : Int) < (ts.length : Int)) = False := eq_false (by omega)
      simp only [a18_l13, a18_5, wpc_draw, s3, reduceIte, Nat.reduceEqDiff, aBin, aInt, negIf, Option.some.injEq, exists_eq_left', Option.map_some, Option.bind_some, g26, g27, z0]
      refine hQ _ h ho (Heap.le_refl h) fun n hn => ?_
      simp only [get_put]
      rw [if_neg (by omega)]
theorem st_t {h : Heap} {i : Nat} {u t : Tm} (hat : h.at_ i 0 = some (tc u)) : aStore h 6 (.ptr i 0 0) (.agg (tc t)) = some ⟨.undef, h.upd i 0 (tc t), .write⟩ := by
  cases u with
  | mk k i s c nf ns af ar => cases t with
    | mk k' i' s' c' nf' ns' af' ar' => exact st6 hat
section
variable {name : List UInt8} {ts : List Tm} {v : AV} (hok : Oks ts) (hall : ∀ t, t ∈ ts → isT t = true) (kv : Sl v ts) (hlen : ts.length < 1000000) {a b c d : AV} (hf : findV name ts.length = .tup [.agg [a, b, c, d], .bool true])
include hok hall kv hlen hf
theorem callh {Q : AExit → St → Prop} (hQ : ∀ σ h i4, HeapOk h → h.at_ i4 0 = some zero6 → σ.get 0 = .str name → σ.get 1 = v → σ.get 4 = .ptr i4 0 0 →
      wpc env (.seq (.ops a18_14) (.seq (.seq (.ops a18_15) (.cond (.t 62) (.ops a18_16) .skip)) (.seq (.seq (.ops a18_17) (.cond (.t 64) (.seq (.ops a18_18) .ret) .skip)) (.seq (.ops a18_19) .ret)))) ⟨σ, h⟩ Q) :
    wpc env a18.body ⟨Slots.ofList 0 [.str name, v] .empty, .empty⟩ Q := by
  obtain ⟨i4, e4⟩ : ∃ i4, i4 = Heap.empty.next := ⟨_, rfl⟩
  obtain ⟨h1, eh1⟩ : ∃ h1, h1 = Heap.empty.new [.int .i64 0, .int .i64 0, .str [], .int .u32 0, .nils, .nils] := ⟨_, rfl⟩
  have ho1 : HeapOk h1 := by rw [eh1]; exact HeapOk.empty.new _
  have a1 : h1.at_ i4 0 = some zero6 := by rw [eh1, e4]; exact at_new _
  obtain ⟨h2, s2, ho2, hl2, a2⟩ := box4 ho1 a b c d
  have fs : ∀ h, WC env 13 [.str name, .int .i64 ts.length] h (fun o => o = .ret ⟨.tup [.agg [a, b, c, d], .bool true], h, .none⟩) := fun h => by rw [← hf]; exact find_spec h name ts.length
  have nl := kv.len
  have eb : a18.body = (.seq (.ops a18_0) (.seq (.seq (.ops a18_1) (.seq (.ops a18_2) (.cond (.t 22) (.seq (.ops a18_3) .ret) .skip))) (.seq (.seq (.ops a18_4) (.block 0 (.loop a18_l13))) (.seq (.ops a18_14) (.seq (.seq (.ops a18_15) (.cond (.t 62) (.ops a18_16) .skip)) (.seq (.seq (.ops a18_17) (.cond (.t 64) (.seq (.ops a18_18) .ret) .skip)) (.seq (.ops a18_19) .ret))))))) := rfl
  rw [eb, wpc_seq]
  obtain ⟨R, eR⟩ : ∃ R, R = AC.seq (.ops a18_14) (.seq (.seq (.ops a18_15) (.cond (.t 62) (.ops a18_16) .skip)) (.seq (.seq (.ops a18_17) (.cond (.t 64) (.seq (.ops a18_18) .ret) .skip)) (.seq (.ops a18_19) .ret))) := ⟨_, rfl⟩
  rw [← eR]
  rw [← eR] at hQ
  simp only [a18_0, a18_1, a18_2, a18_4, Slots.ofList, wpc_draw, s3, reduceIte, Nat.reduceEqDiff, aBin, aInt, negIf, Option.some.injEq, exists_eq_left', Option.map_some, Option.bind_some, ← eh1, ← e4, nl, wc_eq (fs _), aExtract, ex0, ex1, s2, aUn, Bool.not_true]
  refine call_loop hok hall kv hlen (ts.length + 1) 0 _ h2 (by omega) (by omega) ho2 ?_ ?_ ?_ fun σ' h' p1 p2 p3 => ?_
  · simp only [get_put, reduceIte, Nat.reduceEqDiff]
  · simp only [get_put, reduceIte, Nat.reduceEqDiff]
  · simp only [get_put, reduceIte, Nat.reduceEqDiff]; rfl
  refine hQ σ' h' i4 p1 (p2.2 _ _ _ (hl2.2 _ _ _ a1)) ?_ ?_ ?_
  · rw [p3 0 (by omega)]; simp only [get_put, reduceIte, Nat.reduceEqDiff]
  · rw [p3 1 (by omega)]; simp only [get_put, reduceIte, Nat.reduceEqDiff]
  · rw [p3 4 (by omega)]; simp only [get_put, reduceIte, Nat.reduceEqDiff]
theorem call_fine {r : Tm} (okr : r.Ok) (hr : isT r = true) (hc : ∀ h, WC env 38 [.str name, v] h (fun o => o = .ret ⟨.tup [.agg (tc r), .int .i64 0], h, .none⟩)) :
    ∃ r' : Tm, r'.Ok ∧ er r' = er r ∧ ∀ h, WC env 18 [.str name, v] h (fun o => o = .ret ⟨.tup [.agg (tc r'), .nili], h, .none⟩) := by
  obtain ⟨r', ok', er', wc'⟩ := copy_spec r okr (isT_wf hr)
  refine ⟨r', ok', er', fun h => call_pure rfl rfl rfl (by simp only [AV.noRefs, AV.noRef, kv.noRef, Bool.and_self]) (callh hok hall kv hlen hf fun σ h1 i4 ho1 a4 g0 g1 g4 => ?_)⟩
  obtain ⟨h2, s2, ho2, hl2, a2⟩ := box_t ho1 r
  have l2 := ld_t a2
  have sx := st_t (t := r') (u := zeroT) (hl2.2 _ _ _ a4)
  have l6 : aLoad (h2.upd i4 0 (tc r')) true 6 (.ptr i4 0 0) = some ⟨.agg (tc r'), h2.upd i4 0 (tc r'), .read⟩ := ld_t at_upd
  have q1 := eq_chk r
  rw [hr] at q1
  simp only [a18_14, a18_15, a18_17, a18_19, wpc_draw, s3, reduceIte, Nat.reduceEqDiff, aBin, aInt, negIf, Option.some.injEq, exists_eq_left', Option.map_some, Option.bind_some, g0, g1, g4, wc_eq (hc _), aExtract, ex0, ex1, s2, Int.reduceBEq, Int.reduceBNe, l2, wc_eq (check_spec r okr _), q1, Bool.not_true, aPick, wc_eq (wc' _), sx]
  exact ⟨[.agg (tc r'), .nili], .tup [.agg (tc r'), .nili], by simp only [a18, Env.results, Option.map_some, get_put, reduceIte, Nat.reduceEqDiff, g4, l6, Option.bind_some] <;> rfl, (frz_noRef (v := .tup [.agg (tc r'), .nili]) (by simp only [AV.noRef, AV.noRefs, noRef_tc, Bool.and_self])).2 rfl, rfl⟩
theorem call_limit {r : Tm} (okr : r.Ok) (hr : isT r = false) (hc : ∀ h, WC env 38 [.str name, v] h (fun o => o = .ret ⟨.tup [.agg (tc r), .int .i64 0], h, .none⟩)) (h : Heap) :
    WC env 18 [.str name, v] h (fun o => o = .ret ⟨.tup [.agg zero6, errB 262], h, .none⟩) := by
  refine call_pure rfl rfl rfl (by simp only [AV.noRefs, AV.noRef, kv.noRef, Bool.and_self]) (callh hok hall kv hlen hf fun σ h1 i4 ho1 a4 g0 g1 g4 => ?_)
  obtain ⟨h2, s2, ho2, hl2, a2⟩ := box_t ho1 r
  have l2 := ld_t a2
  have sx : aStore h2 6 (.ptr i4 0 0) (.agg zero6) = some ⟨.undef, h2.upd i4 0 zero6, .write⟩ := st6 (hl2.2 _ _ _ a4)
  have l6 : aLoad (h2.upd i4 0 zero6) true 6 (.ptr i4 0 0) = some ⟨.agg zero6, h2.upd i4 0 zero6, .read⟩ := ld6 at_upd
  have y5 : aFill [.int .i64 0, .int .i64 0, .str [], .int .u32 0, .nils, .nils] [] = some zero6 := rfl
  have q1 := eq_chk r
  rw [hr] at q1
  simp only [a18_14, a18_15, a18_16, a18_17, a18_18, wpc_draw, s3, reduceIte, Nat.reduceEqDiff, aBin, aInt, negIf, Option.some.injEq, exists_eq_left', Option.map_some, Option.bind_some, g0, g1, g4, wc_eq (hc _), aExtract, ex0, ex1, s2, Int.reduceBEq, Int.reduceBNe, l2, wc_eq (check_spec r okr _), q1, Bool.not_false, aPick, y5, wc_eq (refused_spec _ _), sx]
  exact ⟨[.agg zero6, errB 262], .tup [.agg zero6, errB 262], by simp only [a18, Env.results, Option.map_some, get_put, reduceIte, Nat.reduceEqDiff, g4, l6, Option.bind_some] <;> rfl, (frz_noRef (v := .tup [.agg zero6, errB 262]) rfl).2 rfl, rfl⟩
end
end Go.Bf

set_option linter.unusedVariables false
set_option linter.unusedSimpArgs false
namespace Go.Bf
open Go.AM
theorem last_er : ∀ l : List Tm, lastNot7 (ers l) = lastNot7 l
  | [] => rfl
  | [t] => by rw [ers, ers, lastNot7, lastNot7, er_kind]
  | t :: u :: l => last_er (u :: l)
theorem empty_er (t : Tm) (x y z : Bool) : emptyF (er t) x y z = emptyF t x y z := by
  cases t; rw [er, emptyF, emptyF, ers_length]
theorem kindOk_er (t : Tm) : kindOk (er t) = kindOk t := by
  cases t with
  | mk k i s c nf ns af ar =>
    have e := empty_er (.mk k i s c nf ns af ar)
    rw [er] at e ⊢
    rw [kindOk, kindOk]
    simp only [e, ers_length, last_er]
theorem form_er (t : Tm) : formF (er t) = formF t := by
  cases t with
  | mk k i s c nf ns af ar =>
    have e := kindOk_er (.mk k i s c nf ns af ar)
    rw [er] at e ⊢
    rw [formF, formF, e]
theorem walk_er : ∀ t deep n d, walkF (er t) deep n d = walkF t deep n d := by
  refine tm_ind fun k i s c nf ns af ar ih deep n d => ?_
  have go : ∀ (l : List Tm), (∀ t, t ∈ l → t ∈ ar) → ∀ deep n d, walkFs (ers l) deep n d = walkFs l deep n d := by
    intro l
    induction l with
    | nil => intro _ _ _ _; rfl
    | cons t l ihl =>
      intro hl deep n d
      rw [ers, walkFs, walkFs, ih t (hl t (by simp))]
      split
      · exact ihl (fun t h => hl t (by simp [h])) _ _ _
      · rfl
  have e := form_er (.mk k i s c nf ns af ar)
  rw [er] at e ⊢
  rw [walkF, walkF, e, go ar (fun _ h => h)]
theorem chk_er (t : Tm) : chkF (er t) = chkF t := by rw [chkF, walk_er, ← chkF]
theorem chk_same {a b : Tm} (h : er a = er b) : chkF a = chkF b := by rw [← chk_er a, h, chk_er]
theorem isT_same {a b : Tm} (h : er a = er b) : isT a = isT b := by rw [isT, isT, chk_same h]
theorem ord_same {a b a' b' : Tm} (h : er a = er a') (h2 : er b = er b') : ordF a b = ordF a' b' := by rw [← ord_er a b, h, h2, ord_er]
theorem same_of {a b : Tm} (h : er a = er b) : sameF a b = true := (same_er a b).2 h
theorem ord_self (a : Tm) : ordF a a = 0 := by have := ord_anti a a; omega
end Go.Bf

set_option linter.unusedVariables false
set_option linter.unusedSimpArgs false
set_option maxRecDepth 20000
namespace Go.Bf
open Go.AM
def nsAV : Tm → AV | .mk _ _ _ _ nf ns _ _ => slAV nf ns.length (u32s ns)
def arAV : Tm → AV | .mk _ _ _ _ _ _ af ar => slAV af ar.length (tcs ar)
def Tm.int : Tm → Int | .mk _ i _ _ _ _ _ _ => i
def Tm.cre : Tm → Int | .mk _ _ _ c _ _ _ _ => c
theorem ldc_t {t : Tm} : ldCells true 6 (tc t) = some (.agg (tc t)) := by cases t; rfl
theorem ldc_k {t : Tm} : ldCells false 1 (tc t) = some (.int .i64 t.kind) := by cases t; rfl
theorem ldc_i {t : Tm} : ldCells false 1 ((tc t).drop 1) = some (.int .i64 t.int) := by cases t; rfl
theorem ldc_s {t : Tm} : ldCells false 1 ((tc t).drop 2) = some (.str t.text) := by cases t; rfl
theorem ldc_c {t : Tm} : ldCells false 1 ((tc t).drop 3) = some (.int .u32 t.cre) := by cases t; rfl
theorem ldc_n {t : Tm} : ldCells false 1 ((tc t).drop 4) = some (nsAV t) := by cases t; rfl
theorem ldc_a {t : Tm} : ldCells false 1 ((tc t).drop 5) = some (arAV t) := by cases t; rfl
theorem arAV_sl (t : Tm) : Sl (arAV t) t.args := by
  cases t; exact sl_of _ _
theorem row_arAV {t : Tm} : (arAV t).row = some [arAV t] := by
  cases t with
  | mk k i s c nf ns af ar => cases af with
    | none => cases ar <;> rfl
    | some b => rfl
theorem fill12t {a b : Tm} : aFill [.int .i64 0, .int .i64 0, .str [], .int .u32 0, .nils, .nils, .int .i64 0, .int .i64 0, .str [], .int .u32 0, .nils, .nils] [(0, 6, .agg (tc a)), (6, 6, .agg (tc b))] = some (tc a ++ tc b) := by
  cases a; cases b; rfl
theorem fill6t {a : Tm} : aFill [.int .i64 0, .int .i64 0, .str [], .int .u32 0, .nils, .nils] [(0, 6, .agg (tc a))] = some (tc a) := by
  cases a; rfl
theorem fill60 : aFill [.int .i64 0, .int .i64 0, .str [], .int .u32 0, .nils, .nils] [] = some zero6 := id rfl
theorem len12t {a b : Tm} : (tc a ++ tc b).length = 12 := by cases a; cases b; rfl
theorem len_zero6 : zero6.length = 6 := id rfl
theorem ldc_z : ldCells true 6 zero6 = some (.agg zero6) := id rfl
theorem noRefs_zero6 : AV.noRefs zero6 = true := id rfl
theorem noRefs_tc {t : Tm} : AV.noRefs (tc t) = true := noRef_tc t
theorem tcs2 (a b : Tm) : tcs [a, b] = tc a ++ tc b := by simp [tcs]
theorem sl_two (a b : Tm) : Sl (.fs true 2 (tc a ++ tc b)) [a, b] := by
  rw [← tcs2]; exact .fs true [a, b]
theorem sl_one (a : Tm) : Sl (.fs true 1 (tc a)) [a] := by
  have : tc a = tcs [a] := by simp [tcs]
  rw [this]; exact .fs true [a]
theorem t3 : type_of% (And.intro (@ldc_t) (And.intro (@ldc_k) (And.intro (@ldc_i) (And.intro (@ldc_s) (And.intro (@ldc_c) (And.intro (@ldc_n) (And.intro (@ldc_a) (And.intro (@row_arAV) (And.intro (@fill12t) (And.intro (@fill6t) (And.intro (@fill60) (And.intro (@len12t) (And.intro (@len_zero6) (And.intro (@ldc_z) (And.intro (@noRefs_zero6) (And.intro (@noRefs_tc) (@tc_length))))))))))))))))) := And.intro (@ldc_t) (And.intro (@ldc_k) (And.intro (@ldc_i) (And.intro (@ldc_s) (And.intro (@ldc_c) (And.intro (@ldc_n) (And.intro (@ldc_a) (And.intro (@row_arAV) (And.intro (@fill12t) (And.intro (@fill6t) (And.intro (@fill60) (And.intro (@len12t) (And.intro (@len_zero6) (And.intro (@ldc_z) (And.intro (@noRefs_zero6) (And.intro (@noRefs_tc) (@tc_length))))))))))))))))
/-- both arguments, as they are read -/
theorem sl2 {v : AV} {a b : Tm} (k : Sl v [a, b]) : ∃ A B, aIdxAddr 6 v (.int .i64 0) = some (.fp A) ∧ aIdxAddr 6 v (.int .i64 1) = some (.fp B) ∧ ldCells true 6 A = some (.agg (tc a)) ∧ ldCells true 6 B = some (.agg (tc b)) ∧ ∀ h, aLenOp false h v = some ⟨.int .i64 2, h, .none⟩ := by
  cases k with
  | fs b' l => exact ⟨tc a ++ tcs [b], tc b ++ tcs [], by cases a; rfl, by cases a; rfl, by cases a; rfl, by cases b; rfl, fun h => rfl⟩
theorem sl1 {v : AV} {a : Tm} (k : Sl v [a]) : ∃ A, aIdxAddr 6 v (.int .i64 0) = some (.fp A) ∧ ldCells true 6 A = some (.agg (tc a)) ∧ ∀ h, aLenOp false h v = some ⟨.int .i64 1, h, .none⟩ := by
  cases k with
  | fs b' l => exact ⟨tc a ++ tcs [], by cases a; rfl, by cases a; rfl, fun h => rfl⟩
end Go.Bf

set_option linter.unusedVariables false
set_option linter.unusedSimpArgs false
set_option maxRecDepth 20000
namespace Go.Bf
open Go.AM
def last6 : List Tm → Bool
  | [] => false
  | [t] => t.kind == 6
  | _ :: t :: l => last6 (t :: l)
def elemsF (t : Tm) : Option (List Tm) := if t.kind = 6 then some [] else if t.kind = 7 ∧ last6 t.args = true then some t.args.dropLast else none
theorem last6_get : ∀ (l : List Tm) (h : l.length - 1 < l.length), last6 l = (l[l.length - 1].kind == 6)
  | [], h => by simp at h
  | [t], h => rfl
  | t :: u :: l, h => by
    rw [last6, last6_get (u :: l) (by simp)]
    simp
theorem tcs_take : ∀ (l : List Tm) (i : Nat), (tcs l).take (i * 6) = tcs (l.take i)
  | [], i => by simp [tcs]
  | t :: l, 0 => by simp [tcs]
  | t :: l, i + 1 => by
    have e : (i + 1) * 6 = (tc t).length + i * 6 := by rw [tc_length]; omega
    rw [tcs, e, List.take_append, List.take_of_length_le (by omega), Nat.add_sub_cancel_left, tcs_take l i, List.take_succ_cons, tcs]
theorem tcs_drop2 : ∀ (l : List Tm) (i : Nat), (tcs l).drop (i * 6) = tcs (l.drop i)
  | [], i => by simp [tcs]
  | t :: l, 0 => by simp [tcs]
  | t :: l, i + 1 => by
    have e : (i + 1) * 6 = (tc t).length + i * 6 := by rw [tc_length]; omega
    rw [tcs, e, List.drop_append, List.drop_of_length_le (by omega), Nat.add_sub_cancel_left, tcs_drop2 l i, List.drop_succ_cons, List.nil_append]
theorem sb_ok {n i : Nat} {k : IntKind} (h : i ≤ n) : sbound n (.int k i) = some i := by
  show (if 0 ≤ (i : Int) ∧ (i : Int) ≤ n then some ((i : Int).toNat) else none) = some i
  rw [if_pos ⟨by omega, by omega⟩]; rfl
theorem Sl.init {v : AV} {l : List Tm} (k : Sl v l) (hl : l ≠ []) : ∃ v', aSlice 6 v none (some (.int .i64 ((l.length - 1 : Nat) : Int))) (some (.int .i64 ((l.length - 1 : Nat) : Int))) = some v' ∧ Sl v' l.dropLast := by
  cases k with
  | nil => exact absurd rfl hl
  | fs b l =>
    have hb : bounds l.length l.length none (some (.int .i64 ((l.length - 1 : Nat) : Int))) (some (.int .i64 ((l.length - 1 : Nat) : Int))) = some (0, l.length - 1, l.length - 1) := by
      simp only [bounds, sb_ok (Nat.sub_le _ _), sb_ok (Nat.le_refl _), Option.bind_some, Option.map_some]
    refine ⟨.fs true (l.length - 1) (tcs l.dropLast), ?_, ?_⟩
    · simp only [aSlice, tcs_length, hb, Option.map_some, if_true, Nat.sub_zero, Nat.zero_mul, List.drop_zero, beq_self_eq_true, tcs_take, List.dropLast_eq_take]
    · have := Sl.fs true l.dropLast
      rwa [List.length_dropLast] at this
  
/-- a slice of terms that can be read -/
structure Src (h : Heap) (v : AV) (l : List Tm) : Prop where
  len : aLen v = some l.length
  cells : ∃ c, sliceCells h 6 l.length v = some (tcs l, c)
  nil : ∃ b, aEq .slice v .nils = some b ∧ (b = true → l = [])
theorem Sl.src {v : AV} {l : List Tm} (k : Sl v l) (h : Heap) : Src h v l := by
  cases k with
  | nil => exact ⟨rfl, ⟨.none, rfl⟩, ⟨true, rfl, fun _ => rfl⟩⟩
  | fs b l =>
    refine ⟨rfl, ⟨.none, ?_⟩, ⟨false, rfl, fun e => by cases e⟩⟩
    simp only [sliceCells, tcs_length]
    rw [if_pos ⟨Nat.le_refl _, trivial⟩, List.take_of_length_le (by rw [tcs_length]; exact Nat.le_refl _)]
theorem aLenOp_of {v : AV} {n : Nat} (e : aLen v = some n) (hs : ∀ s, v ≠ .str s) (h : Heap) : aLenOp false h v = some ⟨.int .i64 n, h, .none⟩ := by
  cases v <;> simp only [aLen, Option.some.injEq, reduceCtorEq] at e <;> first | (subst e; rfl) | exact absurd rfl (hs _)
theorem Src.lenOp {h : Heap} {v : AV} {l : List Tm} (k : Src h v l) (h2 : Heap) : aLenOp false h2 v = some ⟨.int .i64 l.length, h2, .none⟩ := by
  refine aLenOp_of k.len (fun s e => ?_) h2
  subst e
  obtain ⟨b, e, _⟩ := k.nil
  cases e
/-- slices.Clone of terms -/
theorem clone_ts {h : Heap} {v : AV} {l : List Tm} (k : Src h v l) (hn : l.length ≤ 100000000) (ho : HeapOk h) : ∃ v' h', WC env 104 [v] h (fun o => o = .ret ⟨v', h', .write⟩) ∧ HeapOk h' ∧ h.le h' ∧ Acc h' 6 v' (tcs l) ∧ aLen v' = some l.length ∧ ∀ id, v'.own = some id → h.next ≤ id := by
  obtain ⟨b, eb, hb⟩ := k.nil
  cases b with
  | true =>
    have e3 := hb rfl
    subst e3
    refine ⟨.nils, h, ?_, ho, Heap.le_refl h, .nils, rfl, fun id e => by cases e⟩
    refine call_body rfl rfl (.inl rfl) ?_
    simp only [a104, a104_0, a104_1, a104_2, Slots.ofList, wpc_draw, s3, reduceIte, Nat.reduceEqDiff, aBin, aInt, negIf, Option.some.injEq, exists_eq_left', Option.map_some, Option.bind_some, eb, h3, List.length_cons, List.length_nil, List.drop_zero, List.drop_succ_cons, Nat.reduceAdd, Nat.le_refl, and_self, true_and, if_true, Bool.and_self, Nat.reduceLeDiff, _root_.eq_self, and_true]
  | false =>
    obtain ⟨c0, hc⟩ := k.cells
    obtain ⟨v', h', c', w1, k1, l1, ho', l3, l4⟩ := Acc.append (bt := 88) ho (by omega : 0 < 6) (Acc.full (h := h) (sz := 6) 0 [] rfl) (m := 0) rfl k.len hc (tcs_length l) (by omega) (by omega)
    rw [List.nil_append] at k1
    rw [Nat.zero_add] at l4
    refine ⟨v', h', ?_, ho', ⟨l1.1, fun id gen cs e => l1.2 id gen cs (by intro e2; cases e2) e⟩, k1, l4, fun id e => (l3 id e).elim (fun e2 => by cases e2) (fun e2 => e2)⟩
    refine call_body rfl rfl (.inl rfl) ?_
    have y1 : aFill [] [] = some [] := rfl
    simp only [a104, a104_0, a104_1, a104_3, Slots.ofList, wpc_draw, s3, reduceIte, Nat.reduceEqDiff, aBin, aInt, negIf, Option.some.injEq, exists_eq_left', Option.map_some, Option.bind_some, eb, y1, List.length_nil, Nat.reduceMul, Nat.zero_mul, w1, isC c', h3, List.length_cons, List.length_nil, List.drop_zero, List.drop_succ_cons, Nat.reduceAdd, Nat.le_refl, and_self, true_and, if_true, Bool.and_self, Nat.reduceLeDiff, _root_.eq_self, and_true]
def zeros6 (n : Nat) : List AV := (List.replicate n zero6).flatten
theorem zeros6_len (n : Nat) : (zeros6 n).length = n * 6 := by simp [zeros6, zero6]
theorem grow_spec {n : Nat} (hn : 0 < n) (hn2 : n ≤ 100000000) (h : Heap) : WC env 143 [.nils, .int .i64 n] h (fun o => o = .ret ⟨.sl h.next 0 0 6 0 none, h.new (zeros6 n), .write⟩) := by
  have z0 : ((n : Int) < 0) = False := eq_false (by omega)
  have z1 : IntKind.wrap .i64 ((0 : Int) - 0) = 0 := by decide
  have z2 : IntKind.wrap .i64 ((n : Int) - 0) = (n : Int) := wrap_nat (by omega) (by omega)
  have z3 : ((n : Int) > 0) = True := eq_true (by omega)
  have c0 : aCap .nils = some (.int .i64 0) := rfl
  have l0 : ∀ h, aLenOp false h .nils = some ⟨.int .i64 0, h, .none⟩ := fun h => rfl
  have s0 : aSlice 6 .nils none (some (.int .i64 0)) none = some .nils := rfl
  have w1 : aAppendZ h 6 88 [.int .i64 0, .int .i64 0, .str [], .int .u32 0, .nils, .nils] .nils (.int .i64 n) = some ⟨.sl h.next 0 0 6 n none, h.new (zeros6 n), .write⟩ := by
    simp only [aAppendZ]
    rw [if_pos ⟨by omega, by omega, by omega, by omega, rfl⟩]
    rfl
  have s1 : aSlice 6 (.sl h.next 0 0 6 n none) none (some (.int .i64 0)) none = some (.sl h.next 0 0 6 0 none) := by
    have hb : bounds n n none (some (.int .i64 0)) none = some (0, 0, n) := by
      have := sb_ok (n := n) (i := 0) (k := .i64) (Nat.zero_le _)
      have this : sbound n (.int .i64 0) = some 0 := this
      simp only [bounds, this, Option.bind_some, Option.map_some]
    simp only [aSlice, if_true, hb, Option.map_some, Option.map_none, Nat.zero_mul, Nat.sub_zero, Nat.add_zero]
  refine call_body rfl rfl (.inl rfl) ?_
  simp only [a143, a143_0, a143_1, a143_3, a143_4, a143_5, a143_6, Slots.ofList, wpc_draw, s3, reduceIte, Nat.reduceEqDiff, aBin, aInt, negIf, Option.some.injEq, exists_eq_left', Option.map_some, Option.bind_some, z0, z1, z2, z3, c0, l0, s0, w1, s1, h3, List.length_cons, List.length_nil, List.drop_zero, List.drop_succ_cons, Nat.reduceAdd, Nat.le_refl, and_self, true_and, if_true, Bool.and_self, Nat.reduceLeDiff, _root_.eq_self, and_true]
/-- an append where there is room -/
theorem append_in {h : Heap} {id n m : Nat} {cs new : List AV} {y : AV} {c : Cls} (hat : h.at_ id 0 = some cs) (hy : aLen y = some m) (hm : m ≠ 0) (hc : sliceCells h 6 m y = some (new, c)) (hr : (n + m) * 6 ≤ cs.length) (hb : n + m ≤ 100000000) :
    aAppend h 6 88 (.sl id 0 0 6 n none) y = some ⟨.sl id 0 0 6 (n + m) none, h.upd id 0 (splice cs (n * 6) new), .write⟩ := by
  unfold aAppend
  rw [hy, Option.bind_some]
  simp only [aLen, Option.bind_some]
  rw [if_pos ⟨by omega, by omega, by omega⟩, if_neg hm, hc]
  simp only [Option.bind_some, if_true, hat, Nat.zero_add]
  rw [if_pos hr]
theorem concat_spec {h : Heap} {v1 v2 : AV} {l m : List Tm} (k1 : Sl v1 l) (k2 : Sl v2 m) (h1 : l ≠ []) (h2 : m ≠ []) (hn : l.length + m.length ≤ 100000) (ho : HeapOk h) :
    ∃ h', WC env 131 [.fs true 2 [v1, v2]] h (fun o => o = .ret ⟨.sl h.next 0 0 6 (l.length + m.length) none, h', .write⟩) ∧ HeapOk h' ∧ h.le h' ∧ h'.at_ h.next 0 = some (tcs (l ++ m)) := by
  have ll : l.length ≠ 0 := fun e => h1 (List.length_eq_zero_iff.1 e)
  have ml : m.length ≠ 0 := fun e => h2 (List.length_eq_zero_iff.1 e)
  have nl : ∀ h, aLenOp false h (.fs true 2 [v1, v2]) = some ⟨.int .i64 2, h, .none⟩ := fun h => rfl
  have i0 : aIdxAddr 1 (.fs true 2 [v1, v2]) (.int .i64 0) = some (.fp [v1, v2]) := rfl
  have i1 : aIdxAddr 1 (.fs true 2 [v1, v2]) (.int .i64 1) = some (.fp [v2]) := rfl
  have n1 := k1.len
  have n2 := k2.len
  have w1 : IntKind.wrap .i64 ((0 : Int) + l.length) = (l.length : Int) := wrap_nat (by omega) (by omega)
  have w2 : IntKind.wrap .i64 ((l.length : Int) + m.length) = ((l.length + m.length : Nat) : Int) := wrap_nat (by omega) (by omega)
  have z1 : ((l.length : Int) < 0) = False := eq_false (by omega)
  have z2 : (((l.length + m.length : Nat) : Int) < 0) = False := eq_false (by omega)
  have e1 : IntKind.wrap .i64 ((0 : Int) + 1) = 1 := by decide
  have e2 : IntKind.wrap .i64 ((1 : Int) + 1) = 2 := by decide
  have t0 : ((0 : Int) < 2) = True := eq_true (by decide)
  have t1 : ((1 : Int) < 2) = True := eq_true (by decide)
  have t2 : ((2 : Int) < 2) = False := eq_false (by decide)
  have wg := grow_spec (n := l.length + m.length) (by omega) (by omega)
  obtain ⟨c1, s1⟩ := (k1.src (h.new (zeros6 (l.length + m.length)))).cells
  have a1 := append_in (n := 0) (at_new (h := h) (zeros6 (l.length + m.length))) (k1.src h).len ll s1 (by rw [zeros6_len]; omega) (by omega)
  rw [Nat.zero_add, Nat.zero_mul] at a1
  have q1 : splice (zeros6 (l.length + m.length)) 0 (tcs l) = tcs l ++ (zeros6 (l.length + m.length)).drop (l.length * 6) := by
    simp only [splice, List.take_zero, List.nil_append, Nat.zero_add, tcs_length]
  rw [q1] at a1
  obtain ⟨c2, s2⟩ := (k2.src ((h.new (zeros6 (l.length + m.length))).upd h.next 0 (tcs l ++ (zeros6 (l.length + m.length)).drop (l.length * 6)))).cells
  have a2 := append_in (n := l.length) (at_upd (h := h.new (zeros6 (l.length + m.length))) (id := h.next) (gen := 0) (cs := tcs l ++ (zeros6 (l.length + m.length)).drop (l.length * 6))) (k2.src h).len ml s2 (by rw [List.length_append, List.length_drop, tcs_length, zeros6_len]; omega) (by omega)
  have q2 : splice (tcs l ++ (zeros6 (l.length + m.length)).drop (l.length * 6)) (l.length * 6) (tcs m) = tcs (l ++ m) := by
    have d : (tcs l ++ (zeros6 (l.length + m.length)).drop (l.length * 6)).drop (l.length * 6 + m.length * 6) = [] := List.drop_of_length_le (by rw [List.length_append, List.length_drop, tcs_length, zeros6_len]; omega)
    simp only [splice, tcs_length, d, List.append_nil]
    rw [List.take_append_of_le_length (by rw [tcs_length]; exact Nat.le_refl _), List.take_of_length_le (by rw [tcs_length]; exact Nat.le_refl _), tcs_append]
  rw [q2] at a2
  refine ⟨((h.new (zeros6 (l.length + m.length))).upd h.next 0 (tcs l ++ (zeros6 (l.length + m.length)).drop (l.length * 6))).upd h.next 0 (tcs (l ++ m)), ?_, ((ho.new _).upd (at_look.1 (at_new _)) _ _).upd (at_look.1 at_upd) _ _, ⟨by simp only [next_upd, next_new]; omega, fun id gen cs e => ?_⟩, at_upd⟩
  · refine call_body rfl rfl (.inl rfl) ?_
    simp only [a131, a131_0, a131_1, a131_2, Slots.ofList, wpc_draw, s3, reduceIte, Nat.reduceEqDiff, aBin, aInt, negIf, Option.some.injEq, exists_eq_left', Option.map_some, Option.bind_some, nl]
    refine wpr_round' fun q hq => ?_
    simp only [a131_l9, a131_3, a131_4, a131_5, a131_6, a131_8, wpc_draw, s3, reduceIte, Nat.reduceEqDiff, aBin, aInt, negIf, Option.some.injEq, exists_eq_left', Option.map_some, Option.bind_some, h3, List.length_cons, List.length_nil, List.drop_zero, List.drop_succ_cons, Nat.reduceAdd, Nat.le_refl, and_self, true_and, if_true, Bool.and_self, Nat.reduceLeDiff, _root_.eq_self, and_true, t0, t1, t2, i0, i1, n1, n2, w1, w2, z1, z2, e1, e2]
    subst hq
    refine wpr_round' fun q hq => ?_
    simp only [a131_l9, a131_3, a131_4, a131_5, a131_6, a131_8, wpc_draw, s3, reduceIte, Nat.reduceEqDiff, aBin, aInt, negIf, Option.some.injEq, exists_eq_left', Option.map_some, Option.bind_some, h3, List.length_cons, List.length_nil, List.drop_zero, List.drop_succ_cons, Nat.reduceAdd, Nat.le_refl, and_self, true_and, if_true, Bool.and_self, Nat.reduceLeDiff, _root_.eq_self, and_true, t0, t1, t2, i0, i1, n1, n2, w1, w2, z1, z2, e1, e2]
    subst hq
    refine wpr_round' fun q hq => ?_
    simp only [a131_l9, a131_3, a131_10, a131_11, wpc_draw, s3, reduceIte, Nat.reduceEqDiff, aBin, aInt, negIf, Option.some.injEq, exists_eq_left', Option.map_some, Option.bind_some, t2, wc_eq (wg _), nl]
    refine wpr_round' fun q hq => ?_
    simp only [a131_l16, a131_12, a131_13, a131_14, a131_15, wpc_draw, s3, reduceIte, Nat.reduceEqDiff, aBin, aInt, negIf, Option.some.injEq, exists_eq_left', Option.map_some, Option.bind_some, h3, List.length_cons, List.length_nil, List.drop_zero, List.drop_succ_cons, Nat.reduceAdd, Nat.le_refl, and_self, true_and, if_true, Bool.and_self, Nat.reduceLeDiff, _root_.eq_self, and_true, t0, t1, t2, i0, i1, e1, e2, a1]
    subst hq
    refine wpr_round' fun q hq => ?_
    simp only [a131_l16, a131_12, a131_13, a131_14, a131_15, wpc_draw, s3, reduceIte, Nat.reduceEqDiff, aBin, aInt, negIf, Option.some.injEq, exists_eq_left', Option.map_some, Option.bind_some, h3, List.length_cons, List.length_nil, List.drop_zero, List.drop_succ_cons, Nat.reduceAdd, Nat.le_refl, and_self, true_and, if_true, Bool.and_self, Nat.reduceLeDiff, _root_.eq_self, and_true, t0, t1, t2, i0, i1, e1, e2, a2]
    subst hq
    refine wpr_round' fun q hq => ?_
    simp only [a131_l16, a131_12, a131_17, wpc_draw, s3, reduceIte, Nat.reduceEqDiff, aBin, aInt, negIf, Option.some.injEq, exists_eq_left', Option.map_some, Option.bind_some, h3, List.length_cons, List.length_nil, List.drop_zero, List.drop_succ_cons, Nat.reduceAdd, Nat.le_refl, and_self, true_and, if_true, Bool.and_self, Nat.reduceLeDiff, _root_.eq_self, and_true, t2]
  · have hlt := ho.lt e
    rw [at_upd_ne (by omega), at_upd_ne (by omega)]
    exact (le_new ho _).2 _ _ _ e
end Go.Bf

set_option linter.unusedVariables false
set_option linter.unusedSimpArgs false
set_option maxRecDepth 20000
namespace Go.Bf
open Go.AM
theorem _root_.Go.AM.Heap.le_trans2 {a b c : Heap} (x : a.le b) (y : b.le c) : a.le c := ⟨Nat.le_trans x.1 y.1, fun id gen cs e => y.2 _ _ _ (x.2 _ _ _ e)⟩
def nilT : Tm := .mk 6 0 [] 0 none [] none []
theorem null_spec (h : Heap) : WC env 108 [] h (fun o => o = .ret ⟨.agg (tc nilT), h, .none⟩) := wc_run (n := 30) (by kernel_rfl)
theorem fillKV {v : AV} {k : Int} (hv : v.row = some [v]) : aFill [.int .i64 0, .int .i64 0, .str [], .int .u32 0, .nils, .nils] [(0, 1, .int .i64 k), (5, 1, v)] = some [.int .i64 k, .int .i64 0, .str [], .int .u32 0, .nils, v] := by
  show ((some [AV.int .i64 k]).bind fun vs => if vs.length = 1 ∧ 0 + 1 ≤ 6 then aFill (splice _ 0 vs) [(5, 1, v)] else none) = _
  simp only [Option.bind_some, List.length_singleton]
  rw [if_pos ⟨trivial, by decide⟩]
  show (v.row.bind fun vs => if vs.length = 1 ∧ 5 + 1 ≤ _ then aFill (splice _ 5 vs) [] else none) = _
  rw [hv]
  rfl
/-- a term of elements and a tail -/
def listT (l : List Tm) (tail : Tm) (f : Option Bool) : Tm := if l = [] then tail else .mk 7 0 [] 0 none [] f (l ++ if tail.kind = 7 then tail.args else [tail])
theorem list_body {h0 : Heap} {v : AV} {l : List Tm} {tail : Tm} (ho : HeapOk h0) (hk : ∀ h, h0.le h → Src h v l) (hn : l.length ≤ 100000) (hc : l = [] ∨ tail.kind ≠ 7) {Q : AExit → St → Prop}
    (hQ : ∀ σ' h' i4 cells, HeapOk h' → h0.le h' → h'.at_ i4 0 = some cells → σ'.get 4 = .ptr i4 0 0 → (l = [] → cells = tc tail) → (l ≠ [] → ∃ v', cells = [.int .i64 7, .int .i64 0, .str [], .int .u32 0, .nils, v'] ∧ Acc h' 6 v' (tcs (l ++ [tail])) ∧ aLen v' = some (l.length + 1) ∧ (∀ id, v'.own = some id → h0.next ≤ id ∧ id ≠ i4)) → Q .ret ⟨σ', h'⟩) :
    wpc env a103.body ⟨Slots.ofList 0 [v, .agg (tc tail)] .empty, h0⟩ Q := by
  obtain ⟨h1, eh1⟩ : ∃ h1, h1 = h0.new (tc tail) := ⟨_, rfl⟩
  have ho1 : HeapOk h1 := by rw [eh1]; exact ho.new _
  have b1 : h1.at_ h0.next 0 = some (tc tail) := by rw [eh1]; exact at_new _
  obtain ⟨h2, eh2⟩ : ∃ h2, h2 = h1.new [.int .i64 0, .int .i64 0, .str [], .int .u32 0, .nils, .nils] := ⟨_, rfl⟩
  have ho2 : HeapOk h2 := by rw [eh2]; exact ho1.new _
  have b2 : h2.at_ h0.next 0 = some (tc tail) := by rw [eh2]; exact (le_new ho1 _).2 _ _ _ b1
  have z2 : h2.at_ h1.next 0 = some zero6 := by rw [eh2]; exact at_new _
  have le2 : h0.le h2 := by rw [eh2, eh1]; exact Heap.le_trans2 (le_new ho _) (le_new (ho.new _) _)
  obtain ⟨i3, e3⟩ : ∃ i3, i3 = h0.next := ⟨_, rfl⟩
  obtain ⟨i4, e4⟩ : ∃ i4, i4 = h1.next := ⟨_, rfl⟩
  have ne34 : (i3 = i4) = False := eq_false (by rw [e3, e4, eh1]; simp only [next_new]; omega)
  rw [← e3] at b1 b2
  rw [← e4] at z2
  have nl := (hk h2 le2).lenOp
  by_cases h : l = []
  · have z0 : (((l.length : Nat) : Int) == 0) = true := by rw [h]; rfl
    simp only [a103, a103_0, a103_1, a103_2, Slots.ofList, s3, reduceIte, Nat.reduceEqDiff, aBin, aInt, negIf, Option.some.injEq, exists_eq_left', Option.map_some, Option.bind_some, row_agg, tc_length, if_true, ← eh1, ← eh2, ← e3, ← e4, nl, z0, aLoad_ptr, aStore_w, b2, z2, t3, List.drop_zero, Nat.le_refl, and_self]
    refine hQ _ _ i4 (tc tail) (ho2.upd (at_look.1 z2) _ _) ⟨le2.1, fun id gen cs e => ?_⟩ at_upd (by simp only [get_put, reduceIte, Nat.reduceEqDiff]) (fun _ => rfl) (fun hne => absurd h hne)
    have hlt := ho.lt e
    rw [at_upd_ne (by rw [e4, eh1]; simp only [next_new]; omega)]
    exact le2.2 _ _ _ e
  · have ll : l.length ≠ 0 := fun e => h (List.length_eq_zero_iff.1 e)
    have hk7 : tail.kind ≠ 7 := hc.resolve_left h
    have z0 : (((l.length : Nat) : Int) == 0) = false := by simp; omega
    have z7 : (tail.kind == 7) = false := by simpa using hk7
    obtain ⟨v1, h3, wc1, ho3, le3, k1, n1, ow1⟩ := clone_ts (hk h2 le2) (by omega) ho2
    have b3 := le3.2 _ _ _ b2
    have z3 := le3.2 _ _ _ z2
    have hi3 := ho2.lt b2
    have hi4 := ho2.lt z2
    obtain ⟨v2, h4, c4, w4, k4, lb4, ho4, ow4, n4⟩ := Acc.append (bt := 88) ho3 (by omega : 0 < 6) k1 n1 (show aLen (.fs true 1 (tc tail)) = some 1 from rfl) (one_t h3 tail) (by rw [tc_length]) (by omega) (by omega)
    have fresh : ∀ id, v2.own = some id → h2.next ≤ id := fun id e => by
      rcases ow4 id e with e2 | e2
      · exact ow1 _ e2
      · exact Nat.le_trans le3.1 e2
    have b4 : h4.at_ i3 0 = some (tc tail) := lb4.2 _ _ _ (fun e => by have := ow1 _ e; omega) b3
    have z4 : h4.at_ i4 0 = some zero6 := lb4.2 _ _ _ (fun e => by have := ow1 _ e; omega) z3
    have fl := fillKV (k := 7) k4.row
    have rt : (tcs l ++ tc tail) = tcs (l ++ [tail]) := by rw [tcs_append, tcs, tcs, List.append_nil]
    rw [rt] at k4
    simp only [a103, a103_0, a103_1, a103_3, Slots.ofList, s3, reduceIte, Nat.reduceEqDiff, aBin, aInt, negIf, Option.some.injEq, exists_eq_left', Option.map_some, Option.bind_some, row_agg, tc_length, if_true, ← eh1, ← eh2, ← e3, ← e4, nl, z0, aLoad_ptr, aFld_p, Nat.zero_add, b2, t3, List.drop_zero, z7]
    apply draw_to
    · simp only [a103_5, s3, reduceIte, Nat.reduceEqDiff, aBin, aInt, negIf, Option.some.injEq, exists_eq_left', Option.map_some, Option.bind_some, wpl_nil', wpl_none, wpl_some, gval_bool, logK_c, logQ_apply, guardL_tt, guardL_ff, guardL_tf, guardL_ft, drawQ_apply, endQ_apply, wc_eq wc1, aLoad_ptr, aStore_w, b3, z4, t3, List.drop_zero, Nat.mul_one, Nat.one_mul, if_true, w4, isC c4, fl, List.length_cons, List.length_nil, len_zero6, Nat.reduceAdd, Nat.le_refl, and_self]
      refine ⟨draw_of_cls3 [2] (by cases c4 <;> rfl) ⟨?_, trivial⟩, rfl⟩
      refine steady_load (.ptr i3 0 0) (.agg (tc tail)) ?_ ?_
      · simp only [opd_t, get_put, reduceIte, Nat.reduceEqDiff]
      · simp only [allLd_cons, allLd_nil, List.map_cons, List.map_nil, aLoad_ptr, at_upd_if, ne34, if_false, b2, b3, b4, Option.map_some, Option.bind_some, t3, List.drop_zero, and_self]
    simp only [s3, reduceIte, Nat.reduceEqDiff, aBin, aInt, negIf, Option.some.injEq, exists_eq_left', Option.map_some, Option.bind_some]
    refine hQ _ _ i4 _ (ho4.upd (at_look.1 z4) _ _) ⟨Nat.le_trans le2.1 (Nat.le_trans le3.1 lb4.1), fun id gen cs e => ?_⟩ at_upd (by simp only [get_put, reduceIte, Nat.reduceEqDiff]) (fun e => absurd e h) (fun _ => ⟨v2, rfl, ?_, n4, fun id e => ⟨?_, ?_⟩⟩)
    · have hlt := ho.lt e
      rw [at_upd_ne (by rw [e4, eh1]; simp only [next_new]; omega)]
      exact lb4.2 _ _ _ (fun e2 => by have := ow1 _ e2; have := le2.1; omega) (le3.2 _ _ _ (le2.2 _ _ _ e))
    · refine k4.chg (upd_chg (S := fun j => j = i4) rfl) fun id e => ?_
      have := fresh _ e; omega
    · have := fresh _ e; have := le2.1; omega
    · have := fresh _ e; omega
theorem list_spec {v : AV} {l : List Tm} (k : Sl v l) (tail : Tm) (hn : l.length ≤ 50000) (hm : tail.args.length ≤ 50000) (h7 : tail.kind = 7 → tail.args ≠ []) : ∃ f, ∀ h, WC env 103 [v, .agg (tc tail)] h (fun o => o = .ret ⟨.agg (tc (listT l tail f)), h, .none⟩) := by
  have hr : AV.noRefs [v, .agg (tc tail)] = true := by simp only [AV.noRefs, AV.noRef, k.noRef, noRef_tc, Bool.and_self]
  by_cases h0 : l = [] ∨ tail.kind ≠ 7
  · have key : ∃ f, ∀ h, WC env 103 [v, .agg (tc tail)] h (fun o => o = .ret ⟨.agg (tc (listT l tail f)), h, .none⟩) := by
      have base : ∃ f, WC env 103 [v, .agg (tc tail)] .empty (fun o => o = .ret ⟨.agg (tc (listT l tail f)), .empty, .none⟩) := by
        have out : ∃ o : COut, WC env 103 [v, .agg (tc tail)] .empty (fun o' => o' = o) ∧ ∃ f, o = .ret ⟨.agg (tc (listT l tail f)), .empty, .none⟩ := by
          have hw : WC env 103 [v, .agg (tc tail)] .empty (fun o => ∃ f, o = .ret ⟨.agg (tc (listT l tail f)), .empty, .none⟩) := by
            refine call_pure rfl rfl rfl hr (list_body HeapOk.empty (fun h _ => k.src h) (by omega) h0 fun σ' h' i4 cells ho' hle hat g4 c0 c1 => ?_)
            by_cases hl : l = []
            · have ec := c0 hl
              subst ec
              refine ⟨[AV.agg (tc tail)], AV.agg (tc tail), by simp only [a103, Env.results, Option.map_some, g4, aLoad_ptr, hat, Option.bind_some, List.drop_zero, t3], (frz_noRef (v := .agg (tc tail)) (noRef_tc _)).2 rfl, none, ?_⟩
              rw [listT, if_pos hl]
            · obtain ⟨v', rfl, ka, na, _⟩ := c1 hl
              obtain ⟨f, hf⟩ := frz_acc ka (noRef_tcs _) na
              have e7 : ¬ tail.kind = 7 := h0.resolve_left hl
              refine ⟨[AV.agg [.int .i64 7, .int .i64 0, .str [], .int .u32 0, .nils, v']], AV.agg (tc (listT l tail f)), by simp only [a103, Env.results, Option.map_some, g4, aLoad_ptr, hat, Option.bind_some, List.drop_zero, ldc6], ?_, f, rfl⟩
              rw [listT, if_neg hl, if_neg e7]
              refine frz_agg ⟨_, _, rfl, (frz_noRef (v := .int .i64 7) rfl).2 rfl, _, _, rfl, (frz_noRef (v := .int .i64 0) rfl).2 rfl, _, _, rfl, (frz_noRef (v := .str []) rfl).2 rfl, _, _, rfl, (frz_noRef (v := .int .u32 0) rfl).2 rfl, _, _, rfl, (frz_noRef (v := .nils) rfl).2 rfl, _, _, rfl, ?_, rfl⟩
              have := hf
              rwa [show l.length + 1 = (l ++ [tail]).length by simp] at this
          obtain ⟨o, hn, f, e⟩ := hw
          exact ⟨o, ⟨o, hn, rfl⟩, f, e⟩
        obtain ⟨o, w, f, rfl⟩ := out
        exact ⟨f, w⟩
      obtain ⟨f, w⟩ := base
      exact ⟨f, fun h => pure_any rfl rfl rfl hr w⟩
    exact key
  · have hl : l ≠ [] := fun e => h0 (.inl e)
    have e7 : tail.kind = 7 := Decidable.not_not.1 fun e => h0 (.inr e)
    refine ⟨some false, fun h => call_pure rfl rfl rfl hr ?_⟩
    have ll : l.length ≠ 0 := fun e => hl (List.length_eq_zero_iff.1 e)
    have z0 : (((l.length : Nat) : Int) == 0) = false := by simp; omega
    have z7 : (tail.kind == 7) = true := by simpa using e7
    obtain ⟨h1, eh1⟩ : ∃ h1, h1 = Heap.empty.new (tc tail) := ⟨_, rfl⟩
    have ho1 : HeapOk h1 := by rw [eh1]; exact HeapOk.empty.new _
    have b1 : h1.at_ Heap.empty.next 0 = some (tc tail) := by rw [eh1]; exact at_new _
    obtain ⟨h2, eh2⟩ : ∃ h2, h2 = h1.new [.int .i64 0, .int .i64 0, .str [], .int .u32 0, .nils, .nils] := ⟨_, rfl⟩
    have ho2 : HeapOk h2 := by rw [eh2]; exact ho1.new _
    have b2 : h2.at_ Heap.empty.next 0 = some (tc tail) := by rw [eh2]; exact (le_new ho1 _).2 _ _ _ b1
    have z2 : h2.at_ h1.next 0 = some zero6 := by rw [eh2]; exact at_new _
    have ka := arAV_sl tail
    obtain ⟨h3, wc3, ho3, le3, a3⟩ := concat_spec k ka hl (h7 e7) (by omega) ho2
    have z3 := le3.2 _ _ _ z2
    have hi4 := ho2.lt z2
    have fl := fillKV (v := .sl h2.next 0 0 6 (l.length + tail.args.length) none) (k := 7) rfl
    have f2 : aFill [.nils, .nils] [(0, 1, v), (1, 1, arAV tail)] = some [v, arAV tail] := by
      have r1 : v.row = some [v] := by cases k <;> rfl
      show (v.row.bind fun vs => if vs.length = 1 ∧ 0 + 1 ≤ 2 then aFill (splice [.nils, .nils] 0 vs) [(1, 1, arAV tail)] else none) = _
      rw [r1]
      show (((arAV tail).row).bind fun vs => if vs.length = 1 ∧ 1 + 1 ≤ 2 then aFill (splice [v, .nils] 1 vs) [] else none) = _
      rw [row_arAV]
      rfl
    have l2 : ([v, arAV tail] : List AV).length = 2 * 1 := rfl
    have nl := k.len
    simp only [a103, a103_0, a103_1, a103_3, a103_4, Slots.ofList, s3, reduceIte, Nat.reduceEqDiff, aBin, aInt, negIf, Option.some.injEq, exists_eq_left', Option.map_some, Option.bind_some, row_agg, tc_length, if_true, ← eh1, ← eh2, nl, z0, aLoad_ptr, aStore_w, aFld_p, Nat.zero_add, b2, t3, List.drop_zero, z7, f2, l2, wc_eq wc3, fl, z3, List.length_cons, List.length_nil, len_zero6, Nat.reduceAdd, Nat.le_refl, and_self]
    refine ⟨[.agg [.int .i64 7, .int .i64 0, .str [], .int .u32 0, .nils, .sl h2.next 0 0 6 (l.length + tail.args.length) none]], _, by simp only [Env.results, Option.map_some, get_put, reduceIte, Nat.reduceEqDiff, aLoad_ptr, at_upd_if, if_true, Option.bind_some, List.drop_zero, ldc6] <;> rfl, ?_, rfl⟩
    have a4 : (h3.upd h1.next 0 [.int .i64 7, .int .i64 0, .str [], .int .u32 0, .nils, .sl h2.next 0 0 6 (l.length + tail.args.length) none]).at_ h2.next 0 = some (tcs (l ++ tail.args)) := by
      rw [at_upd_ne (by omega)]; exact a3
    have kc : Acc (h3.upd h1.next 0 [.int .i64 7, .int .i64 0, .str [], .int .u32 0, .nils, .sl h2.next 0 0 6 (l.length + tail.args.length) none]) 6 (.sl h2.next 0 0 6 (l.length + tail.args.length) none) (tcs (l ++ tail.args)) := .sl _ _ _ _ a4 (by rw [tcs_length, List.length_append])
    have ht : (tcs (l ++ tail.args)).drop 0 = tcs (l ++ tail.args) := rfl
    rw [listT, if_neg hl, if_pos e7]
    refine frz_agg ⟨_, _, rfl, (frz_noRef (v := .int .i64 7) rfl).2 rfl, _, _, rfl, (frz_noRef (v := .int .i64 0) rfl).2 rfl, _, _, rfl, (frz_noRef (v := .str []) rfl).2 rfl, _, _, rfl, (frz_noRef (v := .int .u32 0) rfl).2 rfl, _, _, rfl, (frz_noRef (v := .nils) rfl).2 rfl, _, _, rfl, ?_, rfl⟩
    have htk : ((tcs (l ++ tail.args)).drop 0).take ((l.length + tail.args.length) * 6) = tcs (l ++ tail.args) := by
      rw [List.drop_zero]; exact List.take_of_length_le (by rw [tcs_length, List.length_append]; exact Nat.le_refl _)
    refine (frz_sl a4 (by rw [tcs_length, List.length_append]; omega) (by rw [htk]; exact noRef_tcs _)).2 ?_
    rw [htk, List.length_append]
    rfl
end Go.Bf
