/-
  The reference's first strange place is the program's.
-/
import Derived.Test.YtaielgjmhbjfhaaGreatDoorBfEnv
import Derived.Test.YtaielgjmhbjfhaaGreatDoorAmD
import Derived.KernelRfl
set_option linter.unusedVariables false
namespace Go.Bf
open Go.AM
structure Bif where
  name : List UInt8
  ar : Int
  gd : Bool
def Bif.cells (b : Bif) : List AV := [.str b.name, .int .i64 b.ar, .int .i64 1, .bool b.gd]
def bifCells (l : List Bif) : List AV := (l.map Bif.cells).flatten
def bifL : List Bif := [
  ⟨[43], 1, true⟩,
  ⟨[45], 1, true⟩,
  ⟨[110, 111, 116], 1, true⟩,
  ⟨[43], 2, true⟩,
  ⟨[45], 2, true⟩,
  ⟨[42], 2, true⟩,
  ⟨[100, 105, 118], 2, true⟩,
  ⟨[114, 101, 109], 2, true⟩,
  ⟨[97, 110, 100], 2, true⟩,
  ⟨[111, 114], 2, true⟩,
  ⟨[120, 111, 114], 2, true⟩,
  ⟨[43, 43], 2, false⟩,
  ⟨[45, 45], 2, false⟩,
  ⟨[61, 61], 2, true⟩,
  ⟨[47, 61], 2, true⟩,
  ⟨[61, 60], 2, true⟩,
  ⟨[60], 2, true⟩,
  ⟨[62, 61], 2, true⟩,
  ⟨[62], 2, true⟩,
  ⟨[61, 58, 61], 2, true⟩,
  ⟨[61, 47, 61], 2, true⟩,
  ⟨[97, 98, 115], 1, true⟩,
  ⟨[101, 108, 101, 109, 101, 110, 116], 2, true⟩,
  ⟨[116, 117, 112, 108, 101, 95, 115, 105, 122, 101], 1, true⟩,
  ⟨[108, 101, 110, 103, 116, 104], 1, true⟩,
  ⟨[104, 100], 1, true⟩,
  ⟨[116, 108], 1, true⟩,
  ⟨[105, 115, 95, 97, 116, 111, 109], 1, true⟩,
  ⟨[105, 115, 95, 98, 111, 111, 108, 101, 97, 110], 1, true⟩,
  ⟨[105, 115, 95, 105, 110, 116, 101, 103, 101, 114], 1, true⟩,
  ⟨[105, 115, 95, 108, 105, 115, 116], 1, true⟩,
  ⟨[105, 115, 95, 112, 105, 100], 1, true⟩,
  ⟨[105, 115, 95, 114, 101, 102, 101, 114, 101, 110, 99, 101], 1, true⟩,
  ⟨[105, 115, 95, 116, 117, 112, 108, 101], 1, true⟩,
  ⟨[110, 111, 100, 101], 1, true⟩,
  ⟨[115, 101, 116, 101, 108, 101, 109, 101, 110, 116], 3, false⟩,
  ⟨[109, 97, 120], 2, false⟩,
  ⟨[109, 105, 110], 2, false⟩,
  ⟨[108, 105, 115, 116, 95, 116, 111, 95, 116, 117, 112, 108, 101], 1, false⟩,
  ⟨[116, 117, 112, 108, 101, 95, 116, 111, 95, 108, 105, 115, 116], 1, false⟩,
  ⟨[105, 110, 116, 101, 103, 101, 114, 95, 116, 111, 95, 108, 105, 115, 116], 1, false⟩,
  ⟨[108, 105, 115, 116, 95, 116, 111, 95, 105, 110, 116, 101, 103, 101, 114], 1, false⟩,
  ⟨[97, 116, 111, 109, 95, 116, 111, 95, 108, 105, 115, 116], 1, false⟩,
  ⟨[108, 105, 115, 116, 95, 116, 111, 95, 97, 116, 111, 109], 1, false⟩]
theorem all_spec (h : Heap) : WC env 11 [] h (fun o => o = .ret ⟨.fs false 44 (bifCells bifL), h, .none⟩) := wc_run (n := 60) (by kernel_rfl)
theorem rall_spec (h : Heap) : WC env 12 [] h (fun o => o = .ret ⟨.fs false 44 (bifCells bifL), h, .none⟩) := wc_run (n := 60) (by kernel_rfl)
theorem alive_spec (h : Heap) : WC env 15 [] h (fun o => o = .ret ⟨.bool true, h, .none⟩) := wc_run (n := 80) (by kernel_rfl)
end Go.Bf

set_option linter.unusedVariables false
set_option linter.unusedSimpArgs false
set_option maxRecDepth 20000
namespace Go.Bf
open Go.AM
theorem bif_drop : ∀ (l : List Bif) (i : Nat), (hi : i < l.length) → (bifCells l).drop (i * 4) = l[i].cells ++ bifCells (l.drop (i + 1))
  | [], i, hi => by simp at hi
  | o :: l, 0, hi => rfl
  | o :: l, i + 1, hi => by
    have := bif_drop l i (by simpa using hi)
    have e : (i + 1) * 4 = i * 4 + 1 + 1 + 1 + 1 := by omega
    rw [e]
    simpa [bifCells, Bif.cells] using this
theorem bif_elem {l : List Bif} {i : Nat} {full : Bool} (hi : i < l.length) : ∃ rest, aIdxAddr 4 (.fs full l.length (bifCells l)) (.int .i64 i) = some (.fp (l[i].cells ++ rest)) := by
  have hidx : aIndex l.length (.int .i64 i) = some i := by
    have h0 : (0 : Int) ≤ i := Int.natCast_nonneg i
    have h2 : (i : Int) < l.length := by exact_mod_cast hi
    simp [aIndex, h0, h2]
  have hd := bif_drop l i hi
  refine ⟨bifCells (l.drop (i + 1)), ?_⟩
  rw [← hd]
  cases hc : bifCells l with
  | nil => rw [hc] at hd; simp [Bif.cells] at hd
  | cons a t => simp only [aIdxAddr, hidx, Option.map_some]
theorem bif_load (b : Bif) (rest : List AV) (h : Heap) : aLoad h true 4 (.fp (b.cells ++ rest)) = some ⟨.agg b.cells, h, .none⟩ := rfl
theorem bif_field0 (b : Bif) (rest : List AV) : aFieldAddr 0 (.fp (b.cells ++ rest)) = some (.fp (b.cells ++ rest)) := rfl
theorem bif_field1 (b : Bif) (rest : List AV) : aFieldAddr 1 (.fp (b.cells ++ rest)) = some (.fp ((.int .i64 b.ar) :: (.int .i64 1) :: (.bool b.gd) :: rest)) := rfl
theorem bif_ld0 (b : Bif) (rest : List AV) (h : Heap) : aLoad h false 1 (.fp (b.cells ++ rest)) = some ⟨.str b.name, h, .none⟩ := rfl
theorem fp_ld (a : AV) (rest : List AV) (h : Heap) : aLoad h false 1 (.fp (a :: rest)) = some ⟨a, h, .none⟩ := rfl
def zero4 : List AV := [.str [], .int .i64 0, .int .i64 0, .bool false]
def foundCells : Option Bif → List AV
  | some b => b.cells
  | none => zero4
def hits (name : List UInt8) (ar : Int) (b : Bif) : Bool := b.name == name && b.ar == ar
/-- an object of four cells, made and filled -/
theorem box4 {h : Heap} (ho : HeapOk h) (a b c d : AV) : ∃ h', aStore (h.new [.str [], .int .i64 0, .int .i64 0, .bool false]) 4 (.ptr h.next 0 0) (.agg [a, b, c, d]) = some ⟨.undef, h', .write⟩ ∧ HeapOk h' ∧ h.le h' ∧ h'.at_ h.next 0 = some [a, b, c, d] := by
  obtain ⟨z, ez⟩ : ∃ z, z = [AV.str [], .int .i64 0, .int .i64 0, .bool false] := ⟨_, rfl⟩
  rw [← ez]
  have hat : (h.new z).at_ h.next 0 = some z := at_new _
  refine ⟨(h.new z).upd h.next 0 [a, b, c, d], ?_, (ho.new _).upd (at_look.1 hat) _ _, ?_, at_upd⟩
  · simp only [aStore, hat, Option.bind_some, row_agg]
    rw [ez]; rfl
  · have c : Chg (fun i => i = h.next) h ((h.new z).upd h.next 0 [a, b, c, d]) := (le_new ho z).chg.trans (upd_chg rfl)
    exact ⟨c.1, fun id gen cs e => c.2 _ _ _ (fun x => by have := ho.lt e; omega) e⟩
section
variable {h : Heap} {i : Nat} {a b c d : AV} (hat : h.at_ i 0 = some [a, b, c, d])
include hat
theorem ld4 : aLoad h true 4 (.ptr i 0 0) = some ⟨.agg [a, b, c, d], h, .read⟩ := by simp only [aLoad, hat, Option.bind_some]; rfl
theorem ld40 : aLoad h false 1 (.ptr i 0 0) = some ⟨a, h, .read⟩ := by simp only [aLoad, hat, Option.bind_some]; rfl
theorem ld41 : aLoad h false 1 (.ptr i 0 1) = some ⟨b, h, .read⟩ := by simp only [aLoad, hat, Option.bind_some]; rfl
theorem st4 {a' b' c' d' : AV} : aStore h 4 (.ptr i 0 0) (.agg [a', b', c', d']) = some ⟨.undef, h.upd i 0 [a', b', c', d'], .write⟩ := by
  simp only [aStore, hat, Option.bind_some, row_agg]; rfl
end
theorem find_loop {name : List UInt8} {ar : Int} {i4 : Nat} {Q : AExit → St → Prop} : ∀ (f i : Nat) (h : Heap) (σ : Slots), bifL.length - i < f → i ≤ bifL.length → HeapOk h → h.at_ i4 0 = some zero4 →
      σ.get 0 = .str name → σ.get 1 = .int .i64 ar → σ.get 4 = .ptr i4 0 0 → σ.get 8 = .fs false 44 (bifCells bifL) → σ.get 9 = .int .i64 44 → σ.get 10 = .int .i64 i →
      (∀ b σ' h', (bifL.drop i).find? (hits name ar) = some b → h'.at_ i4 0 = some b.cells → σ'.get 4 = .ptr i4 0 0 → σ'.get 5 = .bool true → Q .ret ⟨σ', h'⟩) →
      (∀ σ' h', (bifL.drop i).find? (hits name ar) = none → h'.at_ i4 0 = some zero4 → σ'.get 4 = .ptr i4 0 0 → Q (.exit 0) ⟨σ', h'⟩) → WPr env a13_l7 ⟨σ, h⟩ Q := by
  intro f
  have hlen : bifL.length = 44 := rfl
  induction f with
  | zero => intro i h σ h1; omega
  | succ f ih =>
    intro i h σ hf hi ho a4 g0 g1 g4 g8 g9 g10 hQ hN
    refine wpr_round' fun b hb' => ?_
    by_cases c1 : i < bifL.length
    · have z0 : ((i : Int) < 44) = True := eq_true (by omega)
      have z1 : IntKind.wrap .i64 ((i : Int) + 1) = ((i + 1 : Nat) : Int) := wrap_nat (by omega) (by omega)
      obtain ⟨rest, e1⟩ := bif_elem (full := false) c1
      rw [hlen] at e1
      have e2 := bif_load bifL[i] rest h
      obtain ⟨h1, s1, ho1, l1, a7⟩ := box4 ho (.str bifL[i].name) (.int .i64 bifL[i].ar) (.int .i64 1) (.bool bifL[i].gd)
      have s1' : aStore (h.new [.str [], .int .i64 0, .int .i64 0, .bool false]) 4 (.ptr h.next 0 0) (.agg bifL[i].cells) = some ⟨.undef, h1, .write⟩ := s1
      have a4' := l1.2 _ _ _ a4
      have w0 := ld40 a7
      have w1 := ld41 a7
      have w4 := ld4 a7
      have w5 := st4 (a' := .str bifL[i].name) (b' := .int .i64 bifL[i].ar) (c' := .int .i64 1) (d' := .bool bifL[i].gd) a4'
      have hdrop : bifL.drop i = bifL[i] :: bifL.drop (i + 1) := List.drop_eq_getElem_cons c1
      by_cases c2 : hits name ar bifL[i] = true
      · have c2' := c2
        simp only [hits, Bool.and_eq_true] at c2'
        obtain ⟨y1, y2⟩ := c2'
        simp only [a13_l7, a13_2, a13_3, a13_4, a13_5, wpc_draw, s3, reduceIte, Nat.reduceEqDiff, aBin, aInt, negIf, Option.some.injEq, exists_eq_left', Option.map_some, Option.bind_some, g0, g1, g4, g8, g9, g10, z0, e1, e2, s1', aFieldAddr, Nat.zero_add, w0, w1, aStr, y1, y2, aPick, w4, w5]
        refine hQ bifL[i] _ _ ?_ ?_ ?_ ?_
        · rw [hdrop, List.find?_cons, c2]
        · exact at_upd
        · simp only [get_put, reduceIte, Nat.reduceEqDiff, g4]
        · simp only [get_put, reduceIte, Nat.reduceEqDiff]
      · have go : ∀ (σ2 : Slots), (∀ n, n < 11 → n ≠ 7 → σ2.get n = σ.get n) → wpc env (.ops a13_6) ⟨σ2, h1⟩ (roundQ env b Q) := by
          intro σ2 s2
          have p10 : σ2.get 10 = .int .i64 i := by rw [s2 10 (by omega) (by omega), g10]
          simp only [a13_6, wpc_draw, s3, reduceIte, Nat.reduceEqDiff, aBin, aInt, negIf, Option.some.injEq, exists_eq_left', Option.map_some, Option.bind_some, p10, z1]
          subst hb'
          have e3 : (bifL.drop i).find? (hits name ar) = (bifL.drop (i + 1)).find? (hits name ar) := by
            rw [hdrop, List.find?_cons]
            simp only [Bool.not_eq_true] at c2
            rw [c2]
          rw [e3] at hQ hN
          refine ih (i + 1) h1 _ (by omega) (by omega) ho1 a4' ?_ ?_ ?_ ?_ ?_ ?_ hQ hN
          · simp only [get_put, reduceIte, Nat.reduceEqDiff]; rw [s2 0 (by omega) (by omega), g0]
          · simp only [get_put, reduceIte, Nat.reduceEqDiff]; rw [s2 1 (by omega) (by omega), g1]
          · simp only [get_put, reduceIte, Nat.reduceEqDiff]; rw [s2 4 (by omega) (by omega), g4]
          · simp only [get_put, reduceIte, Nat.reduceEqDiff]; rw [s2 8 (by omega) (by omega), g8]
          · simp only [get_put, reduceIte, Nat.reduceEqDiff]; rw [s2 9 (by omega) (by omega), g9]
          · simp only [get_put, reduceIte, Nat.reduceEqDiff]
        have el : a13_l7 = (.seq (.ops a13_2) (.seq (.cond (.t 11) .skip (.exit 0)) (.seq (.block 1 (.seq (.ops a13_3) (.seq (.ops a13_4) (.cond (.t 23) (.seq (.ops a13_5) .ret) .skip)))) (.ops a13_6)))) := rfl
        rw [el]
        cases y1 : (bifL[i].name == name) with
        | false =>
          rw [wpc_seq]
          simp only [a13_2, a13_3, a13_4, wpc_draw, s3, reduceIte, Nat.reduceEqDiff, aBin, aInt, negIf, Option.some.injEq, exists_eq_left', Option.map_some, Option.bind_some, g0, g1, g4, g8, g9, g10, z0, e1, e2, s1', aFieldAddr, Nat.zero_add, w0, w1, aStr, y1, aPick]
          refine go _ fun n hn h7 => ?_
          simp only [get_put]
          repeat rw [if_neg (by omega)]
        | true =>
          have y2 : (bifL[i].ar == ar) = false := by
            cases y2 : (bifL[i].ar == ar) with
            | false => rfl
            | true => exact absurd (by rw [hits, y1, y2]; rfl) c2
          rw [wpc_seq]
          simp only [a13_2, a13_3, a13_4, wpc_draw, s3, reduceIte, Nat.reduceEqDiff, aBin, aInt, negIf, Option.some.injEq, exists_eq_left', Option.map_some, Option.bind_some, g0, g1, g4, g8, g9, g10, z0, e1, e2, s1', aFieldAddr, Nat.zero_add, w0, w1, aStr, y1, y2, aPick]
          refine go _ fun n hn h7 => ?_
          simp only [get_put]
          repeat rw [if_neg (by omega)]
    · have z0 : ((i : Int) < 44) = False := eq_false (by omega)
      have e3 : bifL.drop i = [] := List.drop_of_length_le (by omega)
      simp only [a13_l7, a13_2, wpc_draw, s3, reduceIte, Nat.reduceEqDiff, aBin, aInt, negIf, Option.some.injEq, exists_eq_left', Option.map_some, Option.bind_some, g9, g10, z0]
      refine hN _ h ?_ a4 ?_
      · rw [e3]; rfl
      · simp only [get_put, reduceIte, Nat.reduceEqDiff, g4]
def findV (name : List UInt8) (ar : Int) : AV := .tup [.agg (foundCells (bifL.find? (hits name ar))), .bool (bifL.find? (hits name ar)).isSome]
theorem find_spec (h : Heap) (name : List UInt8) (ar : Int) : WC env 13 [.str name, .int .i64 ar] h (fun o => o = .ret ⟨findV name ar, h, .none⟩) := by
  refine call_pure rfl rfl rfl rfl ?_
  obtain ⟨h1, eh1⟩ : ∃ h1, h1 = Heap.empty.new zero4 := ⟨_, rfl⟩
  have eh1' : Heap.empty.new [AV.str [], .int .i64 0, .int .i64 0, .bool false] = h1 := eh1.symm
  have ho1 : HeapOk h1 := by rw [eh1]; exact HeapOk.empty.new _
  have a1 : h1.at_ Heap.empty.next 0 = some zero4 := by rw [eh1]; exact at_new _
  simp only [a13, a13_0, a13_1, Slots.ofList, wpc_draw, s3, reduceIte, Nat.reduceEqDiff, aBin, aInt, negIf, Option.some.injEq, exists_eq_left', Option.map_some, Option.bind_some, eh1', wc_eq (all_spec _), aLenOp, aLen]
  refine find_loop (name := name) (ar := ar) (i4 := Heap.empty.next) 45 0 h1 _ (by decide) (by omega) ho1 a1 ?_ ?_ ?_ ?_ ?_ ?_ (fun b σ' h' hb hat g4 g5 => ?_) (fun σ' h' hb hat g4 => ?_)
  · simp only [get_put, reduceIte, Nat.reduceEqDiff] <;> rfl
  · simp only [get_put, reduceIte, Nat.reduceEqDiff] <;> rfl
  · simp only [get_put, reduceIte, Nat.reduceEqDiff] <;> rfl
  · simp only [get_put, reduceIte, Nat.reduceEqDiff] <;> rfl
  · simp only [get_put, reduceIte, Nat.reduceEqDiff] <;> rfl
  · simp only [get_put, reduceIte, Nat.reduceEqDiff] <;> rfl
  · have hb' : bifL.find? (hits name ar) = some b := hb
    have l := ld4 (a := .str b.name) (b := .int .i64 b.ar) (c := .int .i64 1) (d := .bool b.gd) hat
    refine ⟨[.agg b.cells, .bool true], findV name ar, ?_, ?_, rfl⟩
    · simp only [Env.results, Option.map_some, g4, g5, l, Option.bind_some]; rfl
    · rw [findV, hb']
      exact (frz_noRef (v := .tup [.agg b.cells, .bool true]) rfl).2 rfl
  · have hb' : bifL.find? (hits name ar) = none := hb
    have l := st4 (a' := .str []) (b' := .int .i64 0) (c' := .int .i64 0) (d' := .bool false) hat
    have y1 : aFill [.str [], .int .i64 0, .int .i64 0, .bool false] [] = some [.str [], .int .i64 0, .int .i64 0, .bool false] := rfl
    simp only [a13_8, wpc_draw, s3, reduceIte, Nat.reduceEqDiff, aBin, aInt, negIf, Option.some.injEq, exists_eq_left', Option.map_some, Option.bind_some, g4, y1, l]
    have l2 := ld4 (h := h'.upd Heap.empty.next 0 [.str [], .int .i64 0, .int .i64 0, .bool false]) at_upd
    refine ⟨[.agg zero4, .bool false], findV name ar, ?_, ?_, rfl⟩
    · simp only [Env.results, Option.map_some, get_put, reduceIte, Nat.reduceEqDiff, g4, l2, Option.bind_some]; rfl
    · rw [findV, hb']
      exact (frz_noRef (v := .tup [.agg zero4, .bool false]) rfl).2 rfl
theorem rfind_loop {name : List UInt8} {ar : Int} {i4 : Nat} {Q : AExit → St → Prop} : ∀ (f i : Nat) (h : Heap) (σ : Slots), bifL.length - i < f → i ≤ bifL.length → HeapOk h → h.at_ i4 0 = some zero4 →
      σ.get 0 = .str name → σ.get 1 = .int .i64 ar → σ.get 4 = .ptr i4 0 0 → σ.get 6 = .fs false 44 (bifCells bifL) → σ.get 7 = .int .i64 i →
      (∀ b σ' h', (bifL.drop i).find? (hits name ar) = some b → h'.at_ i4 0 = some b.cells → σ'.get 4 = .ptr i4 0 0 → σ'.get 5 = .bool true → Q .ret ⟨σ', h'⟩) →
      (∀ σ' h', (bifL.drop i).find? (hits name ar) = none → h'.at_ i4 0 = some zero4 → σ'.get 4 = .ptr i4 0 0 → Q (.exit 0) ⟨σ', h'⟩) → WPr env a14_l7 ⟨σ, h⟩ Q := by
  intro f
  have hlen : bifL.length = 44 := rfl
  induction f with
  | zero => intro i h σ h1; omega
  | succ f ih =>
    intro i h σ hf hi ho a4 g0 g1 g4 g6 g7 hQ hN
    refine wpr_round' fun b hb' => ?_
    have en : ∀ h, aLenOp false h (.fs false 44 (bifCells bifL)) = some ⟨.int .i64 44, h, .none⟩ := fun h => rfl
    by_cases c1 : i < bifL.length
    · have z0 : ((i : Int) < 44) = True := eq_true (by omega)
      have z1 : IntKind.wrap .i64 ((i : Int) + 1) = ((i + 1 : Nat) : Int) := wrap_nat (by omega) (by omega)
      obtain ⟨rest, e1⟩ := bif_elem (full := false) c1
      rw [hlen] at e1
      have e2 := bif_load bifL[i] rest h
      have e3 := bif_field0 bifL[i] rest
      have e4 := bif_field1 bifL[i] rest
      have e5 := bif_ld0 bifL[i] rest h
      have e6 := fp_ld (.int .i64 bifL[i].ar) ((.int .i64 1) :: (.bool bifL[i].gd) :: rest) h
      have w5 := st4 (a' := .str bifL[i].name) (b' := .int .i64 bifL[i].ar) (c' := .int .i64 1) (d' := .bool bifL[i].gd) a4
      have w5' : aStore h 4 (.ptr i4 0 0) (.agg bifL[i].cells) = some ⟨.undef, h.upd i4 0 bifL[i].cells, .write⟩ := w5
      have hdrop : bifL.drop i = bifL[i] :: bifL.drop (i + 1) := List.drop_eq_getElem_cons c1
      have el : a14_l7 = (.seq (.seq (.ops a14_3) (.cond (.t 12) .skip (.exit 0))) (.seq (.block 1 (.seq (.ops a14_4) (.cond (.t 30) (.seq (.ops a14_5) .ret) .skip))) (.ops a14_6))) := rfl
      by_cases c2 : hits name ar bifL[i] = true
      · have c2' := c2
        simp only [hits, Bool.and_eq_true] at c2'
        obtain ⟨y1, y2⟩ := c2'
        simp only [a14_l7, a14_3, a14_4, a14_5, wpc_draw, s3, reduceIte, Nat.reduceEqDiff, aBin, aInt, negIf, Option.some.injEq, exists_eq_left', Option.map_some, Option.bind_some, g0, g1, g4, g6, g7, en, z0, e1, e2, e3, e4, e5, e6, aStr, y1, y2, aPick, w5']
        refine hQ bifL[i] _ _ ?_ ?_ ?_ ?_
        · rw [hdrop, List.find?_cons, c2]
        · exact at_upd
        · simp only [get_put, reduceIte, Nat.reduceEqDiff, g4]
        · simp only [get_put, reduceIte, Nat.reduceEqDiff]
      · have go : ∀ (σ2 : Slots), (∀ n, n < 8 → σ2.get n = σ.get n) → wpc env (.ops a14_6) ⟨σ2, h⟩ (roundQ env b Q) := by
          intro σ2 s2
          have p7 : σ2.get 7 = .int .i64 i := by rw [s2 7 (by omega), g7]
          simp only [a14_6, wpc_draw, s3, reduceIte, Nat.reduceEqDiff, aBin, aInt, negIf, Option.some.injEq, exists_eq_left', Option.map_some, Option.bind_some, p7, z1]
          subst hb'
          have e3 : (bifL.drop i).find? (hits name ar) = (bifL.drop (i + 1)).find? (hits name ar) := by
            rw [hdrop, List.find?_cons]
            simp only [Bool.not_eq_true] at c2
            rw [c2]
          rw [e3] at hQ hN
          refine ih (i + 1) h _ (by omega) (by omega) ho a4 ?_ ?_ ?_ ?_ ?_ hQ hN
          · simp only [get_put, reduceIte, Nat.reduceEqDiff]; rw [s2 0 (by omega), g0]
          · simp only [get_put, reduceIte, Nat.reduceEqDiff]; rw [s2 1 (by omega), g1]
          · simp only [get_put, reduceIte, Nat.reduceEqDiff]; rw [s2 4 (by omega), g4]
          · simp only [get_put, reduceIte, Nat.reduceEqDiff]; rw [s2 6 (by omega), g6]
          · simp only [get_put, reduceIte, Nat.reduceEqDiff]
        rw [el]
        cases y1 : (bifL[i].name == name) with
        | false =>
          rw [wpc_seq]
          simp only [a14_3, a14_4, wpc_draw, s3, reduceIte, Nat.reduceEqDiff, aBin, aInt, negIf, Option.some.injEq, exists_eq_left', Option.map_some, Option.bind_some, g0, g1, g4, g6, g7, en, z0, e1, e2, e3, e4, e5, e6, aStr, y1, aPick]
          refine go _ fun n hn => ?_
          simp only [get_put]
          repeat rw [if_neg (by omega)]
        | true =>
          have y2 : (bifL[i].ar == ar) = false := by
            cases y2 : (bifL[i].ar == ar) with
            | false => rfl
            | true => exact absurd (by rw [hits, y1, y2]; rfl) c2
          rw [wpc_seq]
          simp only [a14_3, a14_4, wpc_draw, s3, reduceIte, Nat.reduceEqDiff, aBin, aInt, negIf, Option.some.injEq, exists_eq_left', Option.map_some, Option.bind_some, g0, g1, g4, g6, g7, en, z0, e1, e2, e3, e4, e5, e6, aStr, y1, y2, aPick]
          refine go _ fun n hn => ?_
          simp only [get_put]
          repeat rw [if_neg (by omega)]
    · have z0 : ((i : Int) < 44) = False := eq_false (by omega)
      have e3 : bifL.drop i = [] := List.drop_of_length_le (by omega)
      simp only [a14_l7, a14_3, wpc_draw, s3, reduceIte, Nat.reduceEqDiff, aBin, aInt, negIf, Option.some.injEq, exists_eq_left', Option.map_some, Option.bind_some, g6, g7, en, z0]
      refine hN _ h ?_ a4 ?_
      · rw [e3]; rfl
      · simp only [get_put, reduceIte, Nat.reduceEqDiff, g4]
theorem rfind_spec (h : Heap) (name : List UInt8) (ar : Int) : WC env 14 [.str name, .int .i64 ar] h (fun o => o = .ret ⟨findV name ar, h, .none⟩) := by
  refine call_pure rfl rfl rfl rfl ?_
  obtain ⟨h1, eh1⟩ : ∃ h1, h1 = Heap.empty.new zero4 := ⟨_, rfl⟩
  have eh1' : Heap.empty.new [AV.str [], .int .i64 0, .int .i64 0, .bool false] = h1 := eh1.symm
  have ho1 : HeapOk h1 := by rw [eh1]; exact HeapOk.empty.new _
  have a1 : h1.at_ Heap.empty.next 0 = some zero4 := by rw [eh1]; exact at_new _
  simp only [a14, a14_0, a14_1, a14_2, Slots.ofList, wpc_draw, s3, reduceIte, Nat.reduceEqDiff, aBin, aInt, negIf, Option.some.injEq, exists_eq_left', Option.map_some, Option.bind_some, eh1', wc_eq (rall_spec _)]
  refine rfind_loop (name := name) (ar := ar) (i4 := Heap.empty.next) 45 0 h1 _ (by decide) (by omega) ho1 a1 ?_ ?_ ?_ ?_ ?_ (fun b σ' h' hb hat g4 g5 => ?_) (fun σ' h' hb hat g4 => ?_)
  · simp only [get_put, reduceIte, Nat.reduceEqDiff] <;> rfl
  · simp only [get_put, reduceIte, Nat.reduceEqDiff] <;> rfl
  · simp only [get_put, reduceIte, Nat.reduceEqDiff] <;> rfl
  · simp only [get_put, reduceIte, Nat.reduceEqDiff] <;> rfl
  · simp only [get_put, reduceIte, Nat.reduceEqDiff] <;> rfl
  · have hb' : bifL.find? (hits name ar) = some b := hb
    have l := ld4 (a := .str b.name) (b := .int .i64 b.ar) (c := .int .i64 1) (d := .bool b.gd) hat
    refine ⟨[.agg b.cells, .bool true], findV name ar, ?_, ?_, rfl⟩
    · simp only [Env.results, Option.map_some, g4, g5, l, Option.bind_some]; rfl
    · rw [findV, hb']
      exact (frz_noRef (v := .tup [.agg b.cells, .bool true]) rfl).2 rfl
  · have hb' : bifL.find? (hits name ar) = none := hb
    have l := st4 (a' := .str []) (b' := .int .i64 0) (c' := .int .i64 0) (d' := .bool false) hat
    have y1 : aFill [.str [], .int .i64 0, .int .i64 0, .bool false] [] = some [.str [], .int .i64 0, .int .i64 0, .bool false] := rfl
    simp only [a14_8, wpc_draw, s3, reduceIte, Nat.reduceEqDiff, aBin, aInt, negIf, Option.some.injEq, exists_eq_left', Option.map_some, Option.bind_some, g4, y1, l]
    have l2 := ld4 (h := h'.upd Heap.empty.next 0 [.str [], .int .i64 0, .int .i64 0, .bool false]) at_upd
    refine ⟨[.agg zero4, .bool false], findV name ar, ?_, ?_, rfl⟩
    · simp only [Env.results, Option.map_some, get_put, reduceIte, Nat.reduceEqDiff, g4, l2, Option.bind_some]; rfl
    · rw [findV, hb']
      exact (frz_noRef (v := .tup [.agg zero4, .bool false]) rfl).2 rfl
end Go.Bf

set_option linter.unusedVariables false
set_option linter.unusedSimpArgs false
set_option maxRecDepth 20000
namespace Go.Bf
open Go.AM
/-- a number's cells -/
def ti (x : Int) : List AV := [.int .i64 1, .int .i64 x, .str [], .int .u32 0, .nils, .nils]
def zero6 : List AV := [.int .i64 0, .int .i64 0, .str [], .int .u32 0, .nils, .nils]
def Small (x : Int) : Prop := -576460752303423488 ≤ x ∧ x ≤ 576460752303423487
theorem rint_spec (x : Int) (h : Heap) : WC env 22 [.int .i64 x] h (fun o => o = .ret ⟨.agg (ti x), h, .none⟩) := wc_run (n := 30) (by kernel_rfl)
section
variable {h : Heap} {i : Nat} {a b c d e f : AV} (hat : h.at_ i 0 = some [a, b, c, d, e, f])
include hat
theorem ld6 : aLoad h true 6 (.ptr i 0 0) = some ⟨.agg [a, b, c, d, e, f], h, .read⟩ := by simp only [aLoad, hat, Option.bind_some]; rfl
theorem ld60 : aLoad h false 1 (.ptr i 0 0) = some ⟨a, h, .read⟩ := by simp only [aLoad, hat, Option.bind_some]; rfl
theorem ld61 : aLoad h false 1 (.ptr i 0 1) = some ⟨b, h, .read⟩ := by simp only [aLoad, hat, Option.bind_some]; rfl
theorem ld62 : aLoad h false 1 (.ptr i 0 2) = some ⟨c, h, .read⟩ := by simp only [aLoad, hat, Option.bind_some]; rfl
theorem ld63 : aLoad h false 1 (.ptr i 0 3) = some ⟨d, h, .read⟩ := by simp only [aLoad, hat, Option.bind_some]; rfl
theorem ld64 : aLoad h false 1 (.ptr i 0 4) = some ⟨e, h, .read⟩ := by simp only [aLoad, hat, Option.bind_some]; rfl
theorem ld65 : aLoad h false 1 (.ptr i 0 5) = some ⟨f, h, .read⟩ := by simp only [aLoad, hat, Option.bind_some]; rfl
theorem st6 {a' b' c' d' e' f' : AV} : aStore h 6 (.ptr i 0 0) (.agg [a', b', c', d', e', f']) = some ⟨.undef, h.upd i 0 [a', b', c', d', e', f'], .write⟩ := by
  simp only [aStore, hat, Option.bind_some, row_agg]; rfl
end
section
variable {h : Heap} {i : Nat} {a b : AV} (hat : h.at_ i 0 = some [a, b])
include hat
theorem ld20 : aLoad h false 1 (.ptr i 0 0) = some ⟨a, h, .read⟩ := by simp only [aLoad, hat, Option.bind_some]; rfl
theorem ld21 : aLoad h false 1 (.ptr i 0 1) = some ⟨b, h, .read⟩ := by simp only [aLoad, hat, Option.bind_some]; rfl
theorem st20 {k : IntKind} {n : Int} : aStore h 1 (.ptr i 0 0) (.int k n) = some ⟨.undef, h.upd i 0 [.int k n, b], .write⟩ := by
  simp only [aStore, hat, Option.bind_some]; rfl
theorem st21 {k : IntKind} {n : Int} : aStore h 1 (.ptr i 0 1) (.int k n) = some ⟨.undef, h.upd i 0 [a, .int k n], .write⟩ := by
  simp only [aStore, hat, Option.bind_some]; rfl
end
/-- an object of six cells, made and filled -/
theorem box6 {h : Heap} (ho : HeapOk h) (a b c d e f : AV) : ∃ h', aStore (h.new [.int .i64 0, .int .i64 0, .str [], .int .u32 0, .nils, .nils]) 6 (.ptr h.next 0 0) (.agg [a, b, c, d, e, f]) = some ⟨.undef, h', .write⟩ ∧ HeapOk h' ∧ h.le h' ∧ h'.at_ h.next 0 = some [a, b, c, d, e, f] := by
  obtain ⟨z, ez⟩ : ∃ z, z = [AV.int .i64 0, .int .i64 0, .str [], .int .u32 0, .nils, .nils] := ⟨_, rfl⟩
  rw [← ez]
  have hat : (h.new z).at_ h.next 0 = some z := at_new _
  refine ⟨(h.new z).upd h.next 0 [a, b, c, d, e, f], ?_, (ho.new _).upd (at_look.1 hat) _ _, ?_, at_upd⟩
  · simp only [aStore, hat, Option.bind_some, row_agg]
    rw [ez]; rfl
  · have c : Chg (fun i => i = h.next) h ((h.new z).upd h.next 0 [a, b, c, d, e, f]) := (le_new ho z).chg.trans (upd_chg rfl)
    exact ⟨c.1, fun id gen cs e => c.2 _ _ _ (fun x => by have := ho.lt e; omega) e⟩
end Go.Bf

set_option linter.unusedVariables false
set_option linter.unusedSimpArgs false
set_option maxRecDepth 20000
namespace Go.Bf
open Go.AM
def kindF (c : Int) : Int := if 97 ≤ c ∧ c ≤ 122 then 1 else if 65 ≤ c ∧ c ≤ 90 then 2 else if 48 ≤ c ∧ c ≤ 57 then 3 else if c = 95 ∨ c = 64 then 4 else 0
theorem kind_spec (c : Int) (h : Heap) : WC env 153 [.int .u8 c] h (fun o => o = .ret ⟨.int .i64 (kindF c), h, .none⟩) := by
  refine call_pure rfl rfl rfl rfl ?_
  have fin : ∀ {σ : Slots} {h' : Heap}, σ.get 2 = .int .i64 (kindF c) → pureQ env [.tmp 2] h (fun o => o = .ret ⟨.int .i64 (kindF c), h, .none⟩) .ret ⟨σ, h'⟩ := fun {σ h'} g => ⟨[.int .i64 (kindF c)], _, by simp only [Env.results, Option.map_some, g], (frz_noRef (v := .int .i64 (kindF c)) rfl).2 rfl, rfl⟩
  by_cases a1 : c ≥ 97
  · have z1 : (c ≥ 97) = True := eq_true a1
    by_cases a2 : c ≤ 122
    · have z2 : (c ≤ 122) = True := eq_true a2
      simp only [a153, a153_0, a153_1, a153_2, Slots.ofList, wpc_draw, s3, reduceIte, Nat.reduceEqDiff, aBin, aInt, negIf, Option.some.injEq, exists_eq_left', Option.map_some, Option.bind_some, z1, z2, aPick]
      refine fin ?_
      simp only [get_put, reduceIte, Nat.reduceEqDiff]
      rw [kindF, if_pos ⟨a1, a2⟩]
    · have z2 : (c ≤ 122) = False := eq_false a2
      have z3 : (c ≥ 65) = True := eq_true (by omega)
      have z4 : (c ≤ 90) = False := eq_false (by omega)
      have z5 : (c ≥ 48) = True := eq_true (by omega)
      have z6 : (c ≤ 57) = False := eq_false (by omega)
      have z7 : (c == 95) = false := by simp; omega
      have z8 : (c == 64) = false := by simp; omega
      simp only [a153, a153_0, a153_1, a153_3, a153_5, a153_7, a153_9, Slots.ofList, wpc_draw, s3, reduceIte, Nat.reduceEqDiff, aBin, aInt, negIf, Option.some.injEq, exists_eq_left', Option.map_some, Option.bind_some, z1, z2, z3, z4, z5, z6, z7, z8, aPick]
      refine fin ?_
      simp only [get_put, reduceIte, Nat.reduceEqDiff]
      rw [kindF, if_neg (by omega), if_neg (by omega), if_neg (by omega), if_neg (by omega)]
  have z1 : (c ≥ 97) = False := eq_false a1
  by_cases a3 : c ≥ 65
  · have z3 : (c ≥ 65) = True := eq_true a3
    by_cases a4 : c ≤ 90
    · have z4 : (c ≤ 90) = True := eq_true a4
      simp only [a153, a153_0, a153_1, a153_3, a153_4, Slots.ofList, wpc_draw, s3, reduceIte, Nat.reduceEqDiff, aBin, aInt, negIf, Option.some.injEq, exists_eq_left', Option.map_some, Option.bind_some, z1, z3, z4, aPick]
      refine fin ?_
      simp only [get_put, reduceIte, Nat.reduceEqDiff]
      rw [kindF, if_neg (by omega), if_pos ⟨a3, a4⟩]
    · have z4 : (c ≤ 90) = False := eq_false a4
      have z5 : (c ≥ 48) = True := eq_true (by omega)
      have z6 : (c ≤ 57) = False := eq_false (by omega)
      have z8 : (c == 64) = false := by simp; omega
      by_cases a7 : c = 95
      · have z7 : (c == 95) = true := by simp [a7]
        simp only [a153, a153_0, a153_1, a153_3, a153_5, a153_7, a153_8, Slots.ofList, wpc_draw, s3, reduceIte, Nat.reduceEqDiff, aBin, aInt, negIf, Option.some.injEq, exists_eq_left', Option.map_some, Option.bind_some, z1, z3, z4, z5, z6, z7, aPick]
        refine fin ?_
        simp only [get_put, reduceIte, Nat.reduceEqDiff]
        rw [kindF, if_neg (by omega), if_neg (by omega), if_neg (by omega), if_pos (.inl a7)]
      · have z7 : (c == 95) = false := by simpa using a7
        simp only [a153, a153_0, a153_1, a153_3, a153_5, a153_7, a153_9, Slots.ofList, wpc_draw, s3, reduceIte, Nat.reduceEqDiff, aBin, aInt, negIf, Option.some.injEq, exists_eq_left', Option.map_some, Option.bind_some, z1, z3, z4, z5, z6, z7, z8, aPick]
        refine fin ?_
        simp only [get_put, reduceIte, Nat.reduceEqDiff]
        rw [kindF, if_neg (by omega), if_neg (by omega), if_neg (by omega), if_neg (by omega)]
  have z3 : (c ≥ 65) = False := eq_false a3
  have z7 : (c == 95) = false := by simp; omega
  have tail4 : c = 64 ∨ c ≠ 64 := Classical.em _
  by_cases a5 : c ≥ 48
  · have z5 : (c ≥ 48) = True := eq_true a5
    by_cases a6 : c ≤ 57
    · have z6 : (c ≤ 57) = True := eq_true a6
      simp only [a153, a153_0, a153_1, a153_3, a153_5, a153_6, Slots.ofList, wpc_draw, s3, reduceIte, Nat.reduceEqDiff, aBin, aInt, negIf, Option.some.injEq, exists_eq_left', Option.map_some, Option.bind_some, z1, z3, z5, z6, aPick]
      refine fin ?_
      simp only [get_put, reduceIte, Nat.reduceEqDiff]
      rw [kindF, if_neg (by omega), if_neg (by omega), if_pos ⟨a5, a6⟩]
    · have z6 : (c ≤ 57) = False := eq_false a6
      by_cases a8 : c = 64
      · have z8 : (c == 64) = true := by simp [a8]
        simp only [a153, a153_0, a153_1, a153_3, a153_5, a153_7, a153_8, Slots.ofList, wpc_draw, s3, reduceIte, Nat.reduceEqDiff, aBin, aInt, negIf, Option.some.injEq, exists_eq_left', Option.map_some, Option.bind_some, z1, z3, z5, z6, z7, z8, aPick]
        refine fin ?_
        simp only [get_put, reduceIte, Nat.reduceEqDiff]
        rw [kindF, if_neg (by omega), if_neg (by omega), if_neg (by omega), if_pos (.inr a8)]
      · have z8 : (c == 64) = false := by simpa using a8
        simp only [a153, a153_0, a153_1, a153_3, a153_5, a153_7, a153_9, Slots.ofList, wpc_draw, s3, reduceIte, Nat.reduceEqDiff, aBin, aInt, negIf, Option.some.injEq, exists_eq_left', Option.map_some, Option.bind_some, z1, z3, z5, z6, z7, z8, aPick]
        refine fin ?_
        simp only [get_put, reduceIte, Nat.reduceEqDiff]
        rw [kindF, if_neg (by omega), if_neg (by omega), if_neg (by omega), if_neg (by omega)]
  · have z5 : (c ≥ 48) = False := eq_false a5
    have z8 : (c == 64) = false := by simp; omega
    simp only [a153, a153_0, a153_1, a153_3, a153_5, a153_7, a153_9, Slots.ofList, wpc_draw, s3, reduceIte, Nat.reduceEqDiff, aBin, aInt, negIf, Option.some.injEq, exists_eq_left', Option.map_some, Option.bind_some, z1, z3, z5, z7, z8, aPick]
    refine fin ?_
    simp only [get_put, reduceIte, Nat.reduceEqDiff]
    rw [kindF, if_neg (by omega), if_neg (by omega), if_neg (by omega), if_neg (by omega)]
end Go.Bf

set_option linter.unusedVariables false
set_option linter.unusedSimpArgs false
set_option maxRecDepth 20000
namespace Go.Bf
open Go.AM
theorem reserved_spec (s : List UInt8) : ∃ b, ∀ h, WC env 160 [.str s] h (fun o => o = .ret ⟨.bool b, h, .none⟩) := by
  by_cases e0 : s = [97, 102, 116, 101, 114]
  · subst e0; exact ⟨true, fun h => wc_run (n := 30) (by kernel_rfl)⟩
  by_cases e1 : s = [97, 110, 100]
  · subst e1; exact ⟨true, fun h => wc_run (n := 30) (by kernel_rfl)⟩
  by_cases e2 : s = [97, 110, 100, 97, 108, 115, 111]
  · subst e2; exact ⟨true, fun h => wc_run (n := 30) (by kernel_rfl)⟩
  by_cases e3 : s = [98, 101, 103, 105, 110]
  · subst e3; exact ⟨true, fun h => wc_run (n := 30) (by kernel_rfl)⟩
  by_cases e4 : s = [99, 97, 115, 101]
  · subst e4; exact ⟨true, fun h => wc_run (n := 30) (by kernel_rfl)⟩
  by_cases e5 : s = [99, 97, 116, 99, 104]
  · subst e5; exact ⟨true, fun h => wc_run (n := 30) (by kernel_rfl)⟩
  by_cases e6 : s = [100, 105, 118]
  · subst e6; exact ⟨true, fun h => wc_run (n := 30) (by kernel_rfl)⟩
  by_cases e7 : s = [101, 110, 100]
  · subst e7; exact ⟨true, fun h => wc_run (n := 30) (by kernel_rfl)⟩
  by_cases e8 : s = [102, 117, 110]
  · subst e8; exact ⟨true, fun h => wc_run (n := 30) (by kernel_rfl)⟩
  by_cases e9 : s = [105, 102]
  · subst e9; exact ⟨true, fun h => wc_run (n := 30) (by kernel_rfl)⟩
  by_cases e10 : s = [110, 111, 116]
  · subst e10; exact ⟨true, fun h => wc_run (n := 30) (by kernel_rfl)⟩
  by_cases e11 : s = [111, 102]
  · subst e11; exact ⟨true, fun h => wc_run (n := 30) (by kernel_rfl)⟩
  by_cases e12 : s = [111, 114]
  · subst e12; exact ⟨true, fun h => wc_run (n := 30) (by kernel_rfl)⟩
  by_cases e13 : s = [111, 114, 101, 108, 115, 101]
  · subst e13; exact ⟨true, fun h => wc_run (n := 30) (by kernel_rfl)⟩
  by_cases e14 : s = [114, 101, 99, 101, 105, 118, 101]
  · subst e14; exact ⟨true, fun h => wc_run (n := 30) (by kernel_rfl)⟩
  by_cases e15 : s = [114, 101, 109]
  · subst e15; exact ⟨true, fun h => wc_run (n := 30) (by kernel_rfl)⟩
  by_cases e16 : s = [116, 114, 121]
  · subst e16; exact ⟨true, fun h => wc_run (n := 30) (by kernel_rfl)⟩
  by_cases e17 : s = [119, 104, 101, 110]
  · subst e17; exact ⟨true, fun h => wc_run (n := 30) (by kernel_rfl)⟩
  by_cases e18 : s = [120, 111, 114]
  · subst e18; exact ⟨true, fun h => wc_run (n := 30) (by kernel_rfl)⟩
  refine ⟨false, fun h => call_pure rfl rfl rfl rfl ?_⟩
  have z0 : (s == [97, 102, 116, 101, 114]) = false := by simpa using e0
  have z1 : (s == [97, 110, 100]) = false := by simpa using e1
  have z2 : (s == [97, 110, 100, 97, 108, 115, 111]) = false := by simpa using e2
  have z3 : (s == [98, 101, 103, 105, 110]) = false := by simpa using e3
  have z4 : (s == [99, 97, 115, 101]) = false := by simpa using e4
  have z5 : (s == [99, 97, 116, 99, 104]) = false := by simpa using e5
  have z6 : (s == [100, 105, 118]) = false := by simpa using e6
  have z7 : (s == [101, 110, 100]) = false := by simpa using e7
  have z8 : (s == [102, 117, 110]) = false := by simpa using e8
  have z9 : (s == [105, 102]) = false := by simpa using e9
  have z10 : (s == [110, 111, 116]) = false := by simpa using e10
  have z11 : (s == [111, 102]) = false := by simpa using e11
  have z12 : (s == [111, 114]) = false := by simpa using e12
  have z13 : (s == [111, 114, 101, 108, 115, 101]) = false := by simpa using e13
  have z14 : (s == [114, 101, 99, 101, 105, 118, 101]) = false := by simpa using e14
  have z15 : (s == [114, 101, 109]) = false := by simpa using e15
  have z16 : (s == [116, 114, 121]) = false := by simpa using e16
  have z17 : (s == [119, 104, 101, 110]) = false := by simpa using e17
  have z18 : (s == [120, 111, 114]) = false := by simpa using e18
  simp only [a160, a160_0, a160_1, a160_2, a160_3, a160_4, a160_5, a160_6, a160_7, a160_8, a160_9, a160_10, a160_11, a160_12, a160_13, a160_14, a160_15, a160_16, a160_17, a160_18, a160_19, a160_20, a160_22, Slots.ofList, wpc_draw, s3, reduceIte, Nat.reduceEqDiff, aBin, aInt, negIf, Option.some.injEq, exists_eq_left', Option.map_some, Option.bind_some, aStr, z0, z1, z2, z3, z4, z5, z6, z7, z8, z9, z10, z11, z12, z13, z14, z15, z16, z17, z18]
  exact ⟨[.bool false], _, by simp only [Env.results, Option.map_some, get_put, reduceIte, Nat.reduceEqDiff], (frz_noRef (v := .bool false) rfl).2 rfl, rfl⟩
def idxS (v b : AV) : Option AV := match v with
  | .str s => (aIndex s.length b).bind fun j => (s[j]?).map byteAV
  | _ => none
theorem op_idxStr {σ : Slots} {h : Heap} {x i : Opd} : env.op σ h (.idxStr x i) = (env.opd σ x).bind fun v => (env.opd σ i).bind fun b => (idxS v b).map fun u => ⟨u, h, .none⟩ := by
  show ((env.opd σ x).bind fun
    | .str s => (env.opd σ i).bind fun b => (aIndex s.length b).bind fun j => (s[j]?).map fun c => (⟨byteAV c, h, .none⟩ : OpRes)
    | _ => none) = _
  cases hx : env.opd σ x with
  | none => rfl
  | some v =>
    cases hi : env.opd σ i with
    | none => cases v <;> rfl
    | some b =>
      cases v <;> try rfl
      rename_i s
      simp only [Option.bind_some, idxS]
      cases aIndex s.length b with
      | none => rfl
      | some j =>
        simp only [Option.bind_some]
        cases s[j]? <;> rfl
theorem idxS_at {s : List UInt8} {i : Nat} (hi : i < s.length) : idxS (.str s) (.int .i64 i) = some (.int .u8 s[i].toNat) := by
  have hidx : aIndex s.length (.int .i64 i) = some i := by
    have h0 : (0 : Int) ≤ i := Int.natCast_nonneg i
    have h2 : (i : Int) < s.length := by exact_mod_cast hi
    simp [aIndex, h0, h2]
  simp only [idxS, hidx, Option.bind_some, List.getElem?_eq_getElem hi, Option.map_some, byteAV]
theorem word_spec {s : List UInt8} (hs : s.length < 1000000) : ∀ (f i : Nat), s.length - i < f → i ≤ s.length → ∃ n : Int, ∀ h, WC env 159 [.str s, .int .i64 i] h (fun o => o = .ret ⟨.int .i64 n, h, .none⟩) := by
  have key : ∀ (f i : Nat), s.length - i < f → i ≤ s.length → ∃ n : Int, ∀ (h : Heap) (σ : Slots) (Q : AExit → St → Prop), σ.get 0 = .str s → σ.get 1 = .int .i64 i → (∀ σ', σ'.get 1 = .int .i64 n → Q (.exit 0) ⟨σ', h⟩) → WPr env a159_l3 ⟨σ, h⟩ Q := by
    intro f
    induction f with
    | zero => intro i h; omega
    | succ f ih =>
      intro i hf hi
      have en : ∀ h, aLenOp true h (.str s) = some ⟨.int .i64 s.length, h, .none⟩ := fun h => rfl
      by_cases c : i < s.length
      · have z0 : ((i : Int) < (s.length : Int)) = True := eq_true (by omega)
        have ix := idxS_at c
        by_cases k : kindF (s[i].toNat : Int) = 0
        · have z1 : (kindF (s[i].toNat : Int) != 0) = false := by simp [k]
          refine ⟨i, fun h σ Q g0 g1 hQ => wpr_round' fun b hb => ?_⟩
          simp only [a159_l3, a159_1, wpc_draw, s3, reduceIte, Nat.reduceEqDiff, aBin, aInt, negIf, Option.some.injEq, exists_eq_left', Option.map_some, Option.bind_some, wp1_idxStr, op_idxStr, g0, g1, en, z0, ix, wc_eq (kind_spec _ _), z1, aPick]
          refine hQ _ ?_
          simp only [get_put, reduceIte, Nat.reduceEqDiff, g1]
        · have z1 : (kindF (s[i].toNat : Int) != 0) = true := by simpa using k
          · have z2 : IntKind.wrap .i64 ((i : Int) + 1) = ((i + 1 : Nat) : Int) := wrap_nat (by omega) (by omega)
            obtain ⟨n, hn⟩ := ih (i + 1) (by omega) (by omega)
            refine ⟨n, fun h σ Q g0 g1 hQ => wpr_round' fun b hb => ?_⟩
            simp only [a159_l3, a159_1, a159_2, wpc_draw, s3, reduceIte, Nat.reduceEqDiff, aBin, aInt, negIf, Option.some.injEq, exists_eq_left', Option.map_some, Option.bind_some, wp1_idxStr, op_idxStr, g0, g1, en, z0, ix, wc_eq (kind_spec _ _), z1, aPick, z2]
            subst hb
            refine hn h _ Q ?_ ?_ hQ
            · simp only [get_put, reduceIte, Nat.reduceEqDiff, g0]
            · simp only [get_put, reduceIte, Nat.reduceEqDiff]
      · have z0 : ((i : Int) < (s.length : Int)) = False := eq_false (by omega)
        refine ⟨i, fun h σ Q g0 g1 hQ => wpr_round' fun b hb => ?_⟩
        simp only [a159_l3, a159_1, wpc_draw, s3, reduceIte, Nat.reduceEqDiff, aBin, aInt, negIf, Option.some.injEq, exists_eq_left', Option.map_some, Option.bind_some, wp1_idxStr, g0, g1, en, z0, aPick]
        refine hQ _ ?_
        simp only [get_put, reduceIte, Nat.reduceEqDiff, g1]
  intro f i hf hi
  obtain ⟨n, hn⟩ := key f i hf hi
  refine ⟨n, fun h => call_pure rfl rfl rfl rfl ?_⟩
  simp only [a159, a159_0, Slots.ofList, wpc_draw, s3, reduceIte, Nat.reduceEqDiff, aBin, aInt, negIf, Option.some.injEq, exists_eq_left', Option.map_some, Option.bind_some]
  refine hn _ _ _ ?_ ?_ fun σ' g1 => ?_
  · simp only [get_put, reduceIte, Nat.reduceEqDiff] <;> rfl
  · simp only [get_put, reduceIte, Nat.reduceEqDiff] <;> rfl
  simp only [a159_4, wpc_draw, s3, reduceIte, Nat.reduceEqDiff, aBin, aInt, negIf, Option.some.injEq, exists_eq_left', Option.map_some, Option.bind_some, g1]
  exact ⟨[.int .i64 n], _, by simp only [Env.results, Option.map_some, get_put, reduceIte, Nat.reduceEqDiff], (frz_noRef (v := .int .i64 n) rfl).2 rfl, rfl⟩
end Go.Bf

set_option linter.unusedVariables false
set_option linter.unusedSimpArgs false
set_option maxRecDepth 20000
namespace Go.Bf
open Go.AM
theorem plain_spec {s : List UInt8} (hs : s.length < 1000000) : ∃ b, ∀ h, WC env 150 [.str s] h (fun o => o = .ret ⟨.bool b, h, .none⟩) := by
  cases s with
  | nil => exact ⟨false, fun h => wc_run (n := 30) (by kernel_rfl)⟩
  | cons c r =>
    have z0 : (!((c :: r) == ([] : List UInt8))) = true := rfl
    have ix : idxS (.str (c :: r)) (.int .i64 0) = some (.int .u8 c.toNat) := idxS_at (s := c :: r) (i := 0) (by simp)
    obtain ⟨n, hn⟩ := word_spec hs ((c :: r).length + 1) 0 (by omega) (by omega)
    obtain ⟨b, hb⟩ := reserved_spec (c :: r)
    have hn' : ∀ h, WC env 159 [.str (c :: r), .int .i64 0] h (fun o => o = .ret ⟨.int .i64 n, h, .none⟩) := hn
    have en : ∀ h, aLenOp true h (.str (c :: r)) = some ⟨.int .i64 (c :: r).length, h, .none⟩ := fun h => rfl
    cases z1 : (kindF (c.toNat : Int) == 1) with
    | false =>
      refine ⟨false, fun h => call_pure rfl rfl rfl rfl ?_⟩
      simp only [a150, a150_0, a150_1, Slots.ofList, wpc_draw, s3, reduceIte, Nat.reduceEqDiff, aBin, aInt, negIf, Option.some.injEq, exists_eq_left', Option.map_some, Option.bind_some, wp1_idxStr, op_idxStr, aStr, z0, ix, wc_eq (kind_spec _ _), z1, aPick]
      exact ⟨[.bool false], _, by simp only [Env.results, Option.map_some, get_put, reduceIte, Nat.reduceEqDiff], (frz_noRef (v := .bool false) rfl).2 rfl, rfl⟩
    | true =>
      cases z2 : (n == ((c :: r).length : Int)) with
      | false =>
        refine ⟨false, fun h => call_pure rfl rfl rfl rfl ?_⟩
        simp only [a150, a150_0, a150_1, Slots.ofList, wpc_draw, s3, reduceIte, Nat.reduceEqDiff, aBin, aInt, negIf, Option.some.injEq, exists_eq_left', Option.map_some, Option.bind_some, wp1_idxStr, op_idxStr, aStr, z0, ix, wc_eq (kind_spec _ _), z1, aPick, wc_eq (hn' _), en, z2]
        exact ⟨[.bool false], _, by simp only [Env.results, Option.map_some, get_put, reduceIte, Nat.reduceEqDiff], (frz_noRef (v := .bool false) rfl).2 rfl, rfl⟩
      | true =>
        refine ⟨!b, fun h => call_pure rfl rfl rfl rfl ?_⟩
        simp only [a150, a150_0, a150_1, Slots.ofList, wpc_draw, s3, reduceIte, Nat.reduceEqDiff, aBin, aInt, negIf, Option.some.injEq, exists_eq_left', Option.map_some, Option.bind_some, wp1_idxStr, op_idxStr, aStr, z0, ix, wc_eq (kind_spec _ _), z1, aPick, wc_eq (hn' _), en, z2, wc_eq (hb _), aUn]
        exact ⟨[.bool (!b)], _, by simp only [Env.results, Option.map_some, get_put, reduceIte, Nat.reduceEqDiff], (frz_noRef (v := .bool (!b)) rfl).2 rfl, rfl⟩
/-- a fault of the layer below -/
def errA (p c : Int) : AV := .ifc 69 (.fp [.str [97, 116, 111, 109], .int .i64 p, .int .i64 c, .nili])
theorem atomRefused_spec (p c : Int) (h : Heap) : WC env 148 [.int .i64 p, .int .i64 c] h (fun o => o = .ret ⟨errA p c, h, .none⟩) := wc_run (n := 30) (by kernel_rfl)
theorem acc_len {h : Heap} {v : AV} {bs : List UInt8} (k : Acc h 1 v (bs.map byteAV)) : aLen v = some bs.length := by
  obtain ⟨n, h1, h2⟩ := k.len
  rw [h1]
  simp at h2
  rw [h2]
theorem grow {h : Heap} (ho : HeapOk h) {v x w : AV} {bs nb s : List UInt8} {c0 : Cls} (k : Acc h 1 v (bs.map byteAV)) (hx : aLen x = some nb.length) (hc : sliceCells h 1 nb.length x = some (nb.map byteAV, c0)) (hw : Bytes h w s) (hne : ∀ id, v.own = some id → w.own ≠ some id) (hb : bs.length + nb.length ≤ 1000000) :
    ∃ v2 h2 c2, aAppend h 1 1 v x = some ⟨v2, h2, c2⟩ ∧ HeapOk h2 ∧ Acc h2 1 v2 ((bs ++ nb).map byteAV) ∧ Bytes h2 w s ∧ (∀ id, v2.own = some id → w.own ≠ some id) := by
  obtain ⟨v2, h2, c2, g1, g2, g3, g4, g5, g6⟩ := k.append ho (bt := 1) (by omega) (acc_len k) hx hc (by simp) (by omega) (by omega)
  rw [← List.map_append] at g2
  refine ⟨v2, h2, c2, g1, g4, g2, hw.leBut g3 fun id e x => hne id x e, fun id e e2 => ?_⟩
  rcases g5 id e with e | e
  · exact hne id e e2
  · have := hw.ownLt ho e2; omega
def hexS : List UInt8 := [48, 49, 50, 51, 52, 53, 54, 55, 56, 57, 97, 98, 99, 100, 101, 102]
def hexAt (i : Nat) : UInt8 := hexS.getD i 0
def shrOk (c : Nat) : Bool := match aBin .shr (.int .u8 c) (.int .u64 4) with
  | some (.int .u8 j) => j == (c / 16 : Nat)
  | _ => false
def andOk (c : Nat) : Bool := match aBin .and (.int .u8 c) (.int .u8 15) with
  | some (.int .u8 j) => j == (c % 16 : Nat)
  | _ => false
theorem shr_all : (List.range 256).all shrOk = true := by kernel_rfl
theorem and_all : (List.range 256).all andOk = true := by kernel_rfl
theorem shr_at {c : Nat} (h : c < 256) : aBin .shr (.int .u8 c) (.int .u64 4) = some (.int .u8 ((c / 16 : Nat) : Int)) := by
  have := List.all_eq_true.1 shr_all c (List.mem_range.2 h)
  unfold shrOk at this
  split at this
  · rename_i j e; rw [e]; have : j = ((c / 16 : Nat) : Int) := by simpa using this
    rw [this]
  · cases this
theorem and_at {c : Nat} (h : c < 256) : aBin .and (.int .u8 c) (.int .u8 15) = some (.int .u8 ((c % 16 : Nat) : Int)) := by
  have := List.all_eq_true.1 and_all c (List.mem_range.2 h)
  unfold andOk at this
  split at this
  · rename_i j e; rw [e]; have : j = ((c % 16 : Nat) : Int) := by simpa using this
    rw [this]
  · cases this
theorem hex_idx {i : Nat} (hi : i < 16) : idxS (.str [48, 49, 50, 51, 52, 53, 54, 55, 56, 57, 97, 98, 99, 100, 101, 102]) (.int .u8 ((i : Nat) : Int)) = some (.int .u8 (hexAt i).toNat) := by
  have hidx : aIndex 16 (.int .u8 ((i : Nat) : Int)) = some i := by
    have h0 : (0 : Int) ≤ i := Int.natCast_nonneg i
    have h2 : (i : Int) < 16 := by exact_mod_cast hi
    simp [aIndex, h0, h2]
  have e : idxS (.str hexS) (.int .u8 ((i : Nat) : Int)) = (aIndex 16 (.int .u8 ((i : Nat) : Int))).bind fun j => (hexS[j]?).map byteAV := rfl
  show idxS (.str hexS) _ = _
  rw [e, hidx, Option.bind_some]
  have hl : hexS.length = 16 := rfl
  have : hexS[i]? = some (hexAt i) := by
    rw [hexAt, List.getD_eq_getElem?_getD, List.getElem?_eq_getElem (by omega)]
    rfl
  rw [this]; rfl
section
variable {s : List UInt8} {w : AV} {Q : AExit → St → Prop}
theorem quote_round {h : Heap} {σ : Slots} {v : AV} {bs : List UInt8} {i : Nat} (hi : i < s.length) (hs : s.length ≤ 255) (ho : HeapOk h) (k : Acc h 1 v (bs.map byteAV)) (hl : bs.length ≤ 1 + 4 * i) (hw : Bytes h w s) (hne : ∀ id, v.own = some id → w.own ≠ some id)
    (g5 : σ.get 5 = v) (g23 : σ.get 23 = w) (g24 : σ.get 24 = .int .i64 s.length) (g25 : σ.get 25 = .int .i64 i)
    (hQ : ∀ (σ' : Slots) (h' : Heap) (v' : AV) (bs' : List UInt8), HeapOk h' → Acc h' 1 v' (bs'.map byteAV) → bs'.length ≤ 1 + 4 * (i + 1) → Bytes h' w s → (∀ id, v'.own = some id → w.own ≠ some id) → σ'.get 5 = v' → σ'.get 23 = w → σ'.get 24 = .int .i64 s.length → σ'.get 25 = .int .i64 ((i + 1 : Nat) : Int) → Q .norm ⟨σ', h'⟩) : wpc env a140_l26 ⟨σ, h⟩ Q := by
  have z0 : ((i : Int) < (s.length : Int)) = True := eq_true (by omega)
  have zi : IntKind.wrap .i64 ((i : Int) + 1) = ((i + 1 : Nat) : Int) := wrap_nat (by omega) (by omega)
  obtain ⟨p, kc, e1, e2, hkc⟩ := hw.elem (kd := .i64) hi
  obtain ⟨cb, hcb⟩ : ∃ cb : UInt8, cb = s.getD i 0 := ⟨_, rfl⟩
  obtain ⟨c, hc⟩ : ∃ c, c = cb.toNat := ⟨_, rfl⟩
  have hc8 : c < 256 := by rw [hc]; exact cb.toNat_lt
  have e2' : aLoad h false 1 p = some ⟨.int .u8 c, h, kc⟩ := by rw [hc, hcb]; exact e2
  have el : a140_l26 = (.seq (.ops a140_10) (.seq (.cond (.t 26) .skip (.exit 0)) (.seq (.block 1 (.seq (.ops a140_11) (.seq (.ops a140_12) (.block 2 (.seq (.seq (.ops a140_13) (.cond (.t 49) .skip (.ops a140_14))) (.cond (.t 49) (.ops a140_15) (.seq (.ops a140_16) (.cond (.t 56) (.ops a140_17) (.seq (.ops a140_18) (.cond (.t 60) (.ops a140_19) (.seq (.ops a140_20) (.cond (.t 64) (.ops a140_21) (.seq (.ops a140_22) (.cond (.t 35) (.draw a140_23 a140_23b) (.ops a140_24))))))))))))))) (.ops a140_25)))) := rfl
  have fin : ∀ (σ2 : Slots) (h2 : Heap) (v2 : AV) (nb : List UInt8), nb.length ≤ 4 → HeapOk h2 → Acc h2 1 v2 ((bs ++ nb).map byteAV) → Bytes h2 w s → (∀ id, v2.own = some id → w.own ≠ some id) → σ2.get 5 = v2 → (∀ n, n = 23 ∨ n = 24 ∨ n = 25 → σ2.get n = σ.get n) → wpo env a140_25 ⟨σ2, h2⟩ Q := by
    intro σ2 h2 v2 nb hnb ho2 k2 hw2 hne2 p5 pk
    have p25 : σ2.get 25 = .int .i64 i := by rw [pk 25 (by omega), g25]
    simp only [a140_25, wpc_draw, s3, reduceIte, Nat.reduceEqDiff, aBin, aInt, negIf, Option.some.injEq, exists_eq_left', Option.map_some, Option.bind_some, p25, zi]
    refine hQ _ h2 v2 (bs ++ nb) ho2 k2 (by simp; omega) hw2 hne2 ?_ ?_ ?_ ?_
    · simp only [get_put, reduceIte, Nat.reduceEqDiff, p5]
    · simp only [get_put, reduceIte, Nat.reduceEqDiff]; rw [pk 23 (by omega), g23]
    · simp only [get_put, reduceIte, Nat.reduceEqDiff]; rw [pk 24 (by omega), g24]
    · simp only [get_put, reduceIte, Nat.reduceEqDiff]
  have gr := fun (x : AV) (nb : List UInt8) (h1 : aLen x = some nb.length) (h2 : sliceCells h 1 nb.length x = some (nb.map byteAV, .none)) (h3 : nb.length ≤ 4) => grow ho k h1 h2 hw hne (by omega)
  by_cases q39 : c = 39
  · have z39 : ((c : Int) == 39) = true := by simp [q39]
    obtain ⟨v2, h2, c2, w1, ho2, k2, hw2, hne2⟩ := gr (.fs true 2 [.int .u8 92, .int .u8 (c : Int)]) [92, cb] rfl (by rw [hc]; rfl) (by simp)
    have y1 : aFill [.int .u8 0, .int .u8 0] [(0, 1, .int .u8 92), (1, 1, .int .u8 (c : Int))] = some [.int .u8 92, .int .u8 (c : Int)] := rfl
    have y2 : ([AV.int .u8 92, .int .u8 (c : Int)] : List AV).length = 2 := rfl
    rw [el, wpc_seq]
    simp only [a140_10, a140_11, a140_12, a140_13, a140_15, wpc_draw, s3, reduceIte, Nat.reduceEqDiff, aBin, aInt, negIf, Option.some.injEq, exists_eq_left', Option.map_some, Option.bind_some, isC kc, isC c2, g5, g23, g24, g25, z0, e1, e2', z39, y1, y2, w1]
    refine fin _ h2 v2 [92, cb] (by simp) ho2 k2 hw2 hne2 (by simp only [get_put, reduceIte, Nat.reduceEqDiff]) fun n hn => ?_
    simp only [get_put]
    repeat rw [if_neg (by omega)]
  by_cases q92 : c = 92
  · have z39 : ((c : Int) == 39) = false := by simp; omega
    have z92 : ((c : Int) == 92) = true := by simp [q92]
    obtain ⟨v2, h2, c2, w1, ho2, k2, hw2, hne2⟩ := gr (.fs true 2 [.int .u8 92, .int .u8 (c : Int)]) [92, cb] rfl (by rw [hc]; rfl) (by simp)
    have y1 : aFill [.int .u8 0, .int .u8 0] [(0, 1, .int .u8 92), (1, 1, .int .u8 (c : Int))] = some [.int .u8 92, .int .u8 (c : Int)] := rfl
    have y2 : ([AV.int .u8 92, .int .u8 (c : Int)] : List AV).length = 2 := rfl
    rw [el, wpc_seq]
    simp only [a140_10, a140_11, a140_12, a140_13, a140_14, a140_15, wpc_draw, s3, reduceIte, Nat.reduceEqDiff, aBin, aInt, negIf, Option.some.injEq, exists_eq_left', Option.map_some, Option.bind_some, isC kc, isC c2, g5, g23, g24, g25, z0, e1, e2', z39, z92, y1, y2, w1]
    refine fin _ h2 v2 [92, cb] (by simp) ho2 k2 hw2 hne2 (by simp only [get_put, reduceIte, Nat.reduceEqDiff]) fun n hn => ?_
    simp only [get_put]
    repeat rw [if_neg (by omega)]
  have z39 : ((c : Int) == 39) = false := by simp; omega
  have z92 : ((c : Int) == 92) = false := by simp; omega
  by_cases q10 : c = 10
  · have z10 : ((c : Int) == 10) = true := by simp [q10]
    obtain ⟨v2, h2, c2, w1, ho2, k2, hw2, hne2⟩ := gr (.str [92, 110]) [92, 110] rfl rfl (by decide)
    rw [el, wpc_seq]
    simp only [a140_10, a140_11, a140_12, a140_13, a140_14, a140_16, a140_17, wpc_draw, s3, reduceIte, Nat.reduceEqDiff, aBin, aInt, negIf, Option.some.injEq, exists_eq_left', Option.map_some, Option.bind_some, isC kc, isC c2, g5, g23, g24, g25, z0, e1, e2', z39, z92, z10, w1]
    refine fin _ h2 v2 [92, 110] (by decide) ho2 k2 hw2 hne2 (by simp only [get_put, reduceIte, Nat.reduceEqDiff]) fun n hn => ?_
    simp only [get_put]
    repeat rw [if_neg (by omega)]
  have z10 : ((c : Int) == 10) = false := by simp; omega
  by_cases q9 : c = 9
  · have z9 : ((c : Int) == 9) = true := by simp [q9]
    obtain ⟨v2, h2, c2, w1, ho2, k2, hw2, hne2⟩ := gr (.str [92, 116]) [92, 116] rfl rfl (by decide)
    rw [el, wpc_seq]
    simp only [a140_10, a140_11, a140_12, a140_13, a140_14, a140_16, a140_18, a140_19, wpc_draw, s3, reduceIte, Nat.reduceEqDiff, aBin, aInt, negIf, Option.some.injEq, exists_eq_left', Option.map_some, Option.bind_some, isC kc, isC c2, g5, g23, g24, g25, z0, e1, e2', z39, z92, z10, z9, w1]
    refine fin _ h2 v2 [92, 116] (by decide) ho2 k2 hw2 hne2 (by simp only [get_put, reduceIte, Nat.reduceEqDiff]) fun n hn => ?_
    simp only [get_put]
    repeat rw [if_neg (by omega)]
  have z9 : ((c : Int) == 9) = false := by simp; omega
  by_cases q13 : c = 13
  · have z13 : ((c : Int) == 13) = true := by simp [q13]
    obtain ⟨v2, h2, c2, w1, ho2, k2, hw2, hne2⟩ := gr (.str [92, 114]) [92, 114] rfl rfl (by decide)
    rw [el, wpc_seq]
    simp only [a140_10, a140_11, a140_12, a140_13, a140_14, a140_16, a140_18, a140_20, a140_21, wpc_draw, s3, reduceIte, Nat.reduceEqDiff, aBin, aInt, negIf, Option.some.injEq, exists_eq_left', Option.map_some, Option.bind_some, isC kc, isC c2, g5, g23, g24, g25, z0, e1, e2', z39, z92, z10, z9, z13, w1]
    refine fin _ h2 v2 [92, 114] (by decide) ho2 k2 hw2 hne2 (by simp only [get_put, reduceIte, Nat.reduceEqDiff]) fun n hn => ?_
    simp only [get_put]
    repeat rw [if_neg (by omega)]
  have z13 : ((c : Int) == 13) = false := by simp; omega
  have hex : ∀ {σ2 : Slots}, σ2.get 5 = v → σ2.get 7 = .int .u8 (c : Int) → (∀ n, n = 23 ∨ n = 24 ∨ n = 25 → σ2.get n = σ.get n) → wpc env (.draw a140_23 a140_23b) ⟨σ2, h⟩ (blockQ' 2 (blockQ' 1 (seqQ env (.ops a140_25) Q))) := by
    intro σ2 p5 p7 pk
    obtain ⟨v2, h2, c2, w1, ho2, k2, hw2, hne2⟩ := gr (.fs true 4 [.int .u8 92, .int .u8 120, .int .u8 (hexAt (c / 16)).toNat, .int .u8 (hexAt (c % 16)).toNat]) [92, 120, hexAt (c / 16), hexAt (c % 16)] rfl rfl (by simp)
    have f1 := shr_at hc8
    have f2 := and_at hc8
    have f3 := hex_idx (i := c / 16) (by omega)
    have f4 := hex_idx (i := c % 16) (by omega)
    have y1 : aFill [.int .u8 0, .int .u8 0, .int .u8 0, .int .u8 0] [(0, 1, .int .u8 92), (1, 1, .int .u8 120), (2, 1, .int .u8 (hexAt (c / 16)).toNat), (3, 1, .int .u8 (hexAt (c % 16)).toNat)] = some [.int .u8 92, .int .u8 120, .int .u8 (hexAt (c / 16)).toNat, .int .u8 (hexAt (c % 16)).toNat] := rfl
    have y2 : ([AV.int .u8 92, .int .u8 120, .int .u8 (hexAt (c / 16)).toNat, .int .u8 (hexAt (c % 16)).toNat] : List AV).length = 4 := rfl
    refine wpc_draw_k ?_
    simp only [a140_23, s3, reduceIte, Nat.reduceEqDiff, negIf, Option.some.injEq, exists_eq_left', Option.map_some, Option.bind_some, k3, isC c2, wp1_idxStr, op_idxStr, p5, p7, f1, f2, f3, f4, y1, y2, w1]
    refine ⟨by cases c2 <;> rfl, ?_⟩
    refine fin _ h2 v2 [92, 120, hexAt (c / 16), hexAt (c % 16)] (by simp) ho2 k2 hw2 hne2 (by simp only [get_put, reduceIte, Nat.reduceEqDiff]) fun n hn => ?_
    simp only [get_put]
    repeat rw [if_neg (by omega)]
    exact pk n hn
  by_cases q32 : (c : Int) < 32
  · have z32 : ((c : Int) < 32) = True := eq_true q32
    rw [el, wpc_seq]
    simp only [a140_10, a140_11, a140_12, a140_13, a140_14, a140_16, a140_18, a140_20, a140_22, s3, reduceIte, Nat.reduceEqDiff, aBin, aInt, negIf, Option.some.injEq, exists_eq_left', Option.map_some, Option.bind_some, isC kc, g5, g23, g24, g25, z0, e1, e2', z39, z92, z10, z9, z13, z32, aPick]
    refine hex ?_ ?_ fun n hn => ?_
    · simp only [get_put, reduceIte, Nat.reduceEqDiff, g5]
    · simp only [get_put, reduceIte, Nat.reduceEqDiff]
    · simp only [get_put]
      repeat rw [if_neg (by omega)]
  have z32 : ((c : Int) < 32) = False := eq_false q32
  by_cases q127 : c = 127
  · have z127 : ((c : Int) == 127) = true := by simp [q127]
    rw [el, wpc_seq]
    simp only [a140_10, a140_11, a140_12, a140_13, a140_14, a140_16, a140_18, a140_20, a140_22, s3, reduceIte, Nat.reduceEqDiff, aBin, aInt, negIf, Option.some.injEq, exists_eq_left', Option.map_some, Option.bind_some, isC kc, g5, g23, g24, g25, z0, e1, e2', z39, z92, z10, z9, z13, z32, z127, aPick]
    refine hex ?_ ?_ fun n hn => ?_
    · simp only [get_put, reduceIte, Nat.reduceEqDiff, g5]
    · simp only [get_put, reduceIte, Nat.reduceEqDiff]
    · simp only [get_put]
      repeat rw [if_neg (by omega)]
  have z127 : ((c : Int) == 127) = false := by simp; omega
  obtain ⟨v2, h2, c2, w1, ho2, k2, hw2, hne2⟩ := gr (.fs true 1 [.int .u8 (c : Int)]) [cb] rfl (by rw [hc]; rfl) (by simp)
  have y1 : aFill [.int .u8 0] [(0, 1, .int .u8 (c : Int))] = some [.int .u8 (c : Int)] := rfl
  have y2 : ([AV.int .u8 (c : Int)] : List AV).length = 1 := rfl
  rw [el, wpc_seq]
  simp only [a140_10, a140_11, a140_12, a140_13, a140_14, a140_16, a140_18, a140_20, a140_22, a140_24, wpc_draw, s3, reduceIte, Nat.reduceEqDiff, aBin, aInt, negIf, Option.some.injEq, exists_eq_left', Option.map_some, Option.bind_some, isC kc, isC c2, g5, g23, g24, g25, z0, e1, e2', z39, z92, z10, z9, z13, z32, z127, aPick, y1, y2, w1]
  refine fin _ h2 v2 [cb] (by simp) ho2 k2 hw2 hne2 (by simp only [get_put, reduceIte, Nat.reduceEqDiff]) fun n hn => ?_
  simp only [get_put]
  repeat rw [if_neg (by omega)]
theorem quote_loop (hs : s.length ≤ 255) : ∀ (f i : Nat) (h : Heap) (σ : Slots) (v : AV) (bs : List UInt8), s.length - i < f → i ≤ s.length → HeapOk h → Acc h 1 v (bs.map byteAV) → bs.length ≤ 1 + 4 * i → Bytes h w s → (∀ id, v.own = some id → w.own ≠ some id) →
    σ.get 5 = v → σ.get 23 = w → σ.get 24 = .int .i64 s.length → σ.get 25 = .int .i64 i →
    (∀ (σ' : Slots) (h' : Heap) (v' : AV) (bs' : List UInt8), HeapOk h' → Acc h' 1 v' (bs'.map byteAV) → bs'.length ≤ 1 + 4 * s.length → σ'.get 5 = v' → Q (.exit 0) ⟨σ', h'⟩) → WPr env a140_l26 ⟨σ, h⟩ Q := by
  intro f
  induction f with
  | zero => intro i h σ v bs h1; omega
  | succ f ih =>
    intro i h σ v bs hf hi ho k hl hw hne g5 g23 g24 g25 hQ
    by_cases c1 : i < s.length
    · refine wpr_round' fun b hb => quote_round c1 hs ho k hl hw hne g5 g23 g24 g25 fun σ' h' v' bs' ho' k' hl' hw' hne' p5 p23 p24 p25 => ?_
      subst hb
      exact ih (i + 1) h' σ' v' bs' (by omega) (by omega) ho' k' hl' hw' hne' p5 p23 p24 p25 hQ
    · refine wpr_round' fun b hb => ?_
      have z0 : ((i : Int) < (s.length : Int)) = False := eq_false (by omega)
      simp only [a140_l26, a140_10, wpc_draw, s3, reduceIte, Nat.reduceEqDiff, aBin, aInt, negIf, Option.some.injEq, exists_eq_left', Option.map_some, Option.bind_some, g24, g25, z0]
      refine hQ _ h v bs ho k (by omega) ?_
      simp only [get_put, reduceIte, Nat.reduceEqDiff, g5]
end
def quoteErr (s : List UInt8) : Option (Int × Int) :=
  if 255 < s.length then some (0, 4) else if 0 ≤ strangeF s (s.length + 1) 0 then some (strangeF s (s.length + 1) 0, 23) else none
def errAV : Option (Int × Int) → AV
  | some (p, c) => errA p c
  | none => .nili
theorem strange_spec (s : List UInt8) (h : Heap) : WC env 149 [.str s] h (fun o => o = .ret ⟨.int .i64 (strangeF s (s.length + 1) 0), h, .write⟩) :=
  ⟨_, ⟨1, fun m hm => by
    cases m with
    | zero => omega
    | succ m => rfl⟩, rfl⟩
theorem quote_spec (s : List UInt8) (h : Heap) : WC env 140 [.str s] h (fun o => ∃ q, o = .ret ⟨.tup [.str q, errAV (quoteErr s)], h, .none⟩) := by
  refine call_pure rfl rfl rfl rfl ?_
  have en : ∀ h, aLenOp true h (.str s) = some ⟨.int .i64 s.length, h, .none⟩ := fun h => rfl
  by_cases c1 : 255 < s.length
  · have z1 : ((s.length : Int) > 255) = True := eq_true (by omega)
    have e : quoteErr s = some (0, 4) := by rw [quoteErr, if_pos c1]
    simp only [a140, a140_0, a140_1, a140_2, Slots.ofList, wpc_draw, s3, reduceIte, Nat.reduceEqDiff, aBin, aInt, negIf, Option.some.injEq, exists_eq_left', Option.map_some, Option.bind_some, en, z1, wc_eq (atomRefused_spec _ _ _)]
    refine ⟨[.str [], errA 0 4], .tup [.str [], errA 0 4], by simp only [Env.results, Option.map_some, get_put, reduceIte, Nat.reduceEqDiff], (frz_noRef (v := .tup [.str [], errA 0 4]) rfl).2 rfl, _, by rw [e]; rfl⟩
  have z1 : ((s.length : Int) > 255) = False := eq_false (by omega)
  by_cases c2 : 0 ≤ strangeF s (s.length + 1) 0
  · have z2 : (strangeF s (s.length + 1) 0 ≥ 0) = True := eq_true c2
    have e : quoteErr s = some (strangeF s (s.length + 1) 0, 23) := by rw [quoteErr, if_neg c1, if_pos c2]
    simp only [a140, a140_0, a140_1, a140_3, a140_4, a140_5, Slots.ofList, wpc_draw, s3, reduceIte, Nat.reduceEqDiff, aBin, aInt, negIf, Option.some.injEq, exists_eq_left', Option.map_some, Option.bind_some, en, z1, wc_eq (strange_spec _ _), z2, wc_eq (atomRefused_spec _ _ _)]
    refine ⟨[.str [], errA (strangeF s (s.length + 1) 0) 23], .tup [.str [], errA (strangeF s (s.length + 1) 0) 23], by simp only [Env.results, Option.map_some, get_put, reduceIte, Nat.reduceEqDiff], (frz_noRef (v := .tup [.str [], errA (strangeF s (s.length + 1) 0) 23]) rfl).2 rfl, _, by rw [e]; rfl⟩
  have z2 : (strangeF s (s.length + 1) 0 ≥ 0) = False := eq_false c2
  have e : quoteErr s = none := by rw [quoteErr, if_neg c1, if_neg c2]
  obtain ⟨b, hb⟩ := plain_spec (s := s) (by omega)
  cases b with
  | true =>
    simp only [a140, a140_0, a140_1, a140_3, a140_4, a140_6, a140_7, Slots.ofList, wpc_draw, s3, reduceIte, Nat.reduceEqDiff, aBin, aInt, negIf, Option.some.injEq, exists_eq_left', Option.map_some, Option.bind_some, en, z1, wc_eq (strange_spec _ _), z2, wc_eq (hb _)]
    refine ⟨[.str s, .nili], .tup [.str s, .nili], by simp only [Env.results, Option.map_some, get_put, reduceIte, Nat.reduceEqDiff], (frz_noRef (v := .tup [.str s, .nili]) rfl).2 rfl, _, by rw [e]; rfl⟩
  | false =>
    obtain ⟨h1, eh1⟩ : ∃ h1, h1 = Heap.empty.new (s.map byteAV) := ⟨_, rfl⟩
    have ho1 : HeapOk h1 := by rw [eh1]; exact HeapOk.empty.new _
    have a1 : h1.at_ Heap.empty.next 0 = some (s.map byteAV) := by rw [eh1]; exact at_new _
    have conv : aConv .empty .s2b (.str s) = some ⟨.sl Heap.empty.next 0 0 1 s.length none, h1, .write⟩ := by rw [eh1]; rfl
    have hw : Bytes h1 (.sl Heap.empty.next 0 0 1 s.length none) s := .sl _ _ _ _ _ _ a1 (by simp) (by rw [List.drop_zero]; exact List.take_of_length_le (by simp)) (fun c h => by cases h)
    have y1 : aFill [.int .u8 0] [(0, 1, .int .u8 39)] = some [.int .u8 39] := rfl
    have y2 : ([AV.int .u8 39] : List AV).length = 1 := rfl
    have en2 : ∀ h, aLenOp false h (.sl Heap.empty.next 0 0 1 s.length none) = some ⟨.int .i64 s.length, h, .none⟩ := fun h => rfl
    have k0 : Acc h1 1 (.fs true 1 [.int .u8 39]) (([39] : List UInt8).map byteAV) := .full 1 _ rfl
    simp only [a140, a140_0, a140_1, a140_3, a140_4, a140_6, a140_8, a140_9, Slots.ofList, wpc_draw, s3, reduceIte, Nat.reduceEqDiff, aBin, aInt, negIf, Option.some.injEq, exists_eq_left', Option.map_some, Option.bind_some, en, z1, wc_eq (strange_spec _ _), z2, wc_eq (hb _), y1, y2, conv, en2]
    refine quote_loop (s := s) (w := .sl Heap.empty.next 0 0 1 s.length none) (by omega) (s.length + 1) 0 h1 _ (.fs true 1 [.int .u8 39]) [39] (by omega) (by omega) ho1 k0 (by simp) hw (fun id e => by cases e) ?_ ?_ ?_ ?_ fun σ' h' v' bs' ho' k' hl' g5 => ?_
    · simp only [get_put, reduceIte, Nat.reduceEqDiff]
    · simp only [get_put, reduceIte, Nat.reduceEqDiff]
    · simp only [get_put, reduceIte, Nat.reduceEqDiff]
    · simp only [get_put, reduceIte, Nat.reduceEqDiff] <;> rfl
    obtain ⟨v2, h2, c2, w1, ho2, k2, hw2, hne2⟩ := grow ho' (x := .fs true 1 [.int .u8 39]) (w := .nils) (s := []) (nb := [39]) (c0 := .none) k' rfl rfl .nils (fun id e => by simp [AV.own]) (by simp; omega)
    obtain ⟨c3, hc3, b2⟩ := k2.toBytes.b2s
    simp only [a140_27, wpc_draw, s3, reduceIte, Nat.reduceEqDiff, aBin, aInt, negIf, Option.some.injEq, exists_eq_left', Option.map_some, Option.bind_some, isC c2, isC c3, g5, y1, y2, w1, b2]
    refine ⟨[.str (bs' ++ [39]), .nili], .tup [.str (bs' ++ [39]), .nili], by simp only [Env.results, Option.map_some, get_put, reduceIte, Nat.reduceEqDiff], (frz_noRef (v := .tup [.str (bs' ++ [39]), .nili]) rfl).2 rfl, _, by rw [e]; rfl⟩
end Go.Bf

set_option linter.unusedVariables false
set_option linter.unusedSimpArgs false
set_option maxRecDepth 20000
namespace Go.Bf
open Go.AM
theorem index_spec (s : List UInt8) (c : UInt8) (h : Heap) : WC env 169 [.str s, .str [c]] h (fun o => o = .ret ⟨.int .i64 (Lib.indexByte s c), h, .write⟩) :=
  ⟨_, ⟨1, fun m hm => by
    cases m with
    | zero => omega
    | succ m => rfl⟩, rfl⟩
theorem index_bounds (c : UInt8) : ∀ s : List UInt8, -1 ≤ Lib.indexByte s c ∧ (Lib.indexByte s c : Int) < s.length
  | [] => by simp [Lib.indexByte]
  | b :: l => by
    have := index_bounds c l
    simp only [Lib.indexByte, List.length_cons]
    split
    · omega
    split
    · omega
    · omega
theorem index2_spec (s : List UInt8) (h : Heap) : WC env 162 [.str s, .str [64]] h (fun o => o = .ret ⟨.int .i64 (Lib.indexByte s 64), h, .none⟩) := by
  refine call_pure rfl rfl rfl rfl ?_
  simp only [a162, a162_0, a162_1, Slots.ofList, wpc_draw, s3, reduceIte, Nat.reduceEqDiff, aBin, aInt, negIf, Option.some.injEq, exists_eq_left', Option.map_some, Option.bind_some, wc_eq (index_spec _ _ _)]
  exact ⟨[.int .i64 (Lib.indexByte s 64)], _, by simp only [Env.results, Option.map_some, get_put, reduceIte, Nat.reduceEqDiff], (frz_noRef (v := .int .i64 (Lib.indexByte s 64)) rfl).2 rfl, rfl⟩
def has64 (s : List UInt8) : Bool := decide (Lib.indexByte s 64 ≥ 0)
theorem contains_spec (s : List UInt8) (h : Heap) : WC env 152 [.str s, .str [64]] h (fun o => o = .ret ⟨.bool (has64 s), h, .none⟩) := by
  refine call_pure rfl rfl rfl rfl ?_
  cases c : has64 s with
  | true =>
    have z : (Lib.indexByte s 64 ≥ 0) = True := eq_true (by simpa [has64] using c)
    simp only [a152, a152_0, a152_1, Slots.ofList, wpc_draw, s3, reduceIte, Nat.reduceEqDiff, aBin, aInt, negIf, Option.some.injEq, exists_eq_left', Option.map_some, Option.bind_some, wc_eq (index2_spec _ _), z]
    exact ⟨[.bool true], _, by simp only [Env.results, Option.map_some, get_put, reduceIte, Nat.reduceEqDiff], (frz_noRef (v := .bool true) rfl).2 rfl, rfl⟩
  | false =>
    have z : (Lib.indexByte s 64 ≥ 0) = False := eq_false (by simpa [has64] using c)
    simp only [a152, a152_0, a152_1, Slots.ofList, wpc_draw, s3, reduceIte, Nat.reduceEqDiff, aBin, aInt, negIf, Option.some.injEq, exists_eq_left', Option.map_some, Option.bind_some, wc_eq (index2_spec _ _), z]
    exact ⟨[.bool false], _, by simp only [Env.results, Option.map_some, get_put, reduceIte, Nat.reduceEqDiff], (frz_noRef (v := .bool false) rfl).2 rfl, rfl⟩
theorem op_sliceStr {σ : Slots} {h : Heap} {x : Opd} {lo hi : Option Opd} : env.op σ h (.sliceStr x lo hi) = (env.opd σ x).bind fun v => (env.opdo σ lo).bind fun a => (env.opdo σ hi).bind fun b => (aSliceStr v a b).map fun v => ⟨v, h, .none⟩ := rfl
theorem sliceStr_to {s : List UInt8} {k : Nat} (h : k ≤ s.length) : aSliceStr (.str s) none (some (.int .i64 k)) = some (.str (s.take k)) := by
  simp [aSliceStr, bounds_to h]
theorem sliceStr_from {s : List UInt8} {k : Nat} (h : k ≤ s.length) : aSliceStr (.str s) (some (.int .i64 k)) none = some (.str (s.drop k)) := by
  have : (s.drop k).take (s.length - k) = s.drop k := List.take_of_length_le (by simp)
  simp [aSliceStr, bounds_from h, this]
def name64 (s : List UInt8) : List UInt8 := if has64 s then s.take (Lib.indexByte s 64).toNat else s
def host64 (s : List UInt8) : List UInt8 := if has64 s then s.drop ((Lib.indexByte s 64).toNat + 1) else []
theorem cut0_spec (s : List UInt8) (hs : s.length < 9223372036854775808) (h : Heap) : WC env 161 [.str s, .str [64]] h (fun o => o = .ret ⟨.tup [.str (name64 s), .str (host64 s), .bool (has64 s)], h, .write⟩) := by
  refine call_body rfl rfl (.inl rfl) ?_
  have hb := index_bounds 64 s
  cases c : has64 s with
  | true =>
    have c' : Lib.indexByte s 64 ≥ 0 := by simpa [has64] using c
    obtain ⟨k, hk⟩ : ∃ k : Nat, Lib.indexByte s 64 = (k : Int) := ⟨(Lib.indexByte s 64).toNat, by omega⟩
    have z : ((k : Int) ≥ 0) = True := eq_true (by omega)
    have z2 : IntKind.wrap .i64 ((k : Int) + 1) = ((k + 1 : Nat) : Int) := wrap_nat (by omega) (by omega)
    have en : ∀ h, aLenOp true h (.str [64]) = some ⟨.int .i64 1, h, .none⟩ := fun h => rfl
    have t1 := sliceStr_to (s := s) (k := k) (by omega)
    have t2 := sliceStr_from (s := s) (k := k + 1) (by omega)
    have w1 : ∀ h, WC env 169 [.str s, .str [64]] h (fun o => o = .ret ⟨.int .i64 (k : Int), h, .write⟩) := fun h => by rw [← hk]; exact index_spec s 64 h
    have e1 : name64 s = s.take k := by rw [name64, c, hk]; rfl
    have e2 : host64 s = s.drop (k + 1) := by rw [host64, c, hk]; rfl
    simp only [a161, a161_0, a161_1, a161_2, a161_3, Slots.ofList, s3, reduceIte, Nat.reduceEqDiff, aBin, aInt, negIf, Option.some.injEq, exists_eq_left', Option.map_some, Option.bind_some, wc_eq (w1 _), z]
    refine wpc_draw_k ?_
    simp only [s3, reduceIte, Nat.reduceEqDiff, aBin, aInt, negIf, Option.some.injEq, exists_eq_left', Option.map_some, Option.bind_some, k3, wp1_sliceStr, op_sliceStr, en, z2, t1, t2]
    refine ⟨rfl, ?_⟩
    refine ⟨[.str (s.take k), .str (s.drop (k + 1)), .bool true], by simp only [Env.results, Option.map_some, get_put, reduceIte, Nat.reduceEqDiff], by rw [e1, e2]; rfl⟩
  | false =>
    have z : (Lib.indexByte s 64 ≥ 0) = False := eq_false (by simpa [has64] using c)
    have e1 : name64 s = s := by rw [name64, c]; rfl
    have e2 : host64 s = [] := by rw [host64, c]; rfl
    simp only [a161, a161_0, a161_1, a161_2, a161_4, Slots.ofList, wpc_draw, s3, reduceIte, Nat.reduceEqDiff, aBin, aInt, negIf, Option.some.injEq, exists_eq_left', Option.map_some, Option.bind_some, wc_eq (index_spec _ _ _), z]
    refine ⟨[.str s, .str [], .bool false], by simp only [Env.results, Option.map_some, get_put, reduceIte, Nat.reduceEqDiff], by rw [e1, e2]; rfl⟩
theorem x30 (a b c : AV) : ([a, b, c] : List AV)[0]? = some a := rfl
theorem x31 (a b c : AV) : ([a, b, c] : List AV)[1]? = some b := rfl
theorem x32 (a b c : AV) : ([a, b, c] : List AV)[2]? = some c := rfl
theorem cut_spec (s : List UInt8) (hs : s.length < 9223372036854775808) (h : Heap) : WC env 151 [.str s, .str [64]] h (fun o => o = .ret ⟨.tup [.str (name64 s), .str (host64 s), .bool (has64 s)], h, .none⟩) := by
  refine call_pure rfl rfl rfl rfl ?_
  simp only [a151, a151_0, a151_1, Slots.ofList, wpc_draw, s3, reduceIte, Nat.reduceEqDiff, aBin, aInt, negIf, Option.some.injEq, exists_eq_left', Option.map_some, Option.bind_some, wc_eq (cut0_spec s hs _), aExtract, x30, x31, x32]
  exact ⟨[.str (name64 s), .str (host64 s), .bool (has64 s)], _, by simp only [Env.results, Option.map_some, get_put, reduceIte, Nat.reduceEqDiff], (frz_noRef (v := .tup [.str (name64 s), .str (host64 s), .bool (has64 s)]) rfl).2 rfl, rfl⟩
def okName (c : UInt8) : Bool := kindF (c.toNat : Int) != 0 || (c.toNat : Int) == 45
def okHost (c : UInt8) : Bool := kindF (c.toNat : Int) != 0 || (c.toNat : Int) == 45 || (c.toNat : Int) == 46
theorem name_loop {s : List UInt8} {w : AV} {h : Heap} (hw : Bytes h w s) (hs : s.length < 9223372036854775808) {Q : AExit → St → Prop} : ∀ (f i : Nat) (σ : Slots) (g : Bool), s.length - i < f → i ≤ s.length → σ.get 8 = .bool g → σ.get 39 = w → σ.get 40 = .int .i64 s.length → σ.get 41 = .int .i64 i →
    (∀ σ', σ'.get 8 = .bool (g && (s.drop i).all okName) → (∀ n, n = 5 ∨ n = 6 → σ'.get n = σ.get n) → Q (.exit 0) ⟨σ', h⟩) → WPr env a141_l8 ⟨σ, h⟩ Q := by
  intro f
  induction f with
  | zero => intro i σ g h1; omega
  | succ f ih =>
    intro i σ g hf hi g8 gw gl gi hQ
    refine wpr_round' fun b hb => ?_
    by_cases c1 : i < s.length
    · have z0 : ((i : Int) < (s.length : Int)) = True := eq_true (by omega)
      have zi : IntKind.wrap .i64 ((i : Int) + 1) = ((i + 1 : Nat) : Int) := wrap_nat (by omega) (by omega)
      obtain ⟨p, kc, e1, e2, hkc⟩ := hw.elem (kd := .i64) c1
      obtain ⟨cb, hcb⟩ : ∃ cb : UInt8, cb = s.getD i 0 := ⟨_, rfl⟩
      have e2' : aLoad h false 1 p = some ⟨.int .u8 (cb.toNat : Int), h, kc⟩ := by rw [hcb]; exact e2
      have hd : s.drop i = cb :: s.drop (i + 1) := by
        rw [List.drop_eq_getElem_cons c1, hcb, List.getD_eq_getElem?_getD, List.getElem?_eq_getElem c1]; rfl
      have go : ∀ (σ2 : Slots), σ2.get 8 = .bool (g && okName cb) → (∀ n, n = 39 ∨ n = 40 ∨ n = 41 ∨ n = 5 ∨ n = 6 → σ2.get n = σ.get n) → wpo env a141_7 ⟨σ2, h⟩ (roundQ env b Q) := by
        intro σ2 p8 pk
        have pi : σ2.get 41 = .int .i64 i := by rw [pk 41 (by omega), gi]
        simp only [a141_7, wpo_u, wpc_draw, s3, reduceIte, Nat.reduceEqDiff, aBin, aInt, negIf, Option.some.injEq, exists_eq_left', Option.map_some, Option.bind_some, pi, zi]
        subst hb
        refine ih (i + 1) _ (g && okName cb) (by omega) (by omega) ?_ ?_ ?_ ?_ fun σ' s8 sk => hQ σ' ?_ ?_
        · simp only [get_put, reduceIte, Nat.reduceEqDiff, p8]
        · simp only [get_put, reduceIte, Nat.reduceEqDiff]; rw [pk 39 (by omega), gw]
        · simp only [get_put, reduceIte, Nat.reduceEqDiff]; rw [pk 40 (by omega), gl]
        · simp only [get_put, reduceIte, Nat.reduceEqDiff]
        · rw [s8, hd, List.all_cons, Bool.and_assoc]
        · intro n hn
          rw [sk n hn]
          simp only [get_put]
          repeat rw [if_neg (by omega)]
          exact pk n (by omega)
      have keep : ∀ {σ2 : Slots}, True := trivial
      have el : a141_l8 = (.seq (.ops a141_4) (.seq (.cond (.t 42) .skip (.exit 0)) (.seq (.block 1 (.seq (.ops a141_5) (.ops a141_6))) (.ops a141_7)))) := rfl
      cases g with
      | false =>
        rw [el, wpc_seq]
        simp only [a141_4, a141_5, a141_6, wpo_u, wpc_draw, s3, reduceIte, Nat.reduceEqDiff, aBin, aInt, negIf, Option.some.injEq, exists_eq_left', Option.map_some, Option.bind_some, isC kc, g8, gw, gl, gi, z0, e1, e2', aPick]
        refine go _ ?_ fun n hn => ?_
        · simp only [get_put, reduceIte, Nat.reduceEqDiff, Bool.false_and]
        · simp only [get_put]
          repeat rw [if_neg (by omega)]
      | true =>
        cases k1 : (kindF (cb.toNat : Int) != 0) with
        | true =>
          rw [el, wpc_seq]
          simp only [a141_4, a141_5, a141_6, wpo_u, wpc_draw, s3, reduceIte, Nat.reduceEqDiff, aBin, aInt, negIf, Option.some.injEq, exists_eq_left', Option.map_some, Option.bind_some, isC kc, g8, gw, gl, gi, z0, e1, e2', wc_eq (kind_spec _ _), k1, aPick]
          refine go _ ?_ fun n hn => ?_
          · simp only [get_put, reduceIte, Nat.reduceEqDiff, okName, k1, Bool.true_or, Bool.true_and]
          · simp only [get_put]
            repeat rw [if_neg (by omega)]
        | false =>
          cases k2 : ((cb.toNat : Int) == 45) with
          | true =>
            rw [el, wpc_seq]
            simp only [a141_4, a141_5, a141_6, wpo_u, wpc_draw, s3, reduceIte, Nat.reduceEqDiff, aBin, aInt, negIf, Option.some.injEq, exists_eq_left', Option.map_some, Option.bind_some, isC kc, g8, gw, gl, gi, z0, e1, e2', wc_eq (kind_spec _ _), k1, k2, aPick]
            refine go _ ?_ fun n hn => ?_
            · simp only [get_put, reduceIte, Nat.reduceEqDiff, okName, k1, k2, Bool.false_or, Bool.true_or, Bool.true_and]
            · simp only [get_put]
              repeat rw [if_neg (by omega)]
          | false =>
            rw [el, wpc_seq]
            simp only [a141_4, a141_5, a141_6, wpo_u, wpc_draw, s3, reduceIte, Nat.reduceEqDiff, aBin, aInt, negIf, Option.some.injEq, exists_eq_left', Option.map_some, Option.bind_some, isC kc, g8, gw, gl, gi, z0, e1, e2', wc_eq (kind_spec _ _), k1, k2, aPick]
            refine go _ ?_ fun n hn => ?_
            · simp only [get_put, reduceIte, Nat.reduceEqDiff, okName, k1, k2, Bool.false_or, Bool.true_and]
            · simp only [get_put]
              repeat rw [if_neg (by omega)]
    · have z0 : ((i : Int) < (s.length : Int)) = False := eq_false (by omega)
      have hd : s.drop i = [] := List.drop_of_length_le (by omega)
      simp only [a141_l8, a141_4, wpo_u, wpc_draw, s3, reduceIte, Nat.reduceEqDiff, aBin, aInt, negIf, Option.some.injEq, exists_eq_left', Option.map_some, Option.bind_some, gl, gi, z0]
      refine hQ _ ?_ fun n hn => ?_
      · simp only [get_put, reduceIte, Nat.reduceEqDiff, g8]
        rw [hd, List.all_nil, Bool.and_true]
      · simp only [get_put]
        repeat rw [if_neg (by omega)]
theorem host_loop {s : List UInt8} {w : AV} {h : Heap} (hw : Bytes h w s) (hs : s.length < 9223372036854775808) {Q : AExit → St → Prop} : ∀ (f i : Nat) (σ : Slots) (g : Bool), s.length - i < f → i ≤ s.length → σ.get 8 = .bool g → σ.get 57 = w → σ.get 58 = .int .i64 s.length → σ.get 59 = .int .i64 i →
    (∀ σ', σ'.get 8 = .bool (g && (s.drop i).all okHost) → (∀ n, n = 5 ∨ n = 6 → σ'.get n = σ.get n) → Q (.exit 2) ⟨σ', h⟩) → WPr env a141_l14 ⟨σ, h⟩ Q := by
  intro f
  induction f with
  | zero => intro i σ g h1; omega
  | succ f ih =>
    intro i σ g hf hi g8 gw gl gi hQ
    refine wpr_round' fun b hb => ?_
    by_cases c1 : i < s.length
    · have z0 : ((i : Int) < (s.length : Int)) = True := eq_true (by omega)
      have zi : IntKind.wrap .i64 ((i : Int) + 1) = ((i + 1 : Nat) : Int) := wrap_nat (by omega) (by omega)
      obtain ⟨p, kc, e1, e2, hkc⟩ := hw.elem (kd := .i64) c1
      obtain ⟨cb, hcb⟩ : ∃ cb : UInt8, cb = s.getD i 0 := ⟨_, rfl⟩
      have e2' : aLoad h false 1 p = some ⟨.int .u8 (cb.toNat : Int), h, kc⟩ := by rw [hcb]; exact e2
      have hd : s.drop i = cb :: s.drop (i + 1) := by
        rw [List.drop_eq_getElem_cons c1, hcb, List.getD_eq_getElem?_getD, List.getElem?_eq_getElem c1]; rfl
      have go : ∀ (σ2 : Slots), σ2.get 8 = .bool (g && okHost cb) → (∀ n, n = 57 ∨ n = 58 ∨ n = 59 ∨ n = 5 ∨ n = 6 → σ2.get n = σ.get n) → wpo env a141_13 ⟨σ2, h⟩ (roundQ env b Q) := by
        intro σ2 p8 pk
        have pi : σ2.get 59 = .int .i64 i := by rw [pk 59 (by omega), gi]
        simp only [a141_13, wpo_u, wpc_draw, s3, reduceIte, Nat.reduceEqDiff, aBin, aInt, negIf, Option.some.injEq, exists_eq_left', Option.map_some, Option.bind_some, pi, zi]
        subst hb
        refine ih (i + 1) _ (g && okHost cb) (by omega) (by omega) ?_ ?_ ?_ ?_ fun σ' s8 sk => hQ σ' ?_ ?_
        · simp only [get_put, reduceIte, Nat.reduceEqDiff, p8]
        · simp only [get_put, reduceIte, Nat.reduceEqDiff]; rw [pk 57 (by omega), gw]
        · simp only [get_put, reduceIte, Nat.reduceEqDiff]; rw [pk 58 (by omega), gl]
        · simp only [get_put, reduceIte, Nat.reduceEqDiff]
        · rw [s8, hd, List.all_cons, Bool.and_assoc]
        · intro n hn
          rw [sk n hn]
          simp only [get_put]
          repeat rw [if_neg (by omega)]
          exact pk n (by omega)
      have keep : ∀ {σ2 : Slots}, True := trivial
      have el : a141_l14 = (.seq (.ops a141_10) (.seq (.cond (.t 60) .skip (.exit 2)) (.seq (.block 3 (.seq (.ops a141_11) (.ops a141_12))) (.ops a141_13)))) := rfl
      cases g with
      | false =>
        rw [el, wpc_seq]
        simp only [a141_10, a141_11, a141_12, wpo_u, wpc_draw, s3, reduceIte, Nat.reduceEqDiff, aBin, aInt, negIf, Option.some.injEq, exists_eq_left', Option.map_some, Option.bind_some, isC kc, g8, gw, gl, gi, z0, e1, e2', aPick]
        refine go _ ?_ fun n hn => ?_
        · simp only [get_put, reduceIte, Nat.reduceEqDiff, Bool.false_and]
        · simp only [get_put]
          repeat rw [if_neg (by omega)]
      | true =>
        cases k1 : (kindF (cb.toNat : Int) != 0) with
        | true =>
          rw [el, wpc_seq]
          simp only [a141_10, a141_11, a141_12, wpo_u, wpc_draw, s3, reduceIte, Nat.reduceEqDiff, aBin, aInt, negIf, Option.some.injEq, exists_eq_left', Option.map_some, Option.bind_some, isC kc, g8, gw, gl, gi, z0, e1, e2', wc_eq (kind_spec _ _), k1, aPick]
          refine go _ ?_ fun n hn => ?_
          · simp only [get_put, reduceIte, Nat.reduceEqDiff, okHost, k1, Bool.true_or, Bool.true_and]
          · simp only [get_put]
            repeat rw [if_neg (by omega)]
        | false =>
          cases k2 : ((cb.toNat : Int) == 45) with
          | true =>
            rw [el, wpc_seq]
            simp only [a141_10, a141_11, a141_12, wpo_u, wpc_draw, s3, reduceIte, Nat.reduceEqDiff, aBin, aInt, negIf, Option.some.injEq, exists_eq_left', Option.map_some, Option.bind_some, isC kc, g8, gw, gl, gi, z0, e1, e2', wc_eq (kind_spec _ _), k1, k2, aPick]
            refine go _ ?_ fun n hn => ?_
            · simp only [get_put, reduceIte, Nat.reduceEqDiff, okHost, k1, k2, Bool.false_or, Bool.true_or, Bool.true_and]
            · simp only [get_put]
              repeat rw [if_neg (by omega)]
          | false =>
            cases k3 : ((cb.toNat : Int) == 46) with
            | true =>
              rw [el, wpc_seq]
              simp only [a141_10, a141_11, a141_12, wpo_u, wpc_draw, s3, reduceIte, Nat.reduceEqDiff, aBin, aInt, negIf, Option.some.injEq, exists_eq_left', Option.map_some, Option.bind_some, isC kc, g8, gw, gl, gi, z0, e1, e2', wc_eq (kind_spec _ _), k1, k2, k3, aPick]
              refine go _ ?_ fun n hn => ?_
              · simp only [get_put, reduceIte, Nat.reduceEqDiff, okHost, k1, k2, k3, Bool.false_or, Bool.true_and]
              · simp only [get_put]
                repeat rw [if_neg (by omega)]
            | false =>
              rw [el, wpc_seq]
              simp only [a141_10, a141_11, a141_12, wpo_u, wpc_draw, s3, reduceIte, Nat.reduceEqDiff, aBin, aInt, negIf, Option.some.injEq, exists_eq_left', Option.map_some, Option.bind_some, isC kc, g8, gw, gl, gi, z0, e1, e2', wc_eq (kind_spec _ _), k1, k2, k3, aPick]
              refine go _ ?_ fun n hn => ?_
              · simp only [get_put, reduceIte, Nat.reduceEqDiff, okHost, k1, k2, k3, Bool.false_or, Bool.true_and]
              · simp only [get_put]
                repeat rw [if_neg (by omega)]
    · have z0 : ((i : Int) < (s.length : Int)) = False := eq_false (by omega)
      have hd : s.drop i = [] := List.drop_of_length_le (by omega)
      simp only [a141_l14, a141_10, wpo_u, wpc_draw, s3, reduceIte, Nat.reduceEqDiff, aBin, aInt, negIf, Option.some.injEq, exists_eq_left', Option.map_some, Option.bind_some, gl, gi, z0]
      refine hQ _ ?_ fun n hn => ?_
      · simp only [get_put, reduceIte, Nat.reduceEqDiff, g8]
        rw [hd, List.all_nil, Bool.and_true]
      · simp only [get_put]
        repeat rw [if_neg (by omega)]
def nodeF (s : List UInt8) : Bool := has64 s && !(name64 s == []) && !(host64 s == []) && decide (s.length ≤ 64) && !has64 (host64 s) && (name64 s).all okName && (host64 s).all okHost
theorem node_spec (s : List UInt8) (hs : s.length < 9223372036854775808) (h : Heap) : WC env 141 [.str s] h (fun o => ∃ a b, o = .ret ⟨.tup [.str a, .str b, if nodeF s then .nili else errA 0 24], h, .none⟩) := by
  refine call_pure rfl rfl rfl rfl ?_
  obtain ⟨n, hn⟩ : ∃ n, n = name64 s := ⟨_, rfl⟩
  obtain ⟨o, ho⟩ : ∃ o, o = host64 s := ⟨_, rfl⟩
  have hnl : n.length ≤ s.length := by
    rw [hn, name64]; split
    · simp; omega
    · omega
  have hol : o.length ≤ s.length := by
    rw [ho, host64]; split
    · simp
    · simp
  have wcut : ∀ h, WC env 151 [.str s, .str [64]] h (fun r => r = .ret ⟨.tup [.str n, .str o, .bool (has64 s)], h, .none⟩) := fun h => by rw [hn, ho]; exact cut_spec s hs h
  have en : ∀ h, aLenOp true h (.str s) = some ⟨.int .i64 s.length, h, .none⟩ := fun h => rfl
  have ef : nodeF s = (has64 s && !(n == []) && !(o == []) && decide (s.length ≤ 64) && !has64 o && n.all okName && o.all okHost) := by rw [nodeF, ← hn, ← ho]
  obtain ⟨h1, eh1⟩ : ∃ h1, h1 = Heap.empty.new (n.map byteAV) := ⟨_, rfl⟩
  have ho1 : HeapOk h1 := by rw [eh1]; exact HeapOk.empty.new _
  have a1 : h1.at_ Heap.empty.next 0 = some (n.map byteAV) := by rw [eh1]; exact at_new _
  have conv1 : aConv .empty .s2b (.str n) = some ⟨.sl Heap.empty.next 0 0 1 n.length none, h1, .write⟩ := by rw [eh1]; rfl
  have hw1 : Bytes h1 (.sl Heap.empty.next 0 0 1 n.length none) n := .sl _ _ _ _ _ _ a1 (by simp) (by rw [List.drop_zero]; exact List.take_of_length_le (by simp)) (fun c h => by cases h)
  obtain ⟨h2, eh2⟩ : ∃ h2, h2 = h1.new (o.map byteAV) := ⟨_, rfl⟩
  have a2 : h2.at_ h1.next 0 = some (o.map byteAV) := by rw [eh2]; exact at_new _
  have conv2 : aConv h1 .s2b (.str o) = some ⟨.sl h1.next 0 0 1 o.length none, h2, .write⟩ := by rw [eh2]; rfl
  have hw2 : Bytes h2 (.sl h1.next 0 0 1 o.length none) o := .sl _ _ _ _ _ _ a2 (by simp) (by rw [List.drop_zero]; exact List.take_of_length_le (by simp)) (fun c h => by cases h)
  have en1 : ∀ h, aLenOp false h (.sl Heap.empty.next 0 0 1 n.length none) = some ⟨.int .i64 n.length, h, .none⟩ := fun h => rfl
  have en2 : ∀ h, aLenOp false h (.sl h1.next 0 0 1 o.length none) = some ⟨.int .i64 o.length, h, .none⟩ := fun h => rfl
  have rest : ∀ (σ : Slots) (g : Bool), σ.get 5 = .str n → σ.get 6 = .str o → σ.get 8 = .bool g → nodeF s = (g && n.all okName && o.all okHost) → wpc env (.seq (.seq (.ops a141_3) (.block 0 (.loop a141_l8))) (.seq (.seq (.ops a141_9) (.block 2 (.loop a141_l14))) (.seq (.seq (.ops a141_15) (.cond (.t 79) (.seq (.ops a141_16) .ret) .skip)) (.seq (.ops a141_17) .ret)))) ⟨σ, .empty⟩
      (pureQ env a141.results h (fun r => ∃ a b, r = .ret ⟨.tup [.str a, .str b, if nodeF s then .nili else errA 0 24], h, .none⟩)) := by
    intro σ g p5 p6 p8 e
    rw [wpc_seq]
    simp only [a141_3, wpc_draw, s3, reduceIte, Nat.reduceEqDiff, aBin, aInt, negIf, Option.some.injEq, exists_eq_left', Option.map_some, Option.bind_some, p5, p8, conv1, en1]
    refine name_loop hw1 (by omega) (n.length + 1) 0 _ g (by omega) (by omega) ?_ ?_ ?_ ?_ fun σ1 q8 q1 => ?_
    · simp only [get_put, reduceIte, Nat.reduceEqDiff, p8]
    · simp only [get_put, reduceIte, Nat.reduceEqDiff]
    · simp only [get_put, reduceIte, Nat.reduceEqDiff]
    · simp only [get_put, reduceIte, Nat.reduceEqDiff] <;> rfl
    have q5 : σ1.get 5 = .str n := by rw [q1 5 (by omega)]; simp only [get_put, reduceIte, Nat.reduceEqDiff, p5]
    have q6 : σ1.get 6 = .str o := by rw [q1 6 (by omega)]; simp only [get_put, reduceIte, Nat.reduceEqDiff, p6]
    rw [List.drop_zero] at q8
    simp only [a141_9, wpc_draw, s3, reduceIte, Nat.reduceEqDiff, aBin, aInt, negIf, Option.some.injEq, exists_eq_left', Option.map_some, Option.bind_some, q6, conv2, en2]
    refine host_loop hw2 (by omega) (o.length + 1) 0 _ (g && n.all okName) (by omega) (by omega) ?_ ?_ ?_ ?_ fun σ2 r8 r1 => ?_
    · simp only [get_put, reduceIte, Nat.reduceEqDiff, q8]
    · simp only [get_put, reduceIte, Nat.reduceEqDiff]
    · simp only [get_put, reduceIte, Nat.reduceEqDiff]
    · simp only [get_put, reduceIte, Nat.reduceEqDiff] <;> rfl
    have r5 : σ2.get 5 = .str n := by rw [r1 5 (by omega)]; simp only [get_put, reduceIte, Nat.reduceEqDiff, q5]
    have r6 : σ2.get 6 = .str o := by rw [r1 6 (by omega)]; simp only [get_put, reduceIte, Nat.reduceEqDiff, q6]
    rw [List.drop_zero, ← e] at r8
    cases hf : nodeF s with
    | true =>
      rw [hf] at r8
      simp only [a141_15, a141_17, wpc_draw, s3, reduceIte, Nat.reduceEqDiff, aBin, aInt, negIf, Option.some.injEq, exists_eq_left', Option.map_some, Option.bind_some, r5, r6, r8, aUn, Bool.not_true]
      exact ⟨[.str n, .str o, .nili], .tup [.str n, .str o, .nili], by simp only [a141, Env.results, Option.map_some, get_put, reduceIte, Nat.reduceEqDiff], (frz_noRef (v := .tup [.str n, .str o, .nili]) rfl).2 rfl, _, _, rfl⟩
    | false =>
      rw [hf] at r8
      simp only [a141_15, a141_16, wpc_draw, s3, reduceIte, Nat.reduceEqDiff, aBin, aInt, negIf, Option.some.injEq, exists_eq_left', Option.map_some, Option.bind_some, r5, r6, r8, aUn, Bool.not_false, wc_eq (atomRefused_spec _ _ _)]
      exact ⟨[.str [], .str [], errA 0 24], .tup [.str [], .str [], errA 0 24], by simp only [a141, Env.results, Option.map_some, get_put, reduceIte, Nat.reduceEqDiff], (frz_noRef (v := .tup [.str [], .str [], errA 0 24]) rfl).2 rfl, _, _, rfl⟩
  have eb : a141.body = (.seq (.ops a141_0) (.seq (.ops a141_1) (.seq (.ops a141_2) (.seq (.seq (.ops a141_3) (.block 0 (.loop a141_l8))) (.seq (.seq (.ops a141_9) (.block 2 (.loop a141_l14))) (.seq (.seq (.ops a141_15) (.cond (.t 79) (.seq (.ops a141_16) .ret) .skip)) (.seq (.ops a141_17) .ret))))))) := rfl
  rw [eb, wpc_seq]
  cases t1 : has64 s with
  | false =>
    have wcut : ∀ h, WC env 151 [.str s, .str [64]] h (fun r => r = .ret ⟨.tup [.str n, .str o, .bool false], h, .none⟩) := fun h => by rw [← t1]; exact wcut h
    simp only [a141_0, a141_1, a141_2, Slots.ofList, s3, reduceIte, Nat.reduceEqDiff, aBin, aInt, negIf, Option.some.injEq, exists_eq_left', Option.map_some, Option.bind_some, wc_eq (wcut _), aExtract, x30, x31, x32, en, aStr, aUn, aPick]
    refine rest _ false ?_ ?_ ?_ (by rw [ef]; simp [t1])
    · simp only [get_put, reduceIte, Nat.reduceEqDiff]
    · simp only [get_put, reduceIte, Nat.reduceEqDiff]
    · simp only [get_put, reduceIte, Nat.reduceEqDiff]
  | true =>
  have wcut : ∀ h, WC env 151 [.str s, .str [64]] h (fun r => r = .ret ⟨.tup [.str n, .str o, .bool true], h, .none⟩) := fun h => by rw [← t1]; exact wcut h
  cases t2 : (n == ([] : List UInt8)) with
  | true =>
    simp only [a141_0, a141_1, a141_2, Slots.ofList, s3, reduceIte, Nat.reduceEqDiff, aBin, aInt, negIf, Option.some.injEq, exists_eq_left', Option.map_some, Option.bind_some, wc_eq (wcut _), aExtract, x30, x31, x32, en, aStr, aUn, aPick, t2, Bool.not_true]
    refine rest _ false ?_ ?_ ?_ (by rw [ef]; simp [t1, t2])
    · simp only [get_put, reduceIte, Nat.reduceEqDiff]
    · simp only [get_put, reduceIte, Nat.reduceEqDiff]
    · simp only [get_put, reduceIte, Nat.reduceEqDiff]
  | false =>
  cases t3 : (o == ([] : List UInt8)) with
  | true =>
    simp only [a141_0, a141_1, a141_2, Slots.ofList, s3, reduceIte, Nat.reduceEqDiff, aBin, aInt, negIf, Option.some.injEq, exists_eq_left', Option.map_some, Option.bind_some, wc_eq (wcut _), aExtract, x30, x31, x32, en, aStr, aUn, aPick, t2, t3, Bool.not_true, Bool.not_false]
    refine rest _ false ?_ ?_ ?_ (by rw [ef]; simp [t1, t2, t3])
    · simp only [get_put, reduceIte, Nat.reduceEqDiff]
    · simp only [get_put, reduceIte, Nat.reduceEqDiff]
    · simp only [get_put, reduceIte, Nat.reduceEqDiff]
  | false =>
  by_cases t4 : s.length ≤ 64
  case neg =>
    have z4 : ((s.length : Int) ≤ 64) = False := eq_false (by omega)
    simp only [a141_0, a141_1, a141_2, Slots.ofList, s3, reduceIte, Nat.reduceEqDiff, aBin, aInt, negIf, Option.some.injEq, exists_eq_left', Option.map_some, Option.bind_some, wc_eq (wcut _), aExtract, x30, x31, x32, en, aStr, aUn, aPick, t2, t3, z4, Bool.not_false]
    refine rest _ false ?_ ?_ ?_ (by rw [ef]; simp [t1, t2, t3, t4])
    · simp only [get_put, reduceIte, Nat.reduceEqDiff]
    · simp only [get_put, reduceIte, Nat.reduceEqDiff]
    · simp only [get_put, reduceIte, Nat.reduceEqDiff]
  have z4 : ((s.length : Int) ≤ 64) = True := eq_true (by omega)
  cases t5 : has64 o with
  | true =>
    have wc5 : ∀ h, WC env 152 [.str o, .str [64]] h (fun r => r = .ret ⟨.bool true, h, .none⟩) := fun h => by rw [← t5]; exact contains_spec o h
    simp only [a141_0, a141_1, a141_2, Slots.ofList, s3, reduceIte, Nat.reduceEqDiff, aBin, aInt, negIf, Option.some.injEq, exists_eq_left', Option.map_some, Option.bind_some, wc_eq (wcut _), aExtract, x30, x31, x32, en, aStr, aUn, aPick, t2, t3, z4, Bool.not_true, Bool.not_false, wc_eq (wc5 _)]
    refine rest _ false ?_ ?_ ?_ (by rw [ef]; simp [t1, t2, t3, t4, t5])
    · simp only [get_put, reduceIte, Nat.reduceEqDiff]
    · simp only [get_put, reduceIte, Nat.reduceEqDiff]
    · simp only [get_put, reduceIte, Nat.reduceEqDiff]
  | false =>
    have wc5 : ∀ h, WC env 152 [.str o, .str [64]] h (fun r => r = .ret ⟨.bool false, h, .none⟩) := fun h => by rw [← t5]; exact contains_spec o h
    simp only [a141_0, a141_1, a141_2, Slots.ofList, s3, reduceIte, Nat.reduceEqDiff, aBin, aInt, negIf, Option.some.injEq, exists_eq_left', Option.map_some, Option.bind_some, wc_eq (wcut _), aExtract, x30, x31, x32, en, aStr, aUn, aPick, t2, t3, z4, Bool.not_false, wc_eq (wc5 _)]
    refine rest _ true ?_ ?_ ?_ (by rw [ef]; simp [t1, t2, t3, t4, t5])
    · simp only [get_put, reduceIte, Nat.reduceEqDiff]
    · simp only [get_put, reduceIte, Nat.reduceEqDiff]
    · simp only [get_put, reduceIte, Nat.reduceEqDiff]
end Go.Bf

set_option linter.unusedVariables false
set_option linter.unusedSimpArgs false
set_option maxRecDepth 20000
namespace Go.Bf
open Go.AM
/-- a term: kind, number, text, creation, numbers, parts; of the two slices: are they nil, is there room behind them? -/
inductive Tm where
  | mk (k i : Int) (s : List UInt8) (c : Int) (nf : Option Bool) (ns : List Int) (af : Option Bool) (ar : List Tm)
def slAV : Option Bool → Nat → List AV → AV
  | none, 0, _ => .nils
  | none, n + 1, cs => .fs false (n + 1) cs
  | some b, n, cs => .fs b n cs
def u32s (l : List Int) : List AV := l.map (.int .u32)
mutual
def tc : Tm → List AV
  | .mk k i s c nf ns af ar => [.int .i64 k, .int .i64 i, .str s, .int .u32 c, slAV nf ns.length (u32s ns), slAV af ar.length (tcs ar)]
def tcs : List Tm → List AV
  | [] => []
  | t :: l => tc t ++ tcs l
end
namespace Tm
def kind : Tm → Int | mk k _ _ _ _ _ _ _ => k
def args : Tm → List Tm | mk _ _ _ _ _ _ _ ar => ar
def text : Tm → List UInt8 | mk _ _ s _ _ _ _ _ => s
end Tm
theorem tc_length (t : Tm) : (tc t).length = 6 := by cases t; simp [tc]
theorem tcs_length : ∀ l : List Tm, (tcs l).length = l.length * 6
  | [] => rfl
  | t :: l => by rw [tcs, List.length_append, tc_length, tcs_length l, List.length_cons]; omega
theorem tcs_drop : ∀ (l : List Tm) (i : Nat) (hi : i < l.length), (tcs l).drop (i * 6) = tc l[i] ++ tcs (l.drop (i + 1))
  | [], i, h => by simp at h
  | t :: l, 0, h => by simp [tcs]
  | t :: l, i + 1, h => by
    have e : (i + 1) * 6 = (tc t).length + i * 6 := by rw [tc_length]; omega
    rw [tcs, e, List.drop_append, List.drop_of_length_le (by omega), List.nil_append, Nat.add_sub_cancel_left, tcs_drop l i (by simpa using h)]
    simp
theorem tc_take (t : Tm) (l : List AV) : (tc t ++ l).take 6 = tc t := by
  rw [List.take_append_of_le_length (by rw [tc_length]; exact Nat.le_refl _), List.take_of_length_le (by rw [tc_length]; exact Nat.le_refl _)]
theorem len_sl (f : Option Bool) (n : Nat) (cs : List AV) (hf : f = none → True) (h : Heap) : aLenOp false h (slAV f n cs) = some ⟨.int .i64 n, h, .none⟩ := by
  cases f with
  | none => cases n <;> rfl
  | some b => rfl
theorem aIndex_nat {kd : IntKind} {n i : Nat} (hi : i < n) : aIndex n (.int kd i) = some i := by
  simp only [aIndex]
  rw [if_pos ⟨by omega, by omega⟩]; rfl
theorem idx_args {f : Option Bool} {l : List Tm} {i : Nat} (hi : i < l.length) : aIdxAddr 6 (slAV f l.length (tcs l)) (.int .i64 i) = some (.fp ((tcs l).drop (i * 6))) := by
  have hl := tcs_length l
  have go : ∀ b, aIdxAddr 6 (.fs b l.length (tcs l)) (.int .i64 i) = some (.fp ((tcs l).drop (i * 6))) := by
    intro b
    cases e : tcs l with
    | nil => rw [e] at hl; simp at hl; omega
    | cons c cs =>
      simp only [aIdxAddr, aIndex_nat (kd := .i64) hi, Option.map_some]
  cases f with
  | none =>
    cases n : l.length with
    | zero => omega
    | succ n => have := go false; rw [n] at this; exact this
  | some b => exact go b
theorem ld_args {l : List Tm} {i : Nat} (hi : i < l.length) (h : Heap) : aLoad h true 6 (.fp ((tcs l).drop (i * 6))) = some ⟨.agg (tc l[i]), h, .none⟩ := by
  rw [tcs_drop l i hi]
  cases l[i] with
  | mk k i s c nf ns af ar => rfl
theorem ld_arg0 {l : List Tm} {i : Nat} (hi : i < l.length) (h : Heap) : aLoad h false 1 (.fp ((tcs l).drop (i * 6))) = some ⟨.int .i64 (l[i]).kind, h, .none⟩ := by
  rw [tcs_drop l i hi]
  cases l[i] with
  | mk k i s c nf ns af ar => rfl
def emptyF : Tm → Bool → Bool → Bool → Bool
  | .mk k i s c _ ns _ ar, bt, bn, ba => (bt || s == []) && (bn || (ns.length == 0 && c == 0)) && (ba || ar.length == 0) && (k == 1 || i == 0)
theorem noRefs_append : ∀ (a b : List AV), AV.noRefs (a ++ b) = (AV.noRefs a && AV.noRefs b)
  | [], b => by simp [AV.noRefs]
  | x :: a, b => by simp [AV.noRefs, noRefs_append a b, Bool.and_assoc]
theorem noRefs_u32 : ∀ l : List Int, AV.noRefs (u32s l) = true
  | [] => rfl
  | x :: l => by simp only [u32s, List.map_cons, AV.noRefs, AV.noRef, Bool.true_and]; exact noRefs_u32 l
theorem noRef_sl (f : Option Bool) (n : Nat) {cs : List AV} (hc : AV.noRefs cs = true) : (slAV f n cs).noRef = true := by
  cases f with
  | none => cases n with
    | zero => rfl
    | succ n => exact hc
  | some b => exact hc
mutual
theorem noRef_tc : ∀ t : Tm, AV.noRefs (tc t) = true
  | .mk k i s c nf ns af ar => by
    simp only [tc, AV.noRefs, AV.noRef, Bool.true_and, Bool.and_true, noRef_sl nf _ (noRefs_u32 ns), noRef_sl af _ (noRef_tcs ar)]
theorem noRef_tcs : ∀ l : List Tm, AV.noRefs (tcs l) = true
  | [] => rfl
  | t :: l => by rw [tcs, noRefs_append, noRef_tc t, noRef_tcs l]; rfl
end
theorem noRef_agg (t : Tm) : (AV.agg (tc t)).noRef = true := noRef_tc t
/-- a function without a loop, run by itself -/
theorem pure_run {n f : Nat} {fn : AFunc} {args : List AV} {h : Heap} {v : AV} (hp : env.prim f = none) (hf : env.func f = some fn) (hu : env.pure_ f = true) (hr : AV.noRefs args = true) (hv : v.noRef = true)
    (hb : (env.body (env.call (n + 1)) (n + 1) fn args .empty).bind (fun | .ret r => some r.v | _ => none) = some v) : WC env f args h (fun o => o = .ret ⟨v, h, .none⟩) := by
  refine wc_run (n := n + 2) ?_
  show (match env.prim f with | some p => _ | none => _) = _
  rw [hp]
  show (env.func f).bind _ = _
  rw [hf]
  show (match env.pure_ f with | true => _ | false => _) = _
  rw [hu]
  show (match AV.noRefs args with | true => _ | false => _) = _
  rw [hr]
  show (env.body (env.call (n + 1)) (n + 1) fn args .empty).bind _ = _
  cases e : env.body (env.call (n + 1)) (n + 1) fn args .empty with
  | none => rw [e] at hb; cases hb
  | some o =>
    rw [e] at hb
    cases o with
    | panic v' h' => cases hb
    | ret r =>
      have hb : r.v = v := Option.some.inj hb
      show (Go.AM.freeze r.h (n + 1) r.v).map _ = _
      rw [hb]
      show (match v.noRef with | true => some v | false => _).map _ = _
      rw [hv]; rfl
inductive SlF : AV → Nat → Prop
  | nils : SlF .nils 0
  | fs (b : Bool) (n : Nat) (cs : List AV) : SlF (.fs b n cs) n
theorem slF (f : Option Bool) (n : Nat) (cs : List AV) : SlF (slAV f n cs) n := by
  cases f with
  | none => cases n with
    | zero => exact .nils
    | succ n => exact .fs _ _ _
  | some b => exact .fs _ _ _
inductive I0 : Int → Prop
  | z : I0 0
  | p (n : Nat) : I0 (Int.ofNat (n + 1))
  | m (n : Nat) : I0 (Int.negSucc n)
theorem i0 (x : Int) : I0 x := by
  rcases x with n | n
  · cases n with
    | zero => exact .z
    | succ n => exact .p n
  · exact .m n
inductive I1 : Int → Prop
  | o : I1 1
  | z : I1 0
  | p (n : Nat) : I1 (Int.ofNat (n + 2))
  | m (n : Nat) : I1 (Int.negSucc n)
theorem i1 (x : Int) : I1 x := by
  rcases x with n | n
  · match n with
    | 0 => exact .z
    | 1 => exact .o
    | n + 2 => exact .p n
  · exact .m n
/-- the answer of a body that is run -/
def ran (fn : AFunc) (args : List AV) : Option AV := (env.body (env.call 30) 30 fn args .empty).bind (fun | .ret r => some r.v | _ => none)
/-- a slice of no length, of any -/
inductive S0 : AV → Prop
  | nils : S0 .nils
  | fs (b : Bool) (cs : List AV) : S0 (.fs b 0 cs)
inductive SN : AV → Prop
  | nils : SN .nils
  | fs (b : Bool) (n : Nat) (cs : List AV) : SN (.fs b n cs)
theorem SlF.zero {v : AV} (h : SlF v 0) : S0 v := by cases h; exact .nils; exact .fs _ _
theorem SlF.any {v : AV} {n : Nat} (h : SlF v n) : SN v := by cases h; exact .nils; exact .fs _ _ _
theorem SlF.succ {v : AV} {n : Nat} (h : SlF v (n + 1)) : ∃ b cs, v = .fs b (n + 1) cs := by cases h; exact ⟨_, _, rfl⟩
section
variable {bt bn ba : Bool} {s : List UInt8} {nv av : AV} {c k i : Int}
def eargs (k i : Int) (s : List UInt8) (c : Int) (nv av : AV) (bt bn ba : Bool) : List AV := [.agg [.int .i64 k, .int .i64 i, .str s, .int .u32 c, nv, av], .bool bt, .bool bn, .bool ba]
theorem empty_s {b : UInt8} {l : List UInt8} (hn : SN nv) (ha : SN av) : ran a139 (eargs k i (b :: l) c nv av false bn ba) = some (.bool false) := by
  cases hn <;> cases ha <;> kernel_rfl
theorem empty_n1 (hs : bt = true ∨ bt = false ∧ s = []) {b : Bool} {n : Nat} {cs : List AV} (ha : SN av) : ran a139 (eargs k i s c (.fs b (n + 1) cs) av bt false ba) = some (.bool false) := by
  rcases hs with rfl | ⟨rfl, rfl⟩ <;> cases ha <;> kernel_rfl
theorem empty_n2 (hs : bt = true ∨ bt = false ∧ s = []) (hn : S0 nv) (hc : c ≠ 0) (ha : SN av) : ran a139 (eargs k i s c nv av bt false ba) = some (.bool false) := by
  rcases hs with rfl | ⟨rfl, rfl⟩ <;> cases hn <;> cases ha <;> (cases i0 c with
    | z => exact absurd rfl hc
    | p n => kernel_rfl
    | m n => kernel_rfl)
theorem empty_a1 (hs : bt = true ∨ bt = false ∧ s = []) (hn : bn = true ∧ SN nv ∨ bn = false ∧ c = 0 ∧ S0 nv) {b : Bool} {n : Nat} {cs : List AV} : ran a139 (eargs k i s c nv (.fs b (n + 1) cs) bt bn false) = some (.bool false) := by
  rcases hs with rfl | ⟨rfl, rfl⟩ <;> rcases hn with ⟨rfl, hn⟩ | ⟨rfl, rfl, hn⟩ <;> cases hn <;> kernel_rfl
theorem empty_d (hs : bt = true ∨ bt = false ∧ s = []) (hn : bn = true ∧ SN nv ∨ bn = false ∧ c = 0 ∧ S0 nv) (ha : ba = true ∧ SN av ∨ ba = false ∧ S0 av) :
    ran a139 (eargs k i s c nv av bt bn ba) = some (.bool (k == 1 || i == 0)) := by
  rcases hs with rfl | ⟨rfl, rfl⟩ <;> rcases hn with ⟨rfl, hn⟩ | ⟨rfl, rfl, hn⟩ <;> cases hn <;> rcases ha with ⟨rfl, ha⟩ | ⟨rfl, ha⟩ <;> cases ha
  all_goals cases i1 k with
    | o => kernel_rfl
    | z => cases i0 i <;> kernel_rfl
    | p n => cases i0 i <;> kernel_rfl
    | m n => cases i0 i <;> kernel_rfl
end
theorem empty_ran (t : Tm) (bt bn ba : Bool) : ran a139 [.agg (tc t), .bool bt, .bool bn, .bool ba] = some (.bool (emptyF t bt bn ba)) := by
  rcases t with ⟨k, i, s, c, nf, ns, af, ar⟩
  have hn := slF nf ns.length (u32s ns)
  have ha := slF af ar.length (tcs ar)
  show ran a139 (eargs k i s c (slAV nf ns.length (u32s ns)) (slAV af ar.length (tcs ar)) bt bn ba) = _
  generalize slAV nf ns.length (u32s ns) = nv at *
  generalize slAV af ar.length (tcs ar) = av at *
  by_cases hs : bt = true ∨ s = []
  · have es : (bt || s == []) = true := by rcases hs with rfl | rfl <;> simp
    have hs : bt = true ∨ bt = false ∧ s = [] := by
      rcases hs with h | h
      · exact .inl h
      · cases bt
        · exact .inr ⟨rfl, h⟩
        · exact .inl rfl
    by_cases hq : bn = true ∨ (ns = [] ∧ c = 0)
    · have en : (bn || (ns.length == 0 && c == 0)) = true := by rcases hq with rfl | ⟨rfl, rfl⟩ <;> simp
      have gn : bn = true ∧ SN nv ∨ bn = false ∧ c = 0 ∧ S0 nv := by
        cases bn with
        | true => exact .inl ⟨rfl, hn.any⟩
        | false =>
          rcases hq with h | ⟨rfl, h⟩
          · cases h
          · exact .inr ⟨rfl, h, hn.zero⟩
      by_cases hr : ba = true ∨ ar = []
      · have er : (ba || ar.length == 0) = true := by rcases hr with rfl | rfl <;> simp
        have ga : ba = true ∧ SN av ∨ ba = false ∧ S0 av := by
          cases ba with
          | true => exact .inl ⟨rfl, ha.any⟩
          | false =>
            rcases hr with h | rfl
            · cases h
            · exact .inr ⟨rfl, ha.zero⟩
        rw [empty_d hs gn ga, emptyF, es, en, er]; rfl
      · have : ba = false ∧ ar ≠ [] := ⟨by cases ba; rfl; exact absurd (.inl rfl) hr, fun e => hr (.inr e)⟩
        obtain ⟨rfl, h2⟩ := this
        cases ar with
        | nil => exact absurd rfl h2
        | cons a l =>
          obtain ⟨b, cs, rfl⟩ := SlF.succ (n := l.length) ha
          rw [empty_a1 hs gn]
          simp [emptyF]
    · have hb : bn = false := by cases bn; rfl; exact absurd (.inl rfl) hq
      subst hb
      cases ns with
      | cons a l =>
        obtain ⟨b, cs, rfl⟩ := SlF.succ (n := l.length) hn
        rw [empty_n1 hs ha.any]
        simp [emptyF]
      | nil =>
        have hc : c ≠ 0 := fun e => hq (.inr ⟨rfl, e⟩)
        rw [empty_n2 hs hn.zero hc ha.any]
        simp [emptyF, hc]
  · have hb : bt = false := by cases bt; rfl; exact absurd (.inl rfl) hs
    subst hb
    cases s with
    | nil => exact absurd (.inr rfl) hs
    | cons b l =>
      rw [empty_s hn.any ha.any]
      simp [emptyF]
theorem empty_spec (t : Tm) (bt bn ba : Bool) (h : Heap) : WC env 139 [.agg (tc t), .bool bt, .bool bn, .bool ba] h (fun o => o = .ret ⟨.bool (emptyF t bt bn ba), h, .none⟩) :=
  pure_run (n := 29) rfl rfl rfl (by simp only [AV.noRefs, AV.noRef, noRef_tc, Bool.and_self, Bool.true_and]) rfl (empty_ran t bt bn ba)
end Go.Bf

set_option linter.unusedVariables false
set_option linter.unusedSimpArgs false
set_option maxRecDepth 20000
namespace Go.Bf
open Go.AM
def I64 (x : Int) : Prop := -9223372036854775808 ≤ x ∧ x ≤ 9223372036854775807
def U32 (x : Int) : Prop := 0 ≤ x ∧ x ≤ 4294967295
mutual
def Tm.Ok : Tm → Prop
  | .mk k i s c nf ns af ar => I64 k ∧ I64 i ∧ U32 c ∧ (∀ x, x ∈ ns → U32 x) ∧ (s.length < 9223372036854775808 ∧ ns.length < 9223372036854775808 ∧ ar.length < 9223372036854775808 ∧ Oks ar)
def Oks : List Tm → Prop
  | [] => True
  | t :: l => t.Ok ∧ Oks l
end
theorem Tm.Ok.lens {k i : Int} {s : List UInt8} {c : Int} {nf : Option Bool} {ns : List Int} {af : Option Bool} {ar : List Tm} (h : Tm.Ok (.mk k i s c nf ns af ar)) : s.length < 9223372036854775808 ∧ ns.length < 9223372036854775808 ∧ ar.length < 9223372036854775808 ∧ Oks ar := by
  rw [Tm.Ok] at h; exact h.2.2.2.2
theorem Oks.get : ∀ {l : List Tm} (h : Oks l) {t : Tm}, t ∈ l → t.Ok
  | [], h, t, m => by simp at m
  | u :: l, h, t, m => by
    rw [Oks] at h
    rcases List.mem_cons.1 m with rfl | m
    · exact h.1
    · exact Oks.get h.2 m
theorem wc_ex2 {f : Nat} {args : List AV} {h : Heap} {α β : Type} {r : α → β → COut} (w : WC env f args h (fun o => ∃ a b, o = r a b)) : ∃ a b, WC env f args h (fun o => o = r a b) := by
  obtain ⟨o, h1, a, b, h2⟩ := w
  exact ⟨a, b, o, h1, h2⟩
theorem aEq_errA (p c : Int) : aEq (.iface true) (errA p c) .nili = some false := rfl
theorem fa0 {cs : List AV} : aFieldAddr 0 (.fp cs) = some (.fp (cs.drop 0)) := rfl
/-- the fault of a lower layer: place and number -/
abbrev Und := Option (Int × Int)
def undAV : Und → AV
  | none => .nili
  | some (p, c) => errA p c
def errT (at_ code : Int) (u : Und) : AV := .ifc 69 (.fp [.str [116, 101, 114, 109], .int .i64 at_, .int .i64 code, undAV u])
theorem tfault_nil (a c : Int) (h : Heap) : WC env 129 [.int .i64 a, .int .i64 c, .nili] h (fun o => o = .ret ⟨errT a c none, h, .none⟩) := wc_run (n := 30) (by kernel_rfl)
theorem tfault_err (a c p d : Int) (h : Heap) : WC env 129 [.int .i64 a, .int .i64 c, errA p d] h (fun o => o = .ret ⟨errT a c (some (p, d)), h, .none⟩) := wc_run (n := 30) (by kernel_rfl)
theorem tcode_err (p d : Int) (h : Heap) : WC env 142 [errA p d] h (fun o => o = .ret ⟨.int .i64 d, h, .none⟩) := wc_run (n := 30) (by kernel_rfl)
def lastNot7 : List Tm → Bool
  | [] => true
  | [t] => t.kind != 7
  | _ :: l => lastNot7 l
def kindOk : Tm → Bool
  | t@(.mk k _ _ _ _ ns _ ar) =>
    if k = 1 then emptyF t false false false
    else if k = 2 then emptyF t true false false
    else if k = 3 then emptyF t true true false && ns.length == 3
    else if k = 4 then emptyF t true true false && ns.length == 2
    else if k = 5 then emptyF t false false true
    else if k = 6 then emptyF t false false false
    else if k = 7 then emptyF t false false true && decide (ar.length ≥ 2) && lastNot7 ar
    else false
/-- the number of a part's fault, and what is under it -/
def formF : Tm → Option (Int × Und)
  | t@(.mk k i s _ _ _ _ _) =>
    if kindOk t = false then some (40, none)
    else if k = 1 then if i < -576460752303423488 ∨ i > 576460752303423487 then some (2, none) else none
    else if k = 2 then match quoteErr s with
      | some (p, c) => some (c, some (p, c))
      | none => none
    else if k = 3 ∨ k = 4 then if nodeF s then none else some (24, some (0, 24))
    else none
def formAV (at_ : Int) : Option (Int × Und) → AV
  | none => .nili
  | some (c, u) => errT at_ c u
theorem noRef_form (a : Int) (x : Option (Int × Und)) : (formAV a x).noRef = true := by
  rcases x with _ | ⟨c, _ | ⟨p, d⟩⟩ <;> rfl
theorem lastNot7_get : ∀ (l : List Tm) (h : l.length - 1 < l.length), lastNot7 l = (l[l.length - 1].kind != 7)
  | [], h => by simp at h
  | [t], h => rfl
  | t :: u :: l, h => by
    have := lastNot7_get (u :: l) (by simp)
    rw [lastNot7, this]
    · simp
    · simp
end Go.Bf

set_option linter.unusedVariables false
set_option linter.unusedSimpArgs false
set_option maxRecDepth 20000
namespace Go.Bf
open Go.AM
theorem wrap_id {v : Int} (h : -9223372036854775808 ≤ v ∧ v < 9223372036854775808) : IntKind.wrap .i64 v = v := by
  show (if (true && decide (v % 18446744073709551616 ≥ 9223372036854775808)) = true then v % 18446744073709551616 - 18446744073709551616 else v % 18446744073709551616) = v
  split
  · rename_i c
    simp only [Bool.true_and, decide_eq_true_eq] at c
    omega
  · rename_i c
    simp only [Bool.true_and, decide_eq_true_eq] at c
    omega
def two (x y : Int) : AV := .fs true 2 (ti x ++ ti y)
end Go.Bf

set_option linter.unusedVariables false
set_option linter.unusedSimpArgs false
set_option maxRecDepth 20000
namespace Go.Bf
open Go.AM
def errB (c : Int) : AV := .ifc 69 (.fp [.str [98, 105, 102], .int .i64 0, .int .i64 c, .nili])
theorem refused_spec (c : Int) (h : Heap) : WC env 35 [.int .i64 0, .int .i64 c] h (fun o => o = .ret ⟨errB c, h, .none⟩) := wc_run (n := 30) (by kernel_rfl)
section
variable {name : List UInt8} {x y : Int} {a b c d : AV}
end
theorem back {x y : Int} (hy : y ≠ 0) : x.tdiv y * y + x.tmod y = x := by
  rw [Int.tmod_def, Int.mul_comm y]
  generalize x.tdiv y * y = q
  omega
end Go.Bf

set_option linter.unusedVariables false
set_option linter.unusedSimpArgs false
set_option maxRecDepth 20000
namespace Go.Bf
open Go.AM
theorem pureB {s : St} {n : Nat} {x : Bool} {h : Heap} {Q : COut → Prop} (hg : s.σ.get n = .bool x) (hq : Q (.ret ⟨.bool x, h, .none⟩)) : pureQ env [.tmp n] h Q .ret s :=
  ⟨[.bool x], .bool x, by simp only [Env.results, Option.map_some, hg], (frz_noRef (v := .bool x) rfl).2 rfl, hq⟩
theorem pureI {s : St} {n : Nat} {x : Int} {h : Heap} {Q : COut → Prop} (hg : s.σ.get n = .int .i64 x) (hq : Q (.ret ⟨.int .i64 x, h, .none⟩)) : pureQ env [.tmp n] h Q .ret s :=
  ⟨[.int .i64 x], .int .i64 x, by simp only [Env.results, Option.map_some, hg], (frz_noRef (v := .int .i64 x) rfl).2 rfl, hq⟩
def smallB (c : UInt8) : Bool := decide (97 ≤ c.toNat) && decide (c.toNat ≤ 122)
def inWB (c : UInt8) : Bool := kindF (c.toNat : Int) != 0
def tab121 (n : Nat) : Bool := match ran a121 [.int .u8 (n : Int)] with | some (.bool b) => b == (decide (97 ≤ n) && decide (n ≤ 122)) | _ => false
def tab87 (n : Nat) : Bool := match ran a87 [.int .u8 (n : Int)] with | some (.bool b) => b == (kindF (n : Int) != 0) | _ => false
theorem all121 : (List.range 256).all tab121 = true := by kernel_rfl
theorem all87 : (List.range 256).all tab87 = true := by kernel_rfl
theorem small_spec (c : UInt8) (h : Heap) : WC env 121 [.int .u8 (c.toNat : Int)] h (fun o => o = .ret ⟨.bool (smallB c), h, .none⟩) := by
  have := List.all_eq_true.1 all121 c.toNat (List.mem_range.2 c.toNat_lt)
  unfold tab121 at this
  split at this
  · rename_i b e
    have hb : b = smallB c := by simpa [smallB] using this
    exact pure_run (n := 29) rfl rfl rfl rfl rfl (by rw [← hb]; exact e)
  · cases this
theorem inW_spec (c : UInt8) (h : Heap) : WC env 87 [.int .u8 (c.toNat : Int)] h (fun o => o = .ret ⟨.bool (inWB c), h, .none⟩) := by
  have := List.all_eq_true.1 all87 c.toNat (List.mem_range.2 c.toNat_lt)
  unfold tab87 at this
  split at this
  · rename_i b e
    have hb : b = inWB c := by simpa [inWB] using this
    exact pure_run (n := 29) rfl rfl rfl rfl rfl (by rw [← hb]; exact e)
  · cases this
def words : List (List UInt8) := [[97, 102, 116, 101, 114], [97, 110, 100], [97, 110, 100, 97, 108, 115, 111], [98, 101, 103, 105, 110], [99, 97, 115, 101], [99, 97, 116, 99, 104], [100, 105, 118], [101, 110, 100], [102, 117, 110], [105, 102], [110, 111, 116], [111, 102], [111, 114], [111, 114, 101, 108, 115, 101], [114, 101, 99, 101, 105, 118, 101], [114, 101, 109], [116, 114, 121], [119, 104, 101, 110], [120, 111, 114]]
theorem strs_idx {ws : List (List UInt8)} {i : Nat} (hi : i < ws.length) : aIdxAddr 1 (.fs true ws.length (ws.map .str)) (.int .i64 i) = some (.fp ((ws.map AV.str).drop i)) := by
  cases ws with
  | nil => simp at hi
  | cons w ws =>
    simp only [List.map_cons, aIdxAddr, aIndex_nat (kd := .i64) hi, Option.map_some, Nat.mul_one]
theorem strs_ld {ws : List (List UInt8)} {i : Nat} (hi : i < ws.length) (h : Heap) : aLoad h false 1 (.fp ((ws.map AV.str).drop i)) = some ⟨.str ws[i], h, .none⟩ := by
  have : (ws.map AV.str).drop i = .str ws[i] :: (ws.drop (i + 1)).map AV.str := by
    rw [List.drop_eq_getElem_cons (by simpa using hi)]
    simp
  rw [this]; rfl
theorem res_loop {s : List UInt8} {ws : List (List UInt8)} (hw : ws.length < 1000) {h : Heap} {Q : AExit → St → Prop} : ∀ (f i : Nat) (σ : Slots), ws.length - i < f → i ≤ ws.length → σ.get 0 = .str s → σ.get 3 = .fs true ws.length (ws.map .str) → σ.get 4 = .int .i64 i →
    (∀ σ', (σ'.get 2 = .bool true → (ws.drop i).contains s = true → Q .ret ⟨σ', h⟩) ∧ ((ws.drop i).contains s = false → Q (.exit 0) ⟨σ', h⟩)) → WPr env a122_l7 ⟨σ, h⟩ Q := by
  intro f
  induction f with
  | zero => intro i σ h1; omega
  | succ f ih =>
    intro i σ hf hi g0 g3 g4 hQ
    refine wpr_round' fun b hb => ?_
    have nl : ∀ h, aLenOp false h (.fs true ws.length (ws.map .str)) = some ⟨.int .i64 ws.length, h, .none⟩ := fun h => rfl
    by_cases c1 : i < ws.length
    · have z0 : ((i : Int) < (ws.length : Int)) = True := eq_true (by omega)
      have zi : IntKind.wrap .i64 ((i : Int) + 1) = ((i + 1 : Nat) : Int) := wrap_nat (by omega) (by omega)
      have hd : ws.drop i = ws[i] :: ws.drop (i + 1) := List.drop_eq_getElem_cons c1
      rw [hd, List.contains_cons] at hQ
      cases z1 : (ws[i] == s) with
      | true =>
        have z2 : (s == ws[i]) = true := by have := eq_of_beq z1; simp [this]
        rw [z2, Bool.true_or] at hQ
        simp only [a122_l7, a122_3, a122_4, a122_5, wpc_draw, s3, reduceIte, Nat.reduceEqDiff, aBin, aInt, negIf, Option.some.injEq, exists_eq_left', Option.map_some, Option.bind_some, g0, g3, g4, nl, z0, strs_idx c1, strs_ld c1, aStr, z1]
        exact (hQ _).1 (by simp only [get_put, reduceIte, Nat.reduceEqDiff]) rfl
      | false =>
        have z2 : (s == ws[i]) = false := by
          cases e : (s == ws[i]) with
          | false => rfl
          | true => have := eq_of_beq e; rw [← this] at z1; simp at z1
        rw [z2, Bool.false_or] at hQ
        simp only [a122_l7, a122_3, a122_4, a122_6, wpc_draw, s3, reduceIte, Nat.reduceEqDiff, aBin, aInt, negIf, Option.some.injEq, exists_eq_left', Option.map_some, Option.bind_some, g0, g3, g4, nl, z0, strs_idx c1, strs_ld c1, aStr, z1, zi]
        subst hb
        refine ih (i + 1) _ (by omega) (by omega) ?_ ?_ ?_ hQ
        · simp only [get_put, reduceIte, Nat.reduceEqDiff, g0]
        · simp only [get_put, reduceIte, Nat.reduceEqDiff, g3]
        · simp only [get_put, reduceIte, Nat.reduceEqDiff]
    · have z0 : ((i : Int) < (ws.length : Int)) = False := eq_false (by omega)
      simp only [a122_l7, a122_3, wpc_draw, s3, reduceIte, Nat.reduceEqDiff, aBin, aInt, negIf, Option.some.injEq, exists_eq_left', Option.map_some, Option.bind_some, g3, g4, nl, z0]
      exact (hQ _).2 (by rw [List.drop_of_length_le (by omega)]; rfl)
theorem rreserved_spec (s : List UInt8) (h : Heap) : WC env 122 [.str s] h (fun o => o = .ret ⟨.bool (words.contains s), h, .none⟩) := by
  refine call_pure rfl rfl rfl rfl ?_
  obtain ⟨h0, eh⟩ : ∃ h0 : List AV × List (Nat × Nat × AV), h0 = ([(.str []), (.str []), (.str []), (.str []), (.str []), (.str []), (.str []), (.str []), (.str []), (.str []), (.str []), (.str []), (.str []), (.str []), (.str []), (.str []), (.str []), (.str []), (.str [])], [(0, 1, (.str [97, 102, 116, 101, 114])), (1, 1, (.str [97, 110, 100])), (2, 1, (.str [97, 110, 100, 97, 108, 115, 111])), (3, 1, (.str [98, 101, 103, 105, 110])), (4, 1, (.str [99, 97, 115, 101])), (5, 1, (.str [99, 97, 116, 99, 104])), (6, 1, (.str [100, 105, 118])), (7, 1, (.str [101, 110, 100])), (8, 1, (.str [102, 117, 110])), (9, 1, (.str [105, 102])), (10, 1, (.str [110, 111, 116])), (11, 1, (.str [111, 102])), (12, 1, (.str [111, 114])), (13, 1, (.str [111, 114, 101, 108, 115, 101])), (14, 1, (.str [114, 101, 99, 101, 105, 118, 101])), (15, 1, (.str [114, 101, 109])), (16, 1, (.str [116, 114, 121])), (17, 1, (.str [119, 104, 101, 110])), (18, 1, (.str [120, 111, 114]))]) := ⟨_, rfl⟩
  have y1 : aFill h0.1 h0.2 = some (words.map .str) := by rw [eh]; rfl
  rw [eh] at y1
  have y2 : (words.map AV.str).length = 19 := rfl
  simp only [a122, a122_0, a122_1, a122_2, Slots.ofList, wpc_draw, s3, reduceIte, Nat.reduceEqDiff, aBin, aInt, negIf, Option.some.injEq, exists_eq_left', Option.map_some, Option.bind_some, y1, y2, Nat.mul_one]
  refine res_loop (s := s) (ws := words) (by decide) 20 0 _ (by decide) (by decide) ?_ ?_ ?_ fun σ' => ⟨fun g e => ?_, fun e => ?_⟩
  · simp only [get_put, reduceIte, Nat.reduceEqDiff]
  · simp only [get_put, reduceIte, Nat.reduceEqDiff]; rfl
  · simp only [get_put, reduceIte, Nat.reduceEqDiff]; rfl
  · simp only [wpc_draw, s3, reduceIte, Nat.reduceEqDiff, aBin, aInt, negIf, Option.some.injEq, exists_eq_left', Option.map_some, Option.bind_some]
    exact pureB g (by rw [List.drop_zero] at e; rw [e])
  · rw [List.drop_zero] at e
    simp only [a122_8, wpc_draw, s3, reduceIte, Nat.reduceEqDiff, aBin, aInt, negIf, Option.some.injEq, exists_eq_left', Option.map_some, Option.bind_some]
    exact pureB (by simp only [get_put, reduceIte, Nat.reduceEqDiff]; rw [e]) rfl
theorem plain_loop {s : List UInt8} (hs : s.length < 1000000) {h : Heap} {Q : AExit → St → Prop} : ∀ (f i : Nat) (σ : Slots), s.length - i < f → i ≤ s.length → σ.get 0 = .str s → σ.get 3 = .int .i64 i →
    (∀ σ', (σ'.get 2 = .bool false → (s.drop i).all inWB = false → Q .ret ⟨σ', h⟩) ∧ ((s.drop i).all inWB = true → Q (.exit 0) ⟨σ', h⟩)) → WPr env a86_l8 ⟨σ, h⟩ Q := by
  intro f
  induction f with
  | zero => intro i σ h1; omega
  | succ f ih =>
    intro i σ hf hi g0 g3 hQ
    refine wpr_round' fun b hb => ?_
    have nl : ∀ h, aLenOp true h (.str s) = some ⟨.int .i64 s.length, h, .none⟩ := fun h => rfl
    by_cases c1 : i < s.length
    · have z0 : ((i : Int) < (s.length : Int)) = True := eq_true (by omega)
      have zi : IntKind.wrap .i64 ((i : Int) + 1) = ((i + 1 : Nat) : Int) := wrap_nat (by omega) (by omega)
      have hd : s.drop i = s[i] :: s.drop (i + 1) := List.drop_eq_getElem_cons c1
      have ix := idxS_at c1
      have wi := inW_spec s[i]
      rw [hd, List.all_cons] at hQ
      cases z1 : inWB s[i] with
      | false =>
        rw [z1] at wi
        rw [z1, Bool.false_and] at hQ
        simp only [a86_l8, a86_4, a86_5, a86_6, wpc_draw, s3, reduceIte, Nat.reduceEqDiff, aBin, aInt, negIf, Option.some.injEq, exists_eq_left', Option.map_some, Option.bind_some, wp1_idxStr, op_idxStr, g0, g3, nl, z0, ix, wc_eq (wi _), aUn, Bool.not_false]
        exact (hQ _).1 (by simp only [get_put, reduceIte, Nat.reduceEqDiff]) rfl
      | true =>
        rw [z1] at wi
        rw [z1, Bool.true_and] at hQ
        simp only [a86_l8, a86_4, a86_5, a86_7, wpc_draw, s3, reduceIte, Nat.reduceEqDiff, aBin, aInt, negIf, Option.some.injEq, exists_eq_left', Option.map_some, Option.bind_some, wp1_idxStr, op_idxStr, g0, g3, nl, z0, ix, wc_eq (wi _), aUn, Bool.not_true, zi]
        subst hb
        refine ih (i + 1) _ (by omega) (by omega) ?_ ?_ hQ
        · simp only [get_put, reduceIte, Nat.reduceEqDiff, g0]
        · simp only [get_put, reduceIte, Nat.reduceEqDiff]
    · have z0 : ((i : Int) < (s.length : Int)) = False := eq_false (by omega)
      simp only [a86_l8, a86_4, wpc_draw, s3, reduceIte, Nat.reduceEqDiff, aBin, aInt, negIf, Option.some.injEq, exists_eq_left', Option.map_some, Option.bind_some, g0, g3, nl, z0]
      exact (hQ _).2 (by rw [List.drop_of_length_le (by omega)]; rfl)
theorem rplain_spec (s : List UInt8) (hs : s.length < 1000000) : ∃ b, ∀ h, WC env 86 [.str s] h (fun o => o = .ret ⟨.bool b, h, .none⟩) := by
  cases s with
  | nil => exact ⟨false, fun h => wc_run (n := 30) (by kernel_rfl)⟩
  | cons c l =>
    have z : (c :: l == ([] : List UInt8)) = false := rfl
    have ix : idxS (.str (c :: l)) (.int .i64 0) = some (.int .u8 (c.toNat : Int)) := idxS_at (s := c :: l) (i := 0) (by simp)
    have ws := small_spec c
    have wr := rreserved_spec (c :: l)
    cases z1 : smallB c with
    | false =>
      rw [z1] at ws
      refine ⟨false, fun h => call_pure rfl rfl rfl rfl ?_⟩
      simp only [a86, a86_0, a86_1, a86_2, Slots.ofList, wpo_u, wpc_draw, s3, reduceIte, Nat.reduceEqDiff, aBin, aInt, negIf, Option.some.injEq, exists_eq_left', Option.map_some, Option.bind_some, wp1_idxStr, op_idxStr, aStr, z, ix, wc_eq (ws _), aUn, aPick, Bool.not_false]
      exact pureB (by simp only [get_put, reduceIte, Nat.reduceEqDiff]) rfl
    | true =>
    rw [z1] at ws
    cases z2 : words.contains (c :: l) with
    | true =>
      rw [z2] at wr
      refine ⟨false, fun h => call_pure rfl rfl rfl rfl ?_⟩
      simp only [a86, a86_0, a86_1, a86_2, Slots.ofList, wpo_u, wpc_draw, s3, reduceIte, Nat.reduceEqDiff, aBin, aInt, negIf, Option.some.injEq, exists_eq_left', Option.map_some, Option.bind_some, wp1_idxStr, op_idxStr, aStr, z, ix, wc_eq (ws _), wc_eq (wr _), aUn, aPick, Bool.not_true]
      exact pureB (by simp only [get_put, reduceIte, Nat.reduceEqDiff]) rfl
    | false =>
    rw [z2] at wr
    refine ⟨(c :: l).all inWB, fun h => call_pure rfl rfl rfl rfl ?_⟩
    simp only [a86, a86_0, a86_1, a86_3, Slots.ofList, wpo_u, wpc_draw, s3, reduceIte, Nat.reduceEqDiff, aBin, aInt, negIf, Option.some.injEq, exists_eq_left', Option.map_some, Option.bind_some, wp1_idxStr, op_idxStr, aStr, z, ix, wc_eq (ws _), wc_eq (wr _), aUn, aPick, Bool.not_true]
    refine plain_loop (s := c :: l) hs ((c :: l).length + 1) 0 _ (by omega) (by omega) ?_ ?_ fun σ' => ⟨fun g e => ?_, fun e => ?_⟩
    · simp only [get_put, reduceIte, Nat.reduceEqDiff]
    · simp only [get_put, reduceIte, Nat.reduceEqDiff]; rfl
    · simp only [wpc_draw, s3, reduceIte, Nat.reduceEqDiff, aBin, aInt, negIf, Option.some.injEq, exists_eq_left', Option.map_some, Option.bind_some]
      exact pureB g (by rw [List.drop_zero] at e; rw [e])
    · rw [List.drop_zero] at e
      simp only [a86_9, wpc_draw, s3, reduceIte, Nat.reduceEqDiff, aBin, aInt, negIf, Option.some.injEq, exists_eq_left', Option.map_some, Option.bind_some]
      exact pureB (by simp only [get_put, reduceIte, Nat.reduceEqDiff]; rw [e]) rfl
end Go.Bf

set_option linter.unusedVariables false
set_option linter.unusedSimpArgs false
set_option maxRecDepth 20000
namespace Go.Bf
open Go.AM
def contB (c : UInt8) : Bool := decide (128 ≤ c.toNat) && decide (c.toNat ≤ 191)
def contN (s : List UInt8) : Nat → Nat → Bool
  | _, 0 => true
  | j, m + 1 => contB (s.getD j 0) && contN s (j + 1) m
def valN (s : List UInt8) : Nat → Nat → Nat → Nat
  | _, 0, v => v
  | j, m + 1, v => valN s (j + 1) m (v * 64 + (s.getD j 0).toNat - 128)
def badN : Nat → Nat → Bool
  | 3, v => decide (v < 2048) || (decide (55296 ≤ v) && decide (v ≤ 57343))
  | 4, v => decide (v < 65536) || decide (1114111 < v)
  | _, _ => false
def restF (s : List UInt8) (i n v : Nat) : Nat := if decide (i + n ≤ s.length) && contN s (i + 1) (n - 1) && !badN n (valN s (i + 1) (n - 1) v) then n else 0
def pointF (s : List UInt8) (i : Nat) : Nat :=
  let c := (s.getD i 0).toNat
  if c < 128 then 1
  else if 194 ≤ c ∧ c ≤ 223 then restF s i 2 (c - 192)
  else if 224 ≤ c ∧ c ≤ 239 then restF s i 3 (c - 224)
  else if 240 ≤ c ∧ c ≤ 244 then restF s i 4 (c - 240)
  else 0
theorem idxS_getD {s : List UInt8} {i : Nat} (hi : i < s.length) : idxS (.str s) (.int .i64 i) = some (.int .u8 ((s.getD i 0).toNat : Int)) := by
  rw [idxS_at hi, List.getD_eq_getElem?_getD, List.getElem?_eq_getElem hi]; rfl
theorem conv_u8 {n : Nat} (hn : n < 256) (h : Heap) : aConv h (.int .i64) (.int .u8 (n : Int)) = some ⟨.int .i64 (n : Int), h, .none⟩ := by
  show some (⟨.int .i64 (IntKind.wrap .i64 (n : Int)), h, .none⟩ : OpRes) = _
  rw [wrap_nat (e := (n : Int)) rfl (by omega)]
theorem point_loop {s : List UInt8} (hs : s.length < 1000000) {i n : Nat} (hn : n ≤ 4) (hin : i + n ≤ s.length) {h : Heap} {Q : AExit → St → Prop} : ∀ (f k v : Nat) (σ : Slots), n - k < f → 1 ≤ k → k ≤ n → v < 64 ^ k → σ.get 0 = .str s → σ.get 1 = .int .i64 i → σ.get 6 = .int .i64 n → σ.get 7 = .int .i64 v → σ.get 8 = .int .i64 k →
    (∀ σ', (σ'.get 4 = .int .i64 0 → contN s (i + k) (n - k) = false → Q .ret ⟨σ', h⟩) ∧ (σ'.get 6 = .int .i64 n → σ'.get 7 = .int .i64 (valN s (i + k) (n - k) v : Nat) → contN s (i + k) (n - k) = true → Q (.exit 1) ⟨σ', h⟩)) → WPr env a120_l22 ⟨σ, h⟩ Q := by
  intro f
  induction f with
  | zero => intro k v σ h1; omega
  | succ f ih =>
    intro k v σ hf hk1 hk hv g0 g1 g6 g7 g8 hQ
    refine wpr_round' fun b hb => ?_
    by_cases c1 : k < n
    · have z0 : ((k : Int) < (n : Int)) = True := eq_true (by omega)
      have zk : IntKind.wrap .i64 ((k : Int) + 1) = ((k + 1 : Nat) : Int) := wrap_nat (by omega) (by omega)
      have zi : IntKind.wrap .i64 ((i : Int) + (k : Int)) = ((i + k : Nat) : Int) := wrap_nat (by omega) (by omega)
      have ix := idxS_getD (s := s) (i := i + k) (by omega)
      obtain ⟨c, hc⟩ : ∃ c, c = (s.getD (i + k) 0).toNat := ⟨_, rfl⟩
      have hc8 : c < 256 := by rw [hc]; exact UInt8.toNat_lt _
      obtain ⟨m, hm⟩ : ∃ m, n - k = m + 1 := ⟨n - k - 1, by omega⟩
      have hm' : n - (k + 1) = m := by omega
      rw [hm, contN, valN, ← hc] at hQ
      rw [← hc] at ix
      have cb : contB (s.getD (i + k) 0) = (decide (128 ≤ c) && decide (c ≤ 191)) := by rw [contB, ← hc]
      rw [cb] at hQ
      by_cases c2 : c < 128
      · have z2 : ((c : Int) < 128) = True := eq_true (by omega)
        rw [decide_eq_false (by omega), Bool.false_and, Bool.false_and] at hQ
        simp only [a120_l22, a120_16, a120_17, a120_18, a120_19, wpc_draw, s3, reduceIte, Nat.reduceEqDiff, aBin, aInt, negIf, Option.some.injEq, exists_eq_left', Option.map_some, Option.bind_some, wp1_idxStr, op_idxStr, g0, g1, g6, g8, z0, zi, ix, z2, aPick]
        exact (hQ _).1 (by simp only [get_put, reduceIte, Nat.reduceEqDiff]) rfl
      have z2 : ((c : Int) < 128) = False := eq_false (by omega)
      by_cases c3 : c > 191
      · have z3 : ((c : Int) > 191) = True := eq_true (by omega)
        rw [decide_eq_false (show ¬ c ≤ 191 by omega), Bool.and_false, Bool.false_and] at hQ
        simp only [a120_l22, a120_16, a120_17, a120_18, a120_19, wpc_draw, s3, reduceIte, Nat.reduceEqDiff, aBin, aInt, negIf, Option.some.injEq, exists_eq_left', Option.map_some, Option.bind_some, wp1_idxStr, op_idxStr, g0, g1, g6, g8, z0, zi, ix, z2, z3, aPick]
        exact (hQ _).1 (by simp only [get_put, reduceIte, Nat.reduceEqDiff]) rfl
      have z3 : ((c : Int) > 191) = False := eq_false (by omega)
      rw [decide_eq_true (show 128 ≤ c by omega), decide_eq_true (show c ≤ 191 by omega), Bool.true_and, Bool.true_and] at hQ
      have hp : 64 ^ k ≤ 262144 := Nat.le_trans (Nat.pow_le_pow_right (by omega) (show k ≤ 3 by omega)) (by decide)
      have hp1 : 64 ^ (k + 1) = 64 ^ k * 64 := Nat.pow_succ ..
      have w1 : IntKind.wrap .i64 ((v : Int) * 64) = ((v * 64 : Nat) : Int) := wrap_nat (by omega) (by omega)
      have w2 : IntKind.wrap .i64 (((v * 64 : Nat) : Int) + (c : Int)) = ((v * 64 + c : Nat) : Int) := wrap_nat (by omega) (by omega)
      have w3 : IntKind.wrap .i64 (((v * 64 + c : Nat) : Int) - 128) = ((v * 64 + c - 128 : Nat) : Int) := wrap_nat (by omega) (by omega)
      simp only [a120_l22, a120_16, a120_17, a120_18, a120_20, a120_21, wpc_draw, s3, reduceIte, Nat.reduceEqDiff, aBin, aInt, negIf, Option.some.injEq, exists_eq_left', Option.map_some, Option.bind_some, wp1_idxStr, op_idxStr, g0, g1, g6, g7, g8, z0, zi, ix, z2, z3, aPick, conv_u8 hc8, w1, w2, w3, zk]
      subst hb
      refine ih (k + 1) (v * 64 + c - 128) _ (by omega) (by omega) (by omega) (by omega) ?_ ?_ ?_ ?_ ?_ fun σ' => ?_
      · simp only [get_put, reduceIte, Nat.reduceEqDiff, g0]
      · simp only [get_put, reduceIte, Nat.reduceEqDiff, g1]
      · simp only [get_put, reduceIte, Nat.reduceEqDiff, g6]
      · simp only [get_put, reduceIte, Nat.reduceEqDiff]
      · simp only [get_put, reduceIte, Nat.reduceEqDiff]
      · rw [hm', ← Nat.add_assoc]
        exact hQ σ'
    · have z0 : ((k : Int) < (n : Int)) = False := eq_false (by omega)
      have hm : n - k = 0 := by omega
      rw [hm] at hQ
      simp only [a120_l22, a120_16, wpc_draw, s3, reduceIte, Nat.reduceEqDiff, aBin, aInt, negIf, Option.some.injEq, exists_eq_left', Option.map_some, Option.bind_some, g6, g8, z0]
      exact (hQ _).2 (by simp only [get_put, reduceIte, Nat.reduceEqDiff, g6]) (by simp only [get_put, reduceIte, Nat.reduceEqDiff, g7]; rfl) rfl
theorem point_rest {s : List UInt8} (hs : s.length < 1000000) {i n v : Nat} (hi : i < s.length) (hn : n = 2 ∨ n = 3 ∨ n = 4) (hv : v < 64) {h h' : Heap} {σ : Slots} (g0 : σ.get 0 = .str s) (g1 : σ.get 1 = .int .i64 i) (g6 : σ.get 6 = .int .i64 n) (g7 : σ.get 7 = .int .i64 v) :
    wpc env (.seq (.seq (.ops a120_13) (.cond (.t 51) (.seq (.ops a120_14) .ret) .skip)) (.seq (.seq (.ops a120_15) (.block 1 (.loop a120_l22))) (.seq (.seq (.ops a120_23) (.cond (.t 99) (.seq (.ops a120_24) .ret) .skip)) (.seq (.ops a120_25) .ret)))) ⟨σ, h'⟩ (pureQ env [.tmp 4] h (fun o => o = .ret ⟨.int .i64 (restF s i n v : Nat), h, .none⟩)) := by
  have nl : ∀ h, aLenOp true h (.str s) = some ⟨.int .i64 s.length, h, .none⟩ := fun h => rfl
  have zi : IntKind.wrap .i64 ((i : Int) + (n : Int)) = ((i + n : Nat) : Int) := wrap_nat (by omega) (by omega)
  rw [wpc_seq]
  by_cases c1 : i + n ≤ s.length
  case neg =>
    have z1 : (((i + n : Nat) : Int) > (s.length : Int)) = True := eq_true (by omega)
    have e : restF s i n v = 0 := by rw [restF, decide_eq_false c1]; rfl
    simp only [a120_13, a120_14, wpc_draw, s3, reduceIte, Nat.reduceEqDiff, aBin, aInt, negIf, Option.some.injEq, exists_eq_left', Option.map_some, Option.bind_some, g0, g1, g6, nl, zi, z1]
    exact pureI (by simp only [get_put, reduceIte, Nat.reduceEqDiff]; rw [e]; rfl) rfl
  have z1 : (((i + n : Nat) : Int) > (s.length : Int)) = False := eq_false (by omega)
  simp only [a120_13, a120_15, wpc_draw, s3, reduceIte, Nat.reduceEqDiff, aBin, aInt, negIf, Option.some.injEq, exists_eq_left', Option.map_some, Option.bind_some, g0, g1, g6, nl, zi, z1]
  refine point_loop hs (i := i) (n := n) (by omega) c1 n 1 v _ (by omega) (by omega) (by omega) (by simpa using hv) ?_ ?_ ?_ ?_ ?_ fun σ' => ⟨fun g e => ?_, fun p6 p7 e => ?_⟩
  · simp only [get_put, reduceIte, Nat.reduceEqDiff, g0]
  · simp only [get_put, reduceIte, Nat.reduceEqDiff, g1]
  · simp only [get_put, reduceIte, Nat.reduceEqDiff, g6]
  · simp only [get_put, reduceIte, Nat.reduceEqDiff, g7]
  · simp only [get_put, reduceIte, Nat.reduceEqDiff]; rfl
  · simp only [wpc_draw, s3, reduceIte, Nat.reduceEqDiff, aBin, aInt, negIf, Option.some.injEq, exists_eq_left', Option.map_some, Option.bind_some]
    have e : restF s i n v = 0 := by rw [restF, e, Bool.and_false, Bool.false_and]; rfl
    exact pureI (by rw [g, e]; rfl) rfl
  · obtain ⟨x, hx⟩ : ∃ x, x = valN s (i + 1) (n - 1) v := ⟨_, rfl⟩
    have e' : restF s i n v = if badN n x then 0 else n := by
      rw [restF, decide_eq_true c1, e, ← hx]
      cases badN n x <;> rfl
    rw [← hx] at p7
    rcases hn with rfl | rfl | rfl
    · have p6 : σ'.get 6 = .int .i64 2 := p6
      have e : restF s i 2 v = 2 := by rw [e']; rfl
      simp only [a120_23, a120_25, wpo_u, wpc_draw, s3, reduceIte, Nat.reduceEqDiff, aBin, aInt, negIf, Option.some.injEq, exists_eq_left', Option.map_some, Option.bind_some, p6, p7, Int.reduceBEq, aPick]
      exact pureI (by simp only [get_put, reduceIte, Nat.reduceEqDiff, p6]; rw [e]; rfl) rfl
    · have p6 : σ'.get 6 = .int .i64 3 := p6
      by_cases d1 : x < 2048
      · have y1 : ((x : Int) < 2048) = True := eq_true (by omega)
        have e : restF s i 3 v = 0 := by rw [e', badN, decide_eq_true d1]; rfl
        simp only [a120_23, a120_24, wpo_u, wpc_draw, s3, reduceIte, Nat.reduceEqDiff, aBin, aInt, negIf, Option.some.injEq, exists_eq_left', Option.map_some, Option.bind_some, p6, p7, y1, Int.reduceBEq, aPick]
        exact pureI (by simp only [get_put, reduceIte, Nat.reduceEqDiff, p6]; rw [e]; rfl) rfl
      have y1 : ((x : Int) < 2048) = False := eq_false (by omega)
      by_cases d2 : 55296 ≤ x
      · have y2 : ((x : Int) ≥ 55296) = True := eq_true (by omega)
        by_cases d3 : x ≤ 57343
        · have y3 : ((x : Int) ≤ 57343) = True := eq_true (by omega)
          have e : restF s i 3 v = 0 := by rw [e', badN, decide_eq_false d1, decide_eq_true d2, decide_eq_true d3]; rfl
          simp only [a120_23, a120_24, wpo_u, wpc_draw, s3, reduceIte, Nat.reduceEqDiff, aBin, aInt, negIf, Option.some.injEq, exists_eq_left', Option.map_some, Option.bind_some, p6, p7, y1, y2, y3, Int.reduceBEq, aPick]
          exact pureI (by simp only [get_put, reduceIte, Nat.reduceEqDiff, p6]; rw [e]; rfl) rfl
        · have y3 : ((x : Int) ≤ 57343) = False := eq_false (by omega)
          have e : restF s i 3 v = 3 := by rw [e', badN, decide_eq_false d1, decide_eq_true d2, decide_eq_false d3]; rfl
          simp only [a120_23, a120_25, wpo_u, wpc_draw, s3, reduceIte, Nat.reduceEqDiff, aBin, aInt, negIf, Option.some.injEq, exists_eq_left', Option.map_some, Option.bind_some, p6, p7, y1, y2, y3, Int.reduceBEq, aPick]
          exact pureI (by simp only [get_put, reduceIte, Nat.reduceEqDiff, p6]; rw [e]; rfl) rfl
      · have y2 : ((x : Int) ≥ 55296) = False := eq_false (by omega)
        have e : restF s i 3 v = 3 := by rw [e', badN, decide_eq_false d1, decide_eq_false d2]; rfl
        simp only [a120_23, a120_25, wpo_u, wpc_draw, s3, reduceIte, Nat.reduceEqDiff, aBin, aInt, negIf, Option.some.injEq, exists_eq_left', Option.map_some, Option.bind_some, p6, p7, y1, y2, Int.reduceBEq, aPick]
        exact pureI (by simp only [get_put, reduceIte, Nat.reduceEqDiff, p6]; rw [e]; rfl) rfl
    · have p6 : σ'.get 6 = .int .i64 4 := p6
      by_cases d1 : x < 65536
      · have y1 : ((x : Int) < 65536) = True := eq_true (by omega)
        have e : restF s i 4 v = 0 := by rw [e', badN, decide_eq_true d1]; rfl
        simp only [a120_23, a120_24, wpo_u, wpc_draw, s3, reduceIte, Nat.reduceEqDiff, aBin, aInt, negIf, Option.some.injEq, exists_eq_left', Option.map_some, Option.bind_some, p6, p7, y1, Int.reduceBEq, aPick]
        exact pureI (by simp only [get_put, reduceIte, Nat.reduceEqDiff, p6]; rw [e]; rfl) rfl
      have y1 : ((x : Int) < 65536) = False := eq_false (by omega)
      by_cases d2 : 1114111 < x
      · have y2 : ((x : Int) > 1114111) = True := eq_true (by omega)
        have e : restF s i 4 v = 0 := by rw [e', badN, decide_eq_false d1, decide_eq_true d2]; rfl
        simp only [a120_23, a120_24, wpo_u, wpc_draw, s3, reduceIte, Nat.reduceEqDiff, aBin, aInt, negIf, Option.some.injEq, exists_eq_left', Option.map_some, Option.bind_some, p6, p7, y1, y2, Int.reduceBEq, aPick]
        exact pureI (by simp only [get_put, reduceIte, Nat.reduceEqDiff, p6]; rw [e]; rfl) rfl
      · have y2 : ((x : Int) > 1114111) = False := eq_false (by omega)
        have e : restF s i 4 v = 4 := by rw [e', badN, decide_eq_false d1, decide_eq_false d2]; rfl
        simp only [a120_23, a120_25, wpo_u, wpc_draw, s3, reduceIte, Nat.reduceEqDiff, aBin, aInt, negIf, Option.some.injEq, exists_eq_left', Option.map_some, Option.bind_some, p6, p7, y1, y2, Int.reduceBEq, aPick]
        exact pureI (by simp only [get_put, reduceIte, Nat.reduceEqDiff, p6]; rw [e]; rfl) rfl
theorem point_spec {s : List UInt8} (hs : s.length < 1000000) {i : Nat} (hi : i < s.length) (h : Heap) : WC env 120 [.str s, .int .i64 i] h (fun o => o = .ret ⟨.int .i64 (pointF s i : Nat), h, .none⟩) := by
  refine call_pure rfl rfl rfl rfl ?_
  have ix := idxS_getD hi
  obtain ⟨c, hc⟩ : ∃ c, c = (s.getD i 0).toNat := ⟨_, rfl⟩
  have hc8 : c < 256 := by rw [hc]; exact UInt8.toNat_lt _
  have ep : pointF s i = if c < 128 then 1 else if 194 ≤ c ∧ c ≤ 223 then restF s i 2 (c - 192) else if 224 ≤ c ∧ c ≤ 239 then restF s i 3 (c - 224) else if 240 ≤ c ∧ c ≤ 244 then restF s i 4 (c - 240) else 0 := by rw [pointF, ← hc]
  rw [← hc] at ix
  have eb : a120.body = (.seq (.ops a120_0) (.seq (.ops a120_1) (.seq (.ops a120_2) (.seq (.ops a120_3) (.seq (.block 0 (.seq (.ops a120_4) (.cond (.t 13) (.seq (.ops a120_5) .ret) (.seq (.ops a120_6) (.cond (.t 16) (.ops a120_7) (.seq (.ops a120_8) (.cond (.t 26) (.ops a120_9) (.seq (.ops a120_10) (.cond (.t 36) (.ops a120_11) (.seq (.ops a120_12) .ret)))))))))) (.seq (.seq (.ops a120_13) (.cond (.t 51) (.seq (.ops a120_14) .ret) .skip)) (.seq (.seq (.ops a120_15) (.block 1 (.loop a120_l22))) (.seq (.seq (.ops a120_23) (.cond (.t 99) (.seq (.ops a120_24) .ret) .skip)) (.seq (.ops a120_25) .ret))))))))) := rfl
  obtain ⟨R, eR⟩ : ∃ R, R = AC.seq (.seq (.ops a120_13) (.cond (.t 51) (.seq (.ops a120_14) .ret) .skip)) (.seq (.seq (.ops a120_15) (.block 1 (.loop a120_l22))) (.seq (.seq (.ops a120_23) (.cond (.t 99) (.seq (.ops a120_24) .ret) .skip)) (.seq (.ops a120_25) .ret))) := ⟨_, rfl⟩
  rw [← eR] at eb
  rw [eb]
  have er : a120.results = [.tmp 4] := rfl
  rw [er]
  by_cases c1 : c < 128
  · have z1 : ((c : Int) < 128) = True := eq_true (by omega)
    rw [ep, if_pos c1]
    simp only [a120_0, a120_1, a120_2, a120_3, a120_4, a120_5, Slots.ofList, wpo_u, wpc_draw, s3, reduceIte, Nat.reduceEqDiff, aBin, aInt, negIf, Option.some.injEq, exists_eq_left', Option.map_some, Option.bind_some, wp1_idxStr, op_idxStr, ix, z1]
    exact pureI (by simp only [get_put, reduceIte, Nat.reduceEqDiff]; rfl) rfl
  have z1 : ((c : Int) < 128) = False := eq_false (by omega)
  rw [ep, if_neg c1]
  by_cases c2 : 194 ≤ c
  case neg =>
    have z2 : ((c : Int) ≥ 194) = False := eq_false (by omega)
    have z3 : ((c : Int) ≥ 224) = False := eq_false (by omega)
    have z4 : ((c : Int) ≥ 240) = False := eq_false (by omega)
    rw [if_neg (by omega), if_neg (by omega), if_neg (by omega)]
    simp only [a120_0, a120_1, a120_2, a120_3, a120_4, a120_6, a120_8, a120_10, a120_12, Slots.ofList, wpo_u, wpc_draw, s3, reduceIte, Nat.reduceEqDiff, aBin, aInt, negIf, Option.some.injEq, exists_eq_left', Option.map_some, Option.bind_some, wp1_idxStr, op_idxStr, ix, z1, z2, z3, z4, aPick]
    exact pureI (by simp only [get_put, reduceIte, Nat.reduceEqDiff]; rfl) rfl
  have z2 : ((c : Int) ≥ 194) = True := eq_true (by omega)
  by_cases c3 : c ≤ 223
  · have z3 : ((c : Int) ≤ 223) = True := eq_true (by omega)
    have w1 : IntKind.wrap .i64 ((c : Int) - 192) = ((c - 192 : Nat) : Int) := wrap_nat (by omega) (by omega)
    rw [if_pos ⟨c2, c3⟩]
    simp only [a120_0, a120_1, a120_2, a120_3, a120_4, a120_6, a120_7, Slots.ofList, wpo_u, wpc_draw, s3, reduceIte, Nat.reduceEqDiff, aBin, aInt, negIf, Option.some.injEq, exists_eq_left', Option.map_some, Option.bind_some, wp1_idxStr, op_idxStr, ix, z1, z2, z3, aPick, conv_u8 hc8, w1]
    rw [eR]
    refine point_rest hs hi (.inl rfl) (by omega) ?_ ?_ ?_ ?_
    · simp only [get_put, reduceIte, Nat.reduceEqDiff]
    · simp only [get_put, reduceIte, Nat.reduceEqDiff]
    · simp only [get_put, reduceIte, Nat.reduceEqDiff]; rfl
    · simp only [get_put, reduceIte, Nat.reduceEqDiff]
  have z3 : ((c : Int) ≤ 223) = False := eq_false (by omega)
  rw [if_neg (by omega)]
  have z4 : ((c : Int) ≥ 224) = True := eq_true (by omega)
  by_cases c4 : c ≤ 239
  · have z5 : ((c : Int) ≤ 239) = True := eq_true (by omega)
    have w1 : IntKind.wrap .i64 ((c : Int) - 224) = ((c - 224 : Nat) : Int) := wrap_nat (by omega) (by omega)
    rw [if_pos ⟨by omega, c4⟩]
    simp only [a120_0, a120_1, a120_2, a120_3, a120_4, a120_6, a120_8, a120_9, Slots.ofList, wpo_u, wpc_draw, s3, reduceIte, Nat.reduceEqDiff, aBin, aInt, negIf, Option.some.injEq, exists_eq_left', Option.map_some, Option.bind_some, wp1_idxStr, op_idxStr, ix, z1, z2, z3, z4, z5, aPick, conv_u8 hc8, w1]
    rw [eR]
    refine point_rest hs hi (.inr (.inl rfl)) (by omega) ?_ ?_ ?_ ?_
    · simp only [get_put, reduceIte, Nat.reduceEqDiff]
    · simp only [get_put, reduceIte, Nat.reduceEqDiff]
    · simp only [get_put, reduceIte, Nat.reduceEqDiff]; rfl
    · simp only [get_put, reduceIte, Nat.reduceEqDiff]
  have z5 : ((c : Int) ≤ 239) = False := eq_false (by omega)
  rw [if_neg (by omega)]
  have z6 : ((c : Int) ≥ 240) = True := eq_true (by omega)
  by_cases c5 : c ≤ 244
  · have z7 : ((c : Int) ≤ 244) = True := eq_true (by omega)
    have w1 : IntKind.wrap .i64 ((c : Int) - 240) = ((c - 240 : Nat) : Int) := wrap_nat (by omega) (by omega)
    rw [if_pos ⟨by omega, c5⟩]
    simp only [a120_0, a120_1, a120_2, a120_3, a120_4, a120_6, a120_8, a120_10, a120_11, Slots.ofList, wpo_u, wpc_draw, s3, reduceIte, Nat.reduceEqDiff, aBin, aInt, negIf, Option.some.injEq, exists_eq_left', Option.map_some, Option.bind_some, wp1_idxStr, op_idxStr, ix, z1, z2, z3, z4, z5, z6, z7, aPick, conv_u8 hc8, w1]
    rw [eR]
    refine point_rest hs hi (.inr (.inr rfl)) (by omega) ?_ ?_ ?_ ?_
    · simp only [get_put, reduceIte, Nat.reduceEqDiff]
    · simp only [get_put, reduceIte, Nat.reduceEqDiff]
    · simp only [get_put, reduceIte, Nat.reduceEqDiff]; rfl
    · simp only [get_put, reduceIte, Nat.reduceEqDiff]
  have z7 : ((c : Int) ≤ 244) = False := eq_false (by omega)
  rw [if_neg (by omega)]
  simp only [a120_0, a120_1, a120_2, a120_3, a120_4, a120_6, a120_8, a120_10, a120_12, Slots.ofList, wpo_u, wpc_draw, s3, reduceIte, Nat.reduceEqDiff, aBin, aInt, negIf, Option.some.injEq, exists_eq_left', Option.map_some, Option.bind_some, wp1_idxStr, op_idxStr, ix, z1, z2, z3, z4, z5, z6, z7, aPick]
  exact pureI (by simp only [get_put, reduceIte, Nat.reduceEqDiff]; rfl) rfl
end Go.Bf

set_option linter.unusedVariables false
set_option linter.unusedSimpArgs false
set_option maxRecDepth 20000
namespace Go.Bf
open Go.AM
theorem get_arr (s : List UInt8) (j : Nat) : (⟨s.toArray⟩ : ByteArray).get! j = s.getD j 0 := by
  show s.toArray[j]! = _
  rw [List.getElem!_toArray, List.getElem!_eq_getElem?_getD, List.getD_eq_getElem?_getD]
  rfl
theorem size_arr (s : List UInt8) : (⟨s.toArray⟩ : ByteArray).size = s.length := rfl
theorem decode_point {s : List UInt8} {i : Nat} (hi : i < s.length) :
    ((Utf8.decode ⟨s.toArray⟩ i).1 = 65533 ∧ (Utf8.decode ⟨s.toArray⟩ i).2 < 2 → pointF s i = 0) ∧
    (¬ ((Utf8.decode ⟨s.toArray⟩ i).1 = 65533 ∧ (Utf8.decode ⟨s.toArray⟩ i).2 < 2) → pointF s i = (Utf8.decode ⟨s.toArray⟩ i).2 ∧ pointF s i ≠ 0) := by
  have e0 : ∀ k, ((⟨s.toArray⟩ : ByteArray).get! (i + k)).toNat = (s.getD (i + k) 0).toNat := fun k => by rw [get_arr]
  obtain ⟨a, ha⟩ : ∃ a, a = (s.getD i 0).toNat := ⟨_, rfl⟩
  obtain ⟨b, hb⟩ : ∃ b, b = (s.getD (i + 1) 0).toNat := ⟨_, rfl⟩
  obtain ⟨c, hc⟩ : ∃ c, c = (s.getD (i + 2) 0).toNat := ⟨_, rfl⟩
  obtain ⟨d, hd⟩ : ∃ d, d = (s.getD (i + 3) 0).toNat := ⟨_, rfl⟩
  have a8 : a < 256 := by rw [ha]; exact UInt8.toNat_lt _
  have b8 : b < 256 := by rw [hb]; exact UInt8.toNat_lt _
  have c8 : c < 256 := by rw [hc]; exact UInt8.toNat_lt _
  have d8 : d < 256 := by rw [hd]; exact UInt8.toNat_lt _
  have ed : Utf8.decode ⟨s.toArray⟩ i = (
    if a < 0x80 then (a, 1)
    else if a / 32 == 6 && (decide (i + 1 < s.length) && b / 64 == 2) then
      let c := (a % 32) * 64 + b % 64
      if c ≥ 0x80 then (c, 2) else (Utf8.runeError, 1)
    else if a / 16 == 14 && (decide (i + 1 < s.length) && b / 64 == 2) && (decide (i + 2 < s.length) && c / 64 == 2) then
      let c := (a % 16) * 4096 + (b % 64) * 64 + c % 64
      if c ≥ 0x800 && Utf8.valid c then (c, 3) else (Utf8.runeError, 1)
    else if a / 8 == 30 && (decide (i + 1 < s.length) && b / 64 == 2) && (decide (i + 2 < s.length) && c / 64 == 2) && (decide (i + 3 < s.length) && d / 64 == 2) then
      let c := (a % 8) * 262144 + (b % 64) * 4096 + (c % 64) * 64 + d % 64
      if c ≥ 0x10000 && Utf8.valid c then (c, 4) else (Utf8.runeError, 1)
    else (Utf8.runeError, 1)) := by
    have e00 : ((⟨s.toArray⟩ : ByteArray).get! i).toNat = a := by rw [get_arr, ha]
    unfold Utf8.decode
    simp only [e0, e00, size_arr, Nat.add_zero, ← ha, ← hb, ← hc, ← hd]
  have k1 : contB (s.getD (i + 1) 0) = (decide (128 ≤ b) && decide (b ≤ 191)) := by rw [contB, ← hb]
  have k2 : contB (s.getD (i + 2) 0) = (decide (128 ≤ c) && decide (c ≤ 191)) := by rw [contB, ← hc]
  have k3 : contB (s.getD (i + 3) 0) = (decide (128 ≤ d) && decide (d ≤ 191)) := by rw [contB, ← hd]
  have ep : pointF s i = if a < 128 then 1 else if 194 ≤ a ∧ a ≤ 223 then restF s i 2 (a - 192) else if 224 ≤ a ∧ a ≤ 239 then restF s i 3 (a - 224) else if 240 ≤ a ∧ a ≤ 244 then restF s i 4 (a - 240) else 0 := by rw [pointF, ← ha]
  have r2 : ∀ v, restF s i 2 v = if i + 2 ≤ s.length ∧ 128 ≤ b ∧ b ≤ 191 then 2 else 0 := by
    intro v
    simp only [restF, contN, k1, badN, Nat.add_one_sub_one, Bool.and_true, Bool.not_false, Bool.and_eq_true, decide_eq_true_eq]
  have r3 : ∀ v, restF s i 3 v = if i + 3 ≤ s.length ∧ (128 ≤ b ∧ b ≤ 191) ∧ (128 ≤ c ∧ c ≤ 191) ∧ ¬ ((v * 64 + b - 128) * 64 + c - 128 < 2048 ∨ (55296 ≤ (v * 64 + b - 128) * 64 + c - 128 ∧ (v * 64 + b - 128) * 64 + c - 128 ≤ 57343)) then 3 else 0 := by
    intro v
    simp only [restF, contN, valN, k1, k2, badN, Nat.add_assoc, Nat.reduceAdd, ← hb, ← hc, Nat.add_one_sub_one, Bool.and_true, Bool.not_eq_true', Bool.and_eq_true, decide_eq_true_eq, Bool.or_eq_false_iff, Bool.and_eq_false_iff, decide_eq_false_iff_not, Nat.reduceSub]
    congr 1
    refine propext ⟨?_, ?_⟩ <;> omega
  have r4 : ∀ v, restF s i 4 v = if i + 4 ≤ s.length ∧ (128 ≤ b ∧ b ≤ 191) ∧ (128 ≤ c ∧ c ≤ 191) ∧ (128 ≤ d ∧ d ≤ 191) ∧ ¬ (((v * 64 + b - 128) * 64 + c - 128) * 64 + d - 128 < 65536 ∨ 1114111 < ((v * 64 + b - 128) * 64 + c - 128) * 64 + d - 128) then 4 else 0 := by
    intro v
    simp only [restF, contN, valN, k1, k2, k3, badN, Nat.add_assoc, Nat.reduceAdd, ← hb, ← hc, ← hd, Nat.add_one_sub_one, Bool.and_true, Bool.not_eq_true', Bool.and_eq_true, decide_eq_true_eq, Bool.or_eq_false_iff, Bool.and_eq_false_iff, decide_eq_false_iff_not, Nat.reduceSub]
    congr 1
    refine propext ⟨?_, ?_⟩ <;> omega
  rw [ed, ep, r2, r3, r4]
  have vl : ∀ x : Nat, Utf8.valid (x : Int) = true ↔ (x < 0xD800 ∨ (0xE000 ≤ x ∧ x ≤ 0x10FFFF)) := by
    intro x
    simp only [Utf8.valid, Bool.or_eq_true, Bool.and_eq_true, decide_eq_true_eq]
    omega
  simp only [Bool.and_eq_true, beq_iff_eq, decide_eq_true_eq, vl, Utf8.runeError, ge_iff_le]
  clear ed ep r2 r3 r4 vl k1 k2 k3 e0 ha hb hc hd
  by_cases h1 : a < 128
  · rw [if_pos h1, if_pos h1]; simp; omega
  rw [if_neg h1, if_neg h1]
  by_cases h2 : a / 32 = 6 ∧ i + 1 < s.length ∧ b / 64 = 2
  · rw [if_pos h2]
    by_cases h3 : 128 ≤ a % 32 * 64 + b % 64
    · rw [if_pos h3, if_pos (by omega), if_pos (by omega)]; simp
    · rw [if_neg h3, if_neg (by omega), if_neg (by omega), if_neg (by omega)]; simp
  rw [if_neg h2]
  by_cases h4 : (a / 16 = 14 ∧ i + 1 < s.length ∧ b / 64 = 2) ∧ i + 2 < s.length ∧ c / 64 = 2
  · rw [if_pos h4]
    by_cases h5 : 2048 ≤ a % 16 * 4096 + b % 64 * 64 + c % 64 ∧ (a % 16 * 4096 + b % 64 * 64 + c % 64 < 0xD800 ∨ (0xE000 ≤ a % 16 * 4096 + b % 64 * 64 + c % 64 ∧ a % 16 * 4096 + b % 64 * 64 + c % 64 ≤ 0x10FFFF))
    · rw [if_pos h5, if_neg (by omega), if_pos (by omega), if_pos (by omega)]; simp
    · rw [if_neg h5, if_neg (by omega), if_pos (by omega), if_neg (by omega)]; simp
  rw [if_neg h4]
  by_cases h6 : ((a / 8 = 30 ∧ i + 1 < s.length ∧ b / 64 = 2) ∧ i + 2 < s.length ∧ c / 64 = 2) ∧ i + 3 < s.length ∧ d / 64 = 2
  · rw [if_pos h6]
    by_cases h7 : 65536 ≤ a % 8 * 262144 + b % 64 * 4096 + c % 64 * 64 + d % 64 ∧ (a % 8 * 262144 + b % 64 * 4096 + c % 64 * 64 + d % 64 < 0xD800 ∨ (0xE000 ≤ a % 8 * 262144 + b % 64 * 4096 + c % 64 * 64 + d % 64 ∧ a % 8 * 262144 + b % 64 * 4096 + c % 64 * 64 + d % 64 ≤ 0x10FFFF))
    · rw [if_pos h7, if_neg (by omega), if_neg (by omega), if_pos (by omega), if_pos (by omega)]; simp
    · rw [if_neg h7, if_neg (by omega), if_neg (by omega)]
      by_cases h8 : 240 ≤ a ∧ a ≤ 244
      · rw [if_pos h8, if_neg (by omega)]; simp
      · rw [if_neg h8]; simp
  rw [if_neg h6]
  have hz : (if 194 ≤ a ∧ a ≤ 223 then if i + 2 ≤ s.length ∧ 128 ≤ b ∧ b ≤ 191 then 2 else 0
      else if 224 ≤ a ∧ a ≤ 239 then if i + 3 ≤ s.length ∧ (128 ≤ b ∧ b ≤ 191) ∧ (128 ≤ c ∧ c ≤ 191) ∧ ¬(((a - 224) * 64 + b - 128) * 64 + c - 128 < 2048 ∨ 55296 ≤ ((a - 224) * 64 + b - 128) * 64 + c - 128 ∧ ((a - 224) * 64 + b - 128) * 64 + c - 128 ≤ 57343) then 3 else 0
      else if 240 ≤ a ∧ a ≤ 244 then if i + 4 ≤ s.length ∧ (128 ≤ b ∧ b ≤ 191) ∧ (128 ≤ c ∧ c ≤ 191) ∧ (128 ≤ d ∧ d ≤ 191) ∧ ¬((((a - 240) * 64 + b - 128) * 64 + c - 128) * 64 + d - 128 < 65536 ∨ 1114111 < (((a - 240) * 64 + b - 128) * 64 + c - 128) * 64 + d - 128) then 4 else 0
      else 0) = 0 := by
    split
    · rw [if_neg (by omega)]
    split
    · rw [if_neg (by omega)]
    split
    · rw [if_neg (by omega)]
    · rfl
  refine ⟨fun _ => hz, fun h => absurd ⟨rfl, by decide⟩ h⟩
theorem utf_loop {s : List UInt8} (hs : s.length < 1000000) {h : Heap} {Q : AExit → St → Prop} : ∀ (f i : Nat) (σ : Slots), s.length - i < f → σ.get 0 = .str s → σ.get 3 = .int .i64 i → i < s.length + 4 →
    (∀ σ', (σ'.get 2 = .int .i64 (strangeF s f i) → Q .ret ⟨σ', h⟩) ∧ (strangeF s f i = -1 → Q (.exit 0) ⟨σ', h⟩)) → WPr env a85_l7 ⟨σ, h⟩ Q := by
  intro f
  induction f with
  | zero => intro i σ h1; omega
  | succ f ih =>
    intro i σ hf g0 g3 hb4 hQ
    refine wpr_round' fun b hb => ?_
    have nl : ∀ h, aLenOp true h (.str s) = some ⟨.int .i64 s.length, h, .none⟩ := fun h => rfl
    by_cases c1 : i < s.length
    · have z0 : ((i : Int) < (s.length : Int)) = True := eq_true (by omega)
      have dp := decode_point c1
      have wp := point_spec hs c1
      rw [strangeF, if_pos c1] at hQ
      have p4 : pointF s i ≤ 4 := by
        rw [pointF]
        have : ∀ n v, restF s i n v ≤ n := fun n v => by rw [restF]; split <;> omega
        have t2 := this 2 ((s.getD i 0).toNat - 192)
        have t3 := this 3 ((s.getD i 0).toNat - 224)
        have t4 := this 4 ((s.getD i 0).toNat - 240)
        split
        · omega
        split
        · omega
        split
        · omega
        split
        · omega
        · omega
      by_cases c2 : (Utf8.decode ⟨s.toArray⟩ i).1 = 65533 ∧ (Utf8.decode ⟨s.toArray⟩ i).2 < 2
      · have e := dp.1 c2
        rw [if_pos c2] at hQ
        rw [e] at wp
        have wp : ∀ h, WC env 120 [.str s, .int .i64 i] h (fun o => o = .ret ⟨.int .i64 0, h, .none⟩) := wp
        simp only [a85_l7, a85_2, a85_3, a85_4, a85_5, wpc_draw, s3, reduceIte, Nat.reduceEqDiff, aBin, aInt, negIf, Option.some.injEq, exists_eq_left', Option.map_some, Option.bind_some, g0, g3, nl, z0, wc_eq (wp _), Int.reduceBEq]
        exact (hQ _).1 (by simp only [get_put, reduceIte, Nat.reduceEqDiff, g3])
      · obtain ⟨e, e2⟩ := dp.2 c2
        rw [if_neg c2, ← e] at hQ
        have z1 : ((pointF s i : Int) == 0) = false := by simp; omega
        have zi : IntKind.wrap .i64 ((i : Int) + (pointF s i : Int)) = ((i + pointF s i : Nat) : Int) := wrap_nat (by omega) (by omega)
        simp only [a85_l7, a85_2, a85_3, a85_4, a85_6, wpc_draw, s3, reduceIte, Nat.reduceEqDiff, aBin, aInt, negIf, Option.some.injEq, exists_eq_left', Option.map_some, Option.bind_some, g0, g3, nl, z0, wc_eq (wp _), z1, zi]
        subst hb
        refine ih (i + pointF s i) _ (by omega) ?_ ?_ (by omega) hQ
        · simp only [get_put, reduceIte, Nat.reduceEqDiff, g0]
        · simp only [get_put, reduceIte, Nat.reduceEqDiff]
    · have z0 : ((i : Int) < (s.length : Int)) = False := eq_false (by omega)
      rw [strangeF, if_neg c1] at hQ
      simp only [a85_l7, a85_2, wpc_draw, s3, reduceIte, Nat.reduceEqDiff, aBin, aInt, negIf, Option.some.injEq, exists_eq_left', Option.map_some, Option.bind_some, g0, g3, nl, z0]
      exact (hQ _).2 rfl
theorem utf_spec (s : List UInt8) (hs : s.length < 1000000) (h : Heap) : WC env 85 [.str s] h (fun o => o = .ret ⟨.int .i64 (strangeF s (s.length + 1) 0), h, .none⟩) := by
  refine call_pure rfl rfl rfl rfl ?_
  simp only [a85, a85_0, a85_1, Slots.ofList, wpc_draw, s3, reduceIte, Nat.reduceEqDiff, aBin, aInt, negIf, Option.some.injEq, exists_eq_left', Option.map_some, Option.bind_some]
  refine utf_loop hs (s.length + 1) 0 _ (by omega) ?_ ?_ (by omega) fun σ' => ⟨fun g => ?_, fun e => ?_⟩
  · simp only [get_put, reduceIte, Nat.reduceEqDiff]
  · simp only [get_put, reduceIte, Nat.reduceEqDiff]; rfl
  · simp only [wpc_draw, s3, reduceIte, Nat.reduceEqDiff, aBin, aInt, negIf, Option.some.injEq, exists_eq_left', Option.map_some, Option.bind_some]
    exact pureI g rfl
  · simp only [a85_8, wpc_draw, s3, reduceIte, Nat.reduceEqDiff, aBin, aInt, negIf, Option.some.injEq, exists_eq_left', Option.map_some, Option.bind_some]
    exact pureI (by simp only [get_put, reduceIte, Nat.reduceEqDiff]; rw [e]) rfl
end Go.Bf
