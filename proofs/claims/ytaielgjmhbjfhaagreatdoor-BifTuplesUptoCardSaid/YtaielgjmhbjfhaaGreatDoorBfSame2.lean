/-
  The reference's Same of any two terms; BifTrue (written by tools/bfsame.py).
-/
import Derived.Test.YtaielgjmhbjfhaaGreatDoorBfRUtf2
import Derived.Test.YtaielgjmhbjfhaaGreatDoorAmD
set_option linter.unusedVariables false
set_option linter.unusedSimpArgs false
set_option maxRecDepth 20000
namespace Go.Bf
open Go.AM
def rerrAV : Option (Int × Int) → AV
  | none => .nils
  | some (p, c) => .fs true 1 [.str [97, 116, 111, 109], .int .i64 p, .int .i64 c]
theorem ratomNo_spec (p c : Int) (h : Heap) : WC env 84 [.int .i64 p, .int .i64 c] h (fun o => o = .ret ⟨rerrAV (some (p, c)), h, .none⟩) := wc_run (n := 30) (by kernel_rfl)
def quoOk (c : Nat) : Bool := match aBin .quo (.int .u8 c) (.int .u8 16) with
  | some (.int .u8 j) => j == (c / 16 : Nat)
  | _ => false
def remOk (c : Nat) : Bool := match aBin .rem (.int .u8 c) (.int .u8 16) with
  | some (.int .u8 j) => j == (c % 16 : Nat)
  | _ => false
theorem quo_all : (List.range 256).all quoOk = true := by kernel_rfl
theorem rem_all : (List.range 256).all remOk = true := by kernel_rfl
theorem quo_at {c : Nat} (h : c < 256) : aBin .quo (.int .u8 c) (.int .u8 16) = some (.int .u8 ((c / 16 : Nat) : Int)) := by
  have := List.all_eq_true.1 quo_all c (List.mem_range.2 h)
  unfold quoOk at this
  split at this
  · rename_i j e; rw [e]; have : j = ((c / 16 : Nat) : Int) := by simpa using this
    rw [this]
  · cases this
theorem rem_at {c : Nat} (h : c < 256) : aBin .rem (.int .u8 c) (.int .u8 16) = some (.int .u8 ((c % 16 : Nat) : Int)) := by
  have := List.all_eq_true.1 rem_all c (List.mem_range.2 h)
  unfold remOk at this
  split at this
  · rename_i j e; rw [e]; have : j = ((c % 16 : Nat) : Int) := by simpa using this
    rw [this]
  · cases this
theorem rquote_round {s : List UInt8} {Q : AExit → St → Prop} {h : Heap} {σ : Slots} {v : AV} {bs : List UInt8} {i : Nat} (hi : i < s.length) (hs : s.length ≤ 255) (ho : HeapOk h) (k : Acc h 1 v (bs.map byteAV)) (hl : bs.length ≤ 1 + 4 * i)
    (g0 : σ.get 0 = .str s) (g5 : σ.get 5 = v) (g6 : σ.get 6 = .int .i64 i)
    (hQ : ∀ (σ' : Slots) (h' : Heap) (v' : AV) (bs' : List UInt8), HeapOk h' → Acc h' 1 v' (bs'.map byteAV) → bs'.length ≤ 1 + 4 * (i + 1) → σ'.get 0 = .str s → σ'.get 5 = v' → σ'.get 6 = .int .i64 ((i + 1 : Nat) : Int) → Q .norm ⟨σ', h'⟩) : wpc env a50_l24 ⟨σ, h⟩ Q := by
  have z0 : ((i : Int) < (s.length : Int)) = True := eq_true (by omega)
  have zi : IntKind.wrap .i64 ((i : Int) + 1) = ((i + 1 : Nat) : Int) := wrap_nat (by omega) (by omega)
  have en : ∀ h, aLenOp true h (.str s) = some ⟨.int .i64 s.length, h, .none⟩ := fun h => rfl
  have ix := idxS_getD hi
  obtain ⟨cb, hcb⟩ : ∃ cb : UInt8, cb = s.getD i 0 := ⟨_, rfl⟩
  obtain ⟨c, hc⟩ : ∃ c, c = cb.toNat := ⟨_, rfl⟩
  have hc8 : c < 256 := by rw [hc]; exact cb.toNat_lt
  rw [← hcb, ← hc] at ix
  have el : a50_l24 = (.seq (.seq (.ops a50_10) (.cond (.t 25) .skip (.exit 0))) (.seq (.block 1 (.seq (.ops a50_11) (.block 2 (.seq (.ops a50_12) (.cond (.t 35) (.ops a50_13) (.seq (.ops a50_14) (.cond (.t 46) (.ops a50_15) (.seq (.ops a50_16) (.cond (.t 52) (.ops a50_17) (.seq (.ops a50_18) (.cond (.t 58) (.ops a50_19) (.seq (.ops a50_20) (.cond (.t 64) (.draw a50_21 a50_21b) (.ops a50_22)))))))))))))) (.ops a50_23))) := rfl
  have fin : ∀ (σ2 : Slots) (h2 : Heap) (v2 : AV) (nb : List UInt8), nb.length ≤ 4 → HeapOk h2 → Acc h2 1 v2 ((bs ++ nb).map byteAV) → σ2.get 5 = v2 → σ2.get 0 = σ.get 0 → σ2.get 6 = σ.get 6 → wpo env a50_23 ⟨σ2, h2⟩ Q := by
    intro σ2 h2 v2 nb hnb ho2 k2 p5 p0 p6
    rw [g0] at p0
    rw [g6] at p6
    simp only [a50_23, wpc_draw, s3, reduceIte, Nat.reduceEqDiff, aBin, aInt, negIf, Option.some.injEq, exists_eq_left', Option.map_some, Option.bind_some, p6, zi]
    refine hQ _ h2 v2 (bs ++ nb) ho2 k2 (by simp; omega) ?_ ?_ ?_
    · simp only [get_put, reduceIte, Nat.reduceEqDiff, p0]
    · simp only [get_put, reduceIte, Nat.reduceEqDiff, p5]
    · simp only [get_put, reduceIte, Nat.reduceEqDiff]
  have gr := fun (x : AV) (nb : List UInt8) (h1 : aLen x = some nb.length) (h2 : sliceCells h 1 nb.length x = some (nb.map byteAV, .none)) (h3 : nb.length ≤ 4) => grow ho (w := .nils) (s := []) k h1 h2 .nils (fun id e => by simp [AV.own]) (by omega)
  rw [el, wpc_seq]
  by_cases q39 : c = 39
  · have z39 : ((c : Int) == 39) = true := by simp [q39]
    obtain ⟨v2, h2, c2, w1, ho2, k2, _, _⟩ := gr (.fs true 2 [.int .u8 92, .int .u8 (c : Int)]) [92, cb] rfl (by rw [hc]; rfl) (by simp)
    have y1 : aFill [.int .u8 0, .int .u8 0] [(0, 1, .int .u8 92), (1, 1, .int .u8 (c : Int))] = some [.int .u8 92, .int .u8 (c : Int)] := rfl
    have y2 : ([AV.int .u8 92, .int .u8 (c : Int)] : List AV).length = 2 := rfl
    simp only [a50_10, a50_11, a50_12, a50_13, wpo_u, wpc_draw, s3, reduceIte, Nat.reduceEqDiff, aBin, aInt, negIf, Option.some.injEq, exists_eq_left', Option.map_some, Option.bind_some, isC c2, wp1_idxStr, op_idxStr, aPick, g0, g5, g6, en, z0, ix, z39, y1, y2, w1]
    refine fin _ h2 v2 [92, cb] (by simp) ho2 k2 ?_ ?_ ?_ <;> simp only [get_put, reduceIte, Nat.reduceEqDiff]
  have z39 : ((c : Int) == 39) = false := by simp; omega
  by_cases q92 : c = 92
  · have z92 : ((c : Int) == 92) = true := by simp [q92]
    obtain ⟨v2, h2, c2, w1, ho2, k2, _, _⟩ := gr (.fs true 2 [.int .u8 92, .int .u8 (c : Int)]) [92, cb] rfl (by rw [hc]; rfl) (by simp)
    have y1 : aFill [.int .u8 0, .int .u8 0] [(0, 1, .int .u8 92), (1, 1, .int .u8 (c : Int))] = some [.int .u8 92, .int .u8 (c : Int)] := rfl
    have y2 : ([AV.int .u8 92, .int .u8 (c : Int)] : List AV).length = 2 := rfl
    simp only [a50_10, a50_11, a50_12, a50_13, wpo_u, wpc_draw, s3, reduceIte, Nat.reduceEqDiff, aBin, aInt, negIf, Option.some.injEq, exists_eq_left', Option.map_some, Option.bind_some, isC c2, wp1_idxStr, op_idxStr, aPick, g0, g5, g6, en, z0, ix, z39, z92, y1, y2, w1]
    refine fin _ h2 v2 [92, cb] (by simp) ho2 k2 ?_ ?_ ?_ <;> simp only [get_put, reduceIte, Nat.reduceEqDiff]
  have z92 : ((c : Int) == 92) = false := by simp; omega
  by_cases q10 : c = 10
  · have z10 : ((c : Int) == 10) = true := by simp [q10]
    obtain ⟨v2, h2, c2, w1, ho2, k2, _, _⟩ := gr (.fs true 2 [.int .u8 92, .int .u8 110]) [92, 110] rfl rfl (by decide)
    have y1 : aFill [.int .u8 0, .int .u8 0] [(0, 1, .int .u8 92), (1, 1, .int .u8 110)] = some [.int .u8 92, .int .u8 110] := rfl
    have y2 : ([AV.int .u8 92, .int .u8 110] : List AV).length = 2 := rfl
    simp only [a50_10, a50_11, a50_12, a50_14, a50_15, wpo_u, wpc_draw, s3, reduceIte, Nat.reduceEqDiff, aBin, aInt, negIf, Option.some.injEq, exists_eq_left', Option.map_some, Option.bind_some, isC c2, wp1_idxStr, op_idxStr, aPick, g0, g5, g6, en, z0, ix, z39, z92, z10, y1, y2, w1]
    refine fin _ h2 v2 [92, 110] (by decide) ho2 k2 ?_ ?_ ?_ <;> simp only [get_put, reduceIte, Nat.reduceEqDiff]
  have z10 : ((c : Int) == 10) = false := by simp; omega
  by_cases q9 : c = 9
  · have z9 : ((c : Int) == 9) = true := by simp [q9]
    obtain ⟨v2, h2, c2, w1, ho2, k2, _, _⟩ := gr (.fs true 2 [.int .u8 92, .int .u8 116]) [92, 116] rfl rfl (by decide)
    have y1 : aFill [.int .u8 0, .int .u8 0] [(0, 1, .int .u8 92), (1, 1, .int .u8 116)] = some [.int .u8 92, .int .u8 116] := rfl
    have y2 : ([AV.int .u8 92, .int .u8 116] : List AV).length = 2 := rfl
    simp only [a50_10, a50_11, a50_12, a50_14, a50_16, a50_17, wpo_u, wpc_draw, s3, reduceIte, Nat.reduceEqDiff, aBin, aInt, negIf, Option.some.injEq, exists_eq_left', Option.map_some, Option.bind_some, isC c2, wp1_idxStr, op_idxStr, aPick, g0, g5, g6, en, z0, ix, z39, z92, z10, z9, y1, y2, w1]
    refine fin _ h2 v2 [92, 116] (by decide) ho2 k2 ?_ ?_ ?_ <;> simp only [get_put, reduceIte, Nat.reduceEqDiff]
  have z9 : ((c : Int) == 9) = false := by simp; omega
  by_cases q13 : c = 13
  · have z13 : ((c : Int) == 13) = true := by simp [q13]
    obtain ⟨v2, h2, c2, w1, ho2, k2, _, _⟩ := gr (.fs true 2 [.int .u8 92, .int .u8 114]) [92, 114] rfl rfl (by decide)
    have y1 : aFill [.int .u8 0, .int .u8 0] [(0, 1, .int .u8 92), (1, 1, .int .u8 114)] = some [.int .u8 92, .int .u8 114] := rfl
    have y2 : ([AV.int .u8 92, .int .u8 114] : List AV).length = 2 := rfl
    simp only [a50_10, a50_11, a50_12, a50_14, a50_16, a50_18, a50_19, wpo_u, wpc_draw, s3, reduceIte, Nat.reduceEqDiff, aBin, aInt, negIf, Option.some.injEq, exists_eq_left', Option.map_some, Option.bind_some, isC c2, wp1_idxStr, op_idxStr, aPick, g0, g5, g6, en, z0, ix, z39, z92, z10, z9, z13, y1, y2, w1]
    refine fin _ h2 v2 [92, 114] (by decide) ho2 k2 ?_ ?_ ?_ <;> simp only [get_put, reduceIte, Nat.reduceEqDiff]
  have z13 : ((c : Int) == 13) = false := by simp; omega
  have hex : ∀ {σ2 : Slots}, σ2.get 5 = v → σ2.get 7 = .int .u8 (c : Int) → σ2.get 0 = σ.get 0 → σ2.get 6 = σ.get 6 → wpc env (.draw a50_21 a50_21b) ⟨σ2, h⟩ (blockQ' 2 (blockQ' 1 (seqQ env (.ops a50_23) Q))) := by
    intro σ2 p5 p7 p0 p6
    obtain ⟨v2, h2, c2, w1, ho2, k2, _, _⟩ := gr (.fs true 4 [.int .u8 92, .int .u8 120, .int .u8 (hexAt (c / 16)).toNat, .int .u8 (hexAt (c % 16)).toNat]) [92, 120, hexAt (c / 16), hexAt (c % 16)] rfl rfl (by simp)
    have f1 := quo_at hc8
    have f2 := rem_at hc8
    have f3 := hex_idx (i := c / 16) (by omega)
    have f4 := hex_idx (i := c % 16) (by omega)
    have y1 : aFill [.int .u8 0, .int .u8 0, .int .u8 0, .int .u8 0] [(0, 1, .int .u8 92), (1, 1, .int .u8 120), (2, 1, .int .u8 (hexAt (c / 16)).toNat), (3, 1, .int .u8 (hexAt (c % 16)).toNat)] = some [.int .u8 92, .int .u8 120, .int .u8 (hexAt (c / 16)).toNat, .int .u8 (hexAt (c % 16)).toNat] := rfl
    have y2 : ([AV.int .u8 92, .int .u8 120, .int .u8 (hexAt (c / 16)).toNat, .int .u8 (hexAt (c % 16)).toNat] : List AV).length = 4 := rfl
    refine wpc_draw_k ?_
    simp only [a50_21, s3, reduceIte, Nat.reduceEqDiff, negIf, Option.some.injEq, exists_eq_left', Option.map_some, Option.bind_some, k3, isC c2, wp1_idxStr, op_idxStr, p5, p7, f1, f2, f3, f4, y1, y2, w1]
    refine ⟨by cases c2 <;> rfl, ?_⟩
    refine fin _ h2 v2 [92, 120, hexAt (c / 16), hexAt (c % 16)] (by simp) ho2 k2 ?_ ?_ ?_ <;> simp only [get_put, reduceIte, Nat.reduceEqDiff, p0, p6]
  by_cases q32 : (c : Int) < 32
  · have z32 : ((c : Int) < 32) = True := eq_true q32
    simp only [a50_10, a50_11, a50_12, a50_14, a50_16, a50_18, a50_20, wpo_u, s3, reduceIte, Nat.reduceEqDiff, aBin, aInt, negIf, Option.some.injEq, exists_eq_left', Option.map_some, Option.bind_some, wp1_idxStr, op_idxStr, aPick, g0, g5, g6, en, z0, ix, z39, z92, z10, z9, z13, z32]
    refine hex ?_ ?_ ?_ ?_ <;> simp only [get_put, reduceIte, Nat.reduceEqDiff, g5, g0, g6]
  have z32 : ((c : Int) < 32) = False := eq_false q32
  by_cases q127 : c = 127
  · have z127 : ((c : Int) == 127) = true := by simp [q127]
    simp only [a50_10, a50_11, a50_12, a50_14, a50_16, a50_18, a50_20, wpo_u, s3, reduceIte, Nat.reduceEqDiff, aBin, aInt, negIf, Option.some.injEq, exists_eq_left', Option.map_some, Option.bind_some, wp1_idxStr, op_idxStr, aPick, g0, g5, g6, en, z0, ix, z39, z92, z10, z9, z13, z32, z127]
    refine hex ?_ ?_ ?_ ?_ <;> simp only [get_put, reduceIte, Nat.reduceEqDiff, g5, g0, g6]
  have z127 : ((c : Int) == 127) = false := by simp; omega
  obtain ⟨v2, h2, c2, w1, ho2, k2, _, _⟩ := gr (.fs true 1 [.int .u8 (c : Int)]) [cb] rfl (by rw [hc]; rfl) (by simp)
  have y1 : aFill [.int .u8 0] [(0, 1, .int .u8 (c : Int))] = some [.int .u8 (c : Int)] := rfl
  have y2 : ([AV.int .u8 (c : Int)] : List AV).length = 1 := rfl
  simp only [a50_10, a50_11, a50_12, a50_14, a50_16, a50_18, a50_20, a50_22, wpo_u, s3, reduceIte, Nat.reduceEqDiff, aBin, aInt, negIf, Option.some.injEq, exists_eq_left', Option.map_some, Option.bind_some, isC c2, wp1_idxStr, op_idxStr, aPick, g0, g5, g6, en, z0, ix, z39, z92, z10, z9, z13, z32, z127, y1, y2, w1]
  refine fin _ h2 v2 [cb] (by simp) ho2 k2 ?_ ?_ ?_ <;> simp only [get_put, reduceIte, Nat.reduceEqDiff]
theorem rquote_loop {s : List UInt8} {Q : AExit → St → Prop} (hs : s.length ≤ 255) : ∀ (f i : Nat) (h : Heap) (σ : Slots) (v : AV) (bs : List UInt8), s.length - i < f → i ≤ s.length → HeapOk h → Acc h 1 v (bs.map byteAV) → bs.length ≤ 1 + 4 * i → σ.get 0 = .str s → σ.get 5 = v → σ.get 6 = .int .i64 i →
    (∀ (σ' : Slots) (h' : Heap) (v' : AV) (bs' : List UInt8), HeapOk h' → Acc h' 1 v' (bs'.map byteAV) → bs'.length ≤ 1 + 4 * s.length → σ'.get 5 = v' → Q (.exit 0) ⟨σ', h'⟩) → WPr env a50_l24 ⟨σ, h⟩ Q := by
  intro f
  induction f with
  | zero => intro i h σ v bs h1; omega
  | succ f ih =>
    intro i h σ v bs hf hi ho k hl g0 g5 g6 hQ
    by_cases c1 : i < s.length
    · refine wpr_round' fun b hb => rquote_round c1 hs ho k hl g0 g5 g6 fun σ' h' v' bs' ho' k' hl' p0 p5 p6 => ?_
      subst hb
      exact ih (i + 1) h' σ' v' bs' (by omega) (by omega) ho' k' hl' p0 p5 p6 hQ
    · refine wpr_round' fun b hb => ?_
      have en : ∀ h, aLenOp true h (.str s) = some ⟨.int .i64 s.length, h, .none⟩ := fun h => rfl
      have z0 : ((i : Int) < (s.length : Int)) = False := eq_false (by omega)
      simp only [a50_l24, a50_10, wpc_draw, s3, reduceIte, Nat.reduceEqDiff, aBin, aInt, negIf, Option.some.injEq, exists_eq_left', Option.map_some, Option.bind_some, g0, g6, en, z0]
      refine hQ _ h v bs ho k (by omega) ?_
      simp only [get_put, reduceIte, Nat.reduceEqDiff, g5]
theorem rquote_spec (s : List UInt8) (h : Heap) : WC env 50 [.str s] h (fun o => ∃ q, o = .ret ⟨.tup [.str q, rerrAV (quoteErr s)], h, .none⟩) := by
  refine call_pure rfl rfl rfl rfl ?_
  have en : ∀ h, aLenOp true h (.str s) = some ⟨.int .i64 s.length, h, .none⟩ := fun h => rfl
  by_cases c1 : 255 < s.length
  · have z1 : ((s.length : Int) > 255) = True := eq_true (by omega)
    have e : quoteErr s = some (0, 4) := by rw [quoteErr, if_pos c1]
    simp only [a50, a50_0, a50_1, a50_2, Slots.ofList, wpc_draw, s3, reduceIte, Nat.reduceEqDiff, aBin, aInt, negIf, Option.some.injEq, exists_eq_left', Option.map_some, Option.bind_some, en, z1, wc_eq (ratomNo_spec _ _ _)]
    refine ⟨[.str [], rerrAV (some (0, 4))], .tup [.str [], rerrAV (some (0, 4))], by simp only [Env.results, Option.map_some, get_put, reduceIte, Nat.reduceEqDiff], (frz_noRef (v := .tup [.str [], rerrAV (some (0, 4))]) rfl).2 rfl, _, by rw [e]⟩
  have z1 : ((s.length : Int) > 255) = False := eq_false (by omega)
  have wu := utf_spec s (by omega)
  by_cases c2 : 0 ≤ strangeF s (s.length + 1) 0
  · have z2 : (strangeF s (s.length + 1) 0 ≥ 0) = True := eq_true c2
    have e : quoteErr s = some (strangeF s (s.length + 1) 0, 23) := by rw [quoteErr, if_neg c1, if_pos c2]
    simp only [a50, a50_0, a50_1, a50_3, a50_4, a50_5, Slots.ofList, wpc_draw, s3, reduceIte, Nat.reduceEqDiff, aBin, aInt, negIf, Option.some.injEq, exists_eq_left', Option.map_some, Option.bind_some, en, z1, wc_eq (wu _), z2, wc_eq (ratomNo_spec _ _ _)]
    refine ⟨[.str [], rerrAV (some (strangeF s (s.length + 1) 0, 23))], .tup [.str [], rerrAV (some (strangeF s (s.length + 1) 0, 23))], by simp only [Env.results, Option.map_some, get_put, reduceIte, Nat.reduceEqDiff], (frz_noRef (v := .tup [.str [], rerrAV (some (strangeF s (s.length + 1) 0, 23))]) rfl).2 rfl, _, by rw [e]⟩
  have z2 : (strangeF s (s.length + 1) 0 ≥ 0) = False := eq_false c2
  have e : quoteErr s = none := by rw [quoteErr, if_neg c1, if_neg c2]
  obtain ⟨b, hb⟩ := rplain_spec s (by omega)
  cases b with
  | true =>
    simp only [a50, a50_0, a50_1, a50_3, a50_4, a50_6, a50_7, Slots.ofList, wpc_draw, s3, reduceIte, Nat.reduceEqDiff, aBin, aInt, negIf, Option.some.injEq, exists_eq_left', Option.map_some, Option.bind_some, en, z1, wc_eq (wu _), z2, wc_eq (hb _)]
    refine ⟨[.str s, .nils], .tup [.str s, .nils], by simp only [Env.results, Option.map_some, get_put, reduceIte, Nat.reduceEqDiff], (frz_noRef (v := .tup [.str s, .nils]) rfl).2 rfl, _, by rw [e]; rfl⟩
  | false =>
    have y1 : aFill [.int .u8 0] [(0, 1, .int .u8 39)] = some [.int .u8 39] := rfl
    have y2 : ([AV.int .u8 39] : List AV).length = 1 := rfl
    have k0 : Acc .empty 1 (.fs true 1 [.int .u8 39]) (([39] : List UInt8).map byteAV) := .full 1 _ rfl
    simp only [a50, a50_0, a50_1, a50_3, a50_4, a50_6, a50_8, a50_9, Slots.ofList, wpc_draw, s3, reduceIte, Nat.reduceEqDiff, aBin, aInt, negIf, Option.some.injEq, exists_eq_left', Option.map_some, Option.bind_some, en, z1, wc_eq (wu _), z2, wc_eq (hb _), y1, y2]
    refine rquote_loop (s := s) (by omega) (s.length + 1) 0 .empty _ (.fs true 1 [.int .u8 39]) [39] (by omega) (by omega) HeapOk.empty k0 (by simp) ?_ ?_ ?_ fun σ' h' v' bs' ho' k' hl' g5 => ?_
    · simp only [get_put, reduceIte, Nat.reduceEqDiff]
    · simp only [get_put, reduceIte, Nat.reduceEqDiff]
    · simp only [get_put, reduceIte, Nat.reduceEqDiff]; rfl
    obtain ⟨v2, h2, c2, w1, ho2, k2, hw2, hne2⟩ := grow ho' (x := .fs true 1 [.int .u8 39]) (w := .nils) (s := []) (nb := [39]) (c0 := .none) k' rfl rfl .nils (fun id e => by simp [AV.own]) (by simp; omega)
    obtain ⟨c3, hc3, b2⟩ := k2.toBytes.b2s
    simp only [a50_25, wpc_draw, s3, reduceIte, Nat.reduceEqDiff, aBin, aInt, negIf, Option.some.injEq, exists_eq_left', Option.map_some, Option.bind_some, isC c2, isC c3, g5, y1, y2, w1, b2]
    refine ⟨[.str (bs' ++ [39]), .nils], .tup [.str (bs' ++ [39]), .nils], by simp only [Env.results, Option.map_some, get_put, reduceIte, Nat.reduceEqDiff], (frz_noRef (v := .tup [.str (bs' ++ [39]), .nils]) rfl).2 rfl, _, by rw [e]; rfl⟩
end Go.Bf

set_option linter.unusedVariables false
set_option linter.unusedSimpArgs false
set_option maxRecDepth 20000
namespace Go.Bf
open Go.AM
def nodeStep (p : Bool × Int) (i : Nat) (c : UInt8) : Bool × Int :=
  if c.toNat = 64 then (p.1 && decide (p.2 < 0), (i : Int)) else (p.1 && (inWB c || c.toNat == 45 || (c.toNat == 46 && decide (p.2 ≥ 0))), p.2)
def nodeFold : List UInt8 → Nat → Bool × Int → Bool × Int
  | [], _, p => p
  | c :: l, i, p => nodeFold l (i + 1) (nodeStep p i c)
def rnodeF (s : List UInt8) : Bool :=
  let p := nodeFold s 0 (decide (3 ≤ s.length) && decide (s.length ≤ 64), -1)
  p.1 && !decide (p.2 < 1) && !(p.2 == (s.length : Int) - 1)
theorem rnode_loop {s : List UInt8} (hs : s.length < 9223372036854775808) {h : Heap} {Q : AExit → St → Prop} : ∀ (f i : Nat) (σ : Slots) (g : Bool) (a : Int), s.length - i < f → i ≤ s.length → σ.get 0 = .str s → σ.get 5 = .int .i64 a → σ.get 6 = .bool g → σ.get 7 = .int .i64 i →
    (∀ σ', σ'.get 0 = .str s → σ'.get 6 = .bool (nodeFold (s.drop i) i (g, a)).1 → σ'.get 5 = .int .i64 (nodeFold (s.drop i) i (g, a)).2 → Q (.exit 0) ⟨σ', h⟩) → WPr env a52_l11 ⟨σ, h⟩ Q := by
  intro f
  induction f with
  | zero => intro i σ g a h1; omega
  | succ f ih =>
    intro i σ g a hf hi g0 g5 g6 g7 hQ
    refine wpr_round' fun b hb => ?_
    have nl : ∀ h, aLenOp true h (.str s) = some ⟨.int .i64 s.length, h, .none⟩ := fun h => rfl
    by_cases c1 : i < s.length
    · have z0 : ((i : Int) < (s.length : Int)) = True := eq_true (by omega)
      have zi : IntKind.wrap .i64 ((i : Int) + 1) = ((i + 1 : Nat) : Int) := wrap_nat (by omega) (by omega)
      have ix := idxS_at c1
      have hd : s.drop i = s[i] :: s.drop (i + 1) := List.drop_eq_getElem_cons c1
      obtain ⟨cb, hcb⟩ : ∃ cb, cb = s[i] := ⟨_, rfl⟩
      rw [hd, nodeFold, ← hcb] at hQ
      rw [← hcb] at ix
      have wi := inW_spec cb
      obtain ⟨c, hc⟩ : ∃ c, c = cb.toNat := ⟨_, rfl⟩
      rw [← hc] at ix wi
      have go : ∀ (σ2 : Slots) (p : Bool × Int), p = nodeStep (g, a) i cb → σ2.get 0 = .str s → σ2.get 6 = .bool p.1 → σ2.get 5 = .int .i64 p.2 → σ2.get 7 = .int .i64 i → wpo env a52_10 ⟨σ2, h⟩ (roundQ env b Q) := by
        intro σ2 p ep p0 p6 p5 p7
        rw [← ep] at hQ
        simp only [a52_10, wpc_draw, s3, reduceIte, Nat.reduceEqDiff, aBin, aInt, negIf, Option.some.injEq, exists_eq_left', Option.map_some, Option.bind_some, p7, zi]
        subst hb
        refine ih (i + 1) _ p.1 p.2 (by omega) (by omega) ?_ ?_ ?_ ?_ hQ
        · simp only [get_put, reduceIte, Nat.reduceEqDiff, p0]
        · simp only [get_put, reduceIte, Nat.reduceEqDiff, p5]
        · simp only [get_put, reduceIte, Nat.reduceEqDiff, p6]
        · simp only [get_put, reduceIte, Nat.reduceEqDiff]
      have el : a52_l11 = (.seq (.seq (.ops a52_4) (.cond (.t 20) .skip (.exit 0))) (.seq (.block 1 (.seq (.ops a52_5) (.seq (.seq (.ops a52_6) (.cond (.t 27) (.seq (.ops a52_7) (.seq (.ops a52_8) (.exit 1))) .skip)) (.ops a52_9)))) (.ops a52_10))) := rfl
      rw [el, wpc_seq]
      by_cases c64 : c = 64
      · have z1 : ((c : Int) == 64) = true := by simp [c64]
        have ep : nodeStep (g, a) i cb = (g && decide (a < 0), (i : Int)) := by rw [nodeStep, if_pos (by omega)]
        cases g with
        | false =>
          simp only [a52_4, a52_5, a52_6, a52_7, a52_8, wpo_u, wpc_draw, s3, reduceIte, Nat.reduceEqDiff, aBin, aInt, negIf, Option.some.injEq, exists_eq_left', Option.map_some, Option.bind_some, wp1_idxStr, op_idxStr, aPick, g0, g6, g7, nl, z0, ix, z1]
          refine go _ _ ep.symm ?_ ?_ ?_ ?_ <;> simp only [get_put, reduceIte, Nat.reduceEqDiff, g0, g7, Bool.false_and]
        | true =>
          by_cases ca : a < 0
          · have z2 : (a < 0) = True := eq_true ca
            simp only [a52_4, a52_5, a52_6, a52_7, a52_8, wpo_u, wpc_draw, s3, reduceIte, Nat.reduceEqDiff, aBin, aInt, negIf, Option.some.injEq, exists_eq_left', Option.map_some, Option.bind_some, wp1_idxStr, op_idxStr, aPick, g0, g5, g6, g7, nl, z0, ix, z1, z2]
            refine go _ _ ep.symm ?_ ?_ ?_ ?_ <;> simp only [get_put, reduceIte, Nat.reduceEqDiff, g0, g7, Bool.true_and, decide_eq_true ca]
          · have z2 : (a < 0) = False := eq_false ca
            simp only [a52_4, a52_5, a52_6, a52_7, a52_8, wpo_u, wpc_draw, s3, reduceIte, Nat.reduceEqDiff, aBin, aInt, negIf, Option.some.injEq, exists_eq_left', Option.map_some, Option.bind_some, wp1_idxStr, op_idxStr, aPick, g0, g5, g6, g7, nl, z0, ix, z1, z2]
            refine go _ _ ep.symm ?_ ?_ ?_ ?_ <;> simp only [get_put, reduceIte, Nat.reduceEqDiff, g0, g7, Bool.true_and, decide_eq_false ca]
      have z1 : ((c : Int) == 64) = false := by simp; omega
      have ep : nodeStep (g, a) i cb = (g && (inWB cb || c == 45 || (c == 46 && decide (a ≥ 0))), a) := by rw [nodeStep, if_neg (by omega), ← hc]
      cases g with
      | false =>
        simp only [a52_4, a52_5, a52_6, a52_9, wpo_u, wpc_draw, s3, reduceIte, Nat.reduceEqDiff, aBin, aInt, negIf, Option.some.injEq, exists_eq_left', Option.map_some, Option.bind_some, wp1_idxStr, op_idxStr, aPick, g0, g6, g7, nl, z0, ix, z1]
        refine go _ _ ep.symm ?_ ?_ ?_ ?_ <;> simp only [get_put, reduceIte, Nat.reduceEqDiff, g0, g5, g7, Bool.false_and]
      | true =>
      rw [Bool.true_and] at ep
      cases k1 : inWB cb with
      | true =>
        rw [k1, Bool.true_or, Bool.true_or] at ep
        rw [k1] at wi
        simp only [a52_4, a52_5, a52_6, a52_9, wpo_u, wpc_draw, s3, reduceIte, Nat.reduceEqDiff, aBin, aInt, negIf, Option.some.injEq, exists_eq_left', Option.map_some, Option.bind_some, wp1_idxStr, op_idxStr, aPick, g0, g6, g7, nl, z0, ix, z1, wc_eq (wi _)]
        refine go _ _ ep.symm ?_ ?_ ?_ ?_ <;> simp only [get_put, reduceIte, Nat.reduceEqDiff, g0, g5, g7]
      | false =>
      rw [k1, Bool.false_or] at ep
      rw [k1] at wi
      by_cases c45 : c = 45
      · have z2 : ((c : Int) == 45) = true := by simp [c45]
        have e2 : (c == 45) = true := by simp [c45]
        rw [e2, Bool.true_or] at ep
        simp only [a52_4, a52_5, a52_6, a52_9, wpo_u, wpc_draw, s3, reduceIte, Nat.reduceEqDiff, aBin, aInt, negIf, Option.some.injEq, exists_eq_left', Option.map_some, Option.bind_some, wp1_idxStr, op_idxStr, aPick, g0, g6, g7, nl, z0, ix, z1, z2, wc_eq (wi _)]
        refine go _ _ ep.symm ?_ ?_ ?_ ?_ <;> simp only [get_put, reduceIte, Nat.reduceEqDiff, g0, g5, g7]
      have z2 : ((c : Int) == 45) = false := by simp; omega
      have e2 : (c == 45) = false := by simp [c45]
      rw [e2, Bool.false_or] at ep
      by_cases c46 : c = 46
      case neg =>
        have z3 : ((c : Int) == 46) = false := by simp; omega
        have e3 : (c == 46) = false := by simp [c46]
        rw [e3, Bool.false_and] at ep
        simp only [a52_4, a52_5, a52_6, a52_9, wpo_u, wpc_draw, s3, reduceIte, Nat.reduceEqDiff, aBin, aInt, negIf, Option.some.injEq, exists_eq_left', Option.map_some, Option.bind_some, wp1_idxStr, op_idxStr, aPick, g0, g6, g7, nl, z0, ix, z1, z2, z3, wc_eq (wi _)]
        refine go _ _ ep.symm ?_ ?_ ?_ ?_ <;> simp only [get_put, reduceIte, Nat.reduceEqDiff, g0, g5, g7]
      have z3 : ((c : Int) == 46) = true := by simp [c46]
      have e3 : (c == 46) = true := by simp [c46]
      rw [e3, Bool.true_and] at ep
      by_cases ca : a ≥ 0
      · have z4 : (a ≥ 0) = True := eq_true ca
        rw [decide_eq_true ca] at ep
        simp only [a52_4, a52_5, a52_6, a52_9, wpo_u, wpc_draw, s3, reduceIte, Nat.reduceEqDiff, aBin, aInt, negIf, Option.some.injEq, exists_eq_left', Option.map_some, Option.bind_some, wp1_idxStr, op_idxStr, aPick, g0, g5, g6, g7, nl, z0, ix, z1, z2, z3, z4, wc_eq (wi _)]
        refine go _ _ ep.symm ?_ ?_ ?_ ?_ <;> simp only [get_put, reduceIte, Nat.reduceEqDiff, g0, g5, g7]
      · have z4 : (a ≥ 0) = False := eq_false ca
        rw [decide_eq_false ca] at ep
        simp only [a52_4, a52_5, a52_6, a52_9, wpo_u, wpc_draw, s3, reduceIte, Nat.reduceEqDiff, aBin, aInt, negIf, Option.some.injEq, exists_eq_left', Option.map_some, Option.bind_some, wp1_idxStr, op_idxStr, aPick, g0, g5, g6, g7, nl, z0, ix, z1, z2, z3, z4, wc_eq (wi _)]
        refine go _ _ ep.symm ?_ ?_ ?_ ?_ <;> simp only [get_put, reduceIte, Nat.reduceEqDiff, g0, g5, g7]
    · have z0 : ((i : Int) < (s.length : Int)) = False := eq_false (by omega)
      rw [List.drop_of_length_le (show s.length ≤ i by omega), nodeFold] at hQ
      simp only [a52_l11, a52_4, wpc_draw, s3, reduceIte, Nat.reduceEqDiff, aBin, aInt, negIf, Option.some.injEq, exists_eq_left', Option.map_some, Option.bind_some, g0, g7, nl, z0]
      refine hQ _ ?_ ?_ ?_ <;> simp only [get_put, reduceIte, Nat.reduceEqDiff, g0, g5, g6]
theorem fold_at : ∀ (l : List UInt8) (i : Nat) (g : Bool) (a : Int), a < (i : Int) → -1 ≤ a → -1 ≤ (nodeFold l i (g, a)).2 ∧ (nodeFold l i (g, a)).2 < (i : Int) + l.length
  | [], i, g, a, h, h' => ⟨h', by simp [nodeFold]; omega⟩
  | c :: l, i, g, a, h, h' => by
    rw [nodeFold, nodeStep]
    split
    · have := fold_at l (i + 1) (g && decide (a < 0)) i (by omega) (by omega)
      simp only [List.length_cons] at *
      omega
    · have := fold_at l (i + 1) (g && (inWB c || c.toNat == 45 || (c.toNat == 46 && decide (a ≥ 0)))) a (by omega) (by omega)
      simp only [List.length_cons] at *
      omega
theorem fold_false : ∀ (l : List UInt8) (i : Nat) (a : Int), (nodeFold l i (false, a)).1 = false
  | [], _, _ => rfl
  | c :: l, i, a => by
    rw [nodeFold, nodeStep]
    split <;> simp only [Bool.false_and] <;> exact fold_false l _ _
theorem fold_64 : ∀ (l : List UInt8) (i : Nat) (g : Bool) (a : Int), 0 ≤ a → (∃ c, c ∈ l ∧ c.toNat = 64) → (nodeFold l i (g, a)).1 = false
  | [], _, _, _, _, h => by obtain ⟨c, h, _⟩ := h; simp at h
  | c :: l, i, g, a, ha, h => by
    rw [nodeFold, nodeStep]
    split
    · rw [decide_eq_false (by omega), Bool.and_false]
      exact fold_false l _ _
    · rename_i hc
      refine fold_64 l _ _ _ ha ?_
      obtain ⟨x, hx, e⟩ := h
      rcases List.mem_cons.1 hx with rfl | hx
      · exact absurd e hc
      · exact ⟨x, hx, e⟩
theorem fold_no : ∀ (l : List UInt8) (i : Nat) (g : Bool) (a : Int), (∀ c, c ∈ l → c.toNat ≠ 64) → nodeFold l i (g, a) = (g && l.all (fun c => inWB c || c.toNat == 45 || (c.toNat == 46 && decide (a ≥ 0))), a)
  | [], _, g, _, _ => by simp [nodeFold]
  | c :: l, i, g, a, h => by
    rw [nodeFold, nodeStep, if_neg (h c (by simp)), fold_no l _ _ _ (fun x hx => h x (by simp [hx])), List.all_cons, Bool.and_assoc]
theorem fold_append : ∀ (l m : List UInt8) (i : Nat) (p : Bool × Int), nodeFold (l ++ m) i p = nodeFold m (i + l.length) (nodeFold l i p)
  | [], m, i, p => rfl
  | c :: l, m, i, p => by
    rw [List.cons_append, nodeFold, fold_append l m, nodeFold, List.length_cons]
    congr 1
    omega
theorem index_split : ∀ (s : List UInt8), (Lib.indexByte s 64 = -1 ∧ ∀ c, c ∈ s → c.toNat ≠ 64) ∨ (0 ≤ Lib.indexByte s 64 ∧ s = s.take (Lib.indexByte s 64).toNat ++ 64 :: s.drop ((Lib.indexByte s 64).toNat + 1) ∧ (∀ c, c ∈ s.take (Lib.indexByte s 64).toNat → c.toNat ≠ 64))
  | [] => .inl ⟨rfl, fun c h => by simp at h⟩
  | b :: l => by
    have e64 : ∀ c : UInt8, c.toNat = 64 → c = 64 := fun c h => UInt8.toNat_inj.1 (by rw [h]; rfl)
    rw [Lib.indexByte]
    by_cases h : b = 64
    · subst h
      right
      simp
    · have hb : (b == 64) = false := by simpa using h
      simp only [hb, Bool.false_eq_true, if_false]
      rcases index_split l with ⟨h1, h2⟩ | ⟨h1, h2, h3⟩
      · left
        rw [h1]
        refine ⟨rfl, fun c hc => ?_⟩
        rcases List.mem_cons.1 hc with rfl | hc
        · exact fun e => h (e64 _ e)
        · exact h2 c hc
      · right
        have : (Lib.indexByte l 64 == -1) = false := by simp; omega
        simp only [this, Bool.false_eq_true, if_false]
        have e : (Lib.indexByte l 64 + 1).toNat = (Lib.indexByte l 64).toNat + 1 := by omega
        rw [e]
        refine ⟨by omega, ?_, fun c hc => ?_⟩
        · rw [List.take_succ_cons, List.cons_append, List.drop_succ_cons, ← h2]
        · rw [List.take_succ_cons] at hc
          rcases List.mem_cons.1 hc with rfl | hc
          · exact fun e => h (e64 _ e)
          · exact h3 c hc
theorem okName_eq (c : UInt8) : okName c = (inWB c || c.toNat == 45 || (c.toNat == 46 && decide ((-1 : Int) ≥ 0))) := by
  have e : ((c.toNat : Int) == 45) = (c.toNat == 45) := by
    cases h : (c.toNat == 45) with
    | true => have := eq_of_beq h; simp [this]
    | false => simp at h; simp; omega
  rw [okName, inWB, e]
  simp
theorem okHost_eq (c : UInt8) (a : Int) (ha : 0 ≤ a) : okHost c = (inWB c || c.toNat == 45 || (c.toNat == 46 && decide (a ≥ 0))) := by
  have e : ∀ n : Nat, ((c.toNat : Int) == (n : Int)) = (c.toNat == n) := fun n => by
    cases h : (c.toNat == n) with
    | true => have := eq_of_beq h; simp [this]
    | false => simp at h; simp; omega
  have e1 := e 45
  have e2 := e 46
  rw [okHost, inWB, decide_eq_true ha, Bool.and_true]
  show (_ || ((c.toNat : Int) == ((45 : Nat) : Int)) || ((c.toNat : Int) == ((46 : Nat) : Int))) = _
  rw [e1, e2]
theorem node_law (s : List UInt8) : rnodeF s = nodeF s := by
  rcases index_split s with ⟨h1, h2⟩ | ⟨h1, h2, h3⟩
  · have hf : has64 s = false := by rw [has64, h1]; rfl
    rw [rnodeF, fold_no _ _ _ _ h2, nodeF, hf]
    simp
  · have hf : has64 s = true := by rw [has64]; simpa using h1
    obtain ⟨n, hn⟩ : ∃ n, n = name64 s := ⟨_, rfl⟩
    obtain ⟨o, hoo⟩ : ∃ o, o = host64 s := ⟨_, rfl⟩
    have en : n = s.take (Lib.indexByte s 64).toNat := by rw [hn, name64, if_pos hf]
    have eo : o = s.drop ((Lib.indexByte s 64).toNat + 1) := by rw [hoo, host64, if_pos hf]
    rw [← en, ← eo] at h2
    rw [← en] at h3
    have hl : s.length = n.length + 1 + o.length := by rw [h2]; simp; omega
    rw [nodeF, hf, ← hn, ← hoo, rnodeF]
    have ef : ∀ g, nodeFold s 0 (g, -1) = nodeFold o (n.length + 1) (g && n.all okName, (n.length : Int)) := by
      intro g
      have ea : n.all (fun c => inWB c || c.toNat == 45 || (c.toNat == 46 && decide ((-1 : Int) ≥ 0))) = n.all okName := by
        congr 1; funext c; exact (okName_eq c).symm
      rw [h2, fold_append, fold_no _ _ _ _ h3, ea, nodeFold, nodeStep, if_pos (by rfl)]
      simp
    rw [ef]
    rcases index_split o with ⟨p1, p2⟩ | ⟨p1, p2, p3⟩
    · have hg : has64 o = false := by rw [has64, p1]; rfl
      have ea : o.all (fun c => inWB c || c.toNat == 45 || (c.toNat == 46 && decide ((n.length : Int) ≥ 0))) = o.all okHost := by
        congr 1; funext c; exact (okHost_eq c _ (by omega)).symm
      rw [fold_no _ _ _ _ p2, hg, ea]
      have q1 : (n == ([] : List UInt8)) = decide ((n.length : Int) < 1) := by
        cases n with
        | nil => rfl
        | cons a l => simp; omega
      have q2 : (o == ([] : List UInt8)) = ((n.length : Int) == (s.length : Int) - 1) := by
        cases o with
        | nil => rw [hl]; simp
        | cons a l =>
          have : ((n.length : Int) == (s.length : Int) - 1) = false := by rw [hl]; simp; omega
          rw [this]; rfl
      rw [q1, q2]
      by_cases b1 : (n.length : Int) < 1
      · simp [b1]
      by_cases b2 : ((n.length : Int) == (s.length : Int) - 1) = true
      · simp [b2]
      have b3 : 3 ≤ s.length := by simp at b2; omega
      have b2' : ((n.length : Int) == (s.length : Int) - 1) = false := by simpa using b2
      rw [decide_eq_false b1, b2', decide_eq_true b3]
      simp only [Bool.true_and, Bool.not_false, Bool.and_true]
    · have hg : has64 o = true := by rw [has64]; simpa using p1
      rw [fold_64 _ _ _ _ (by omega) ⟨64, by rw [p2]; simp, rfl⟩, hg]
      simp
theorem rnode_spec (s : List UInt8) (hs : s.length < 9223372036854775808) (h : Heap) : WC env 52 [.str s] h (fun o => ∃ a b, o = .ret ⟨.tup [.str a, .str b, rerrAV (if nodeF s then none else some (0, 24))], h, .none⟩) := by
  refine call_pure rfl rfl rfl rfl ?_
  have en : ∀ h, aLenOp true h (.str s) = some ⟨.int .i64 s.length, h, .none⟩ := fun h => rfl
  have rest : ∀ (σ : Slots), σ.get 0 = .str s → σ.get 5 = .int .i64 (-1) → σ.get 6 = .bool (decide (3 ≤ s.length) && decide (s.length ≤ 64)) → wpc env (.seq (.seq (.ops a52_3) (.block 0 (.loop a52_l11))) (.seq (.seq (.ops a52_12) (.cond (.t 63) (.seq (.ops a52_13) .ret) .skip)) (.seq (.draw a52_14 a52_14b) .ret))) ⟨σ, .empty⟩ (pureQ env a52.results h (fun o => ∃ a b, o = .ret ⟨.tup [.str a, .str b, rerrAV (if nodeF s then none else some (0, 24))], h, .none⟩)) := by
    intro σ g0 g5 g6
    rw [wpc_seq]
    simp only [a52_3, wpc_draw, s3, reduceIte, Nat.reduceEqDiff, aBin, aInt, negIf, Option.some.injEq, exists_eq_left', Option.map_some, Option.bind_some]
    refine rnode_loop hs (s.length + 1) 0 _ (decide (3 ≤ s.length) && decide (s.length ≤ 64)) (-1) (by omega) (by omega) ?_ ?_ ?_ ?_ fun σ' p0 p6 p5 => ?_
    · simp only [get_put, reduceIte, Nat.reduceEqDiff, g0]
    · simp only [get_put, reduceIte, Nat.reduceEqDiff, g5]
    · simp only [get_put, reduceIte, Nat.reduceEqDiff]; exact g6
    · simp only [get_put, reduceIte, Nat.reduceEqDiff]; rfl
    rw [List.drop_zero] at p6 p5
    have hat := fold_at s 0 (decide (3 ≤ s.length) && decide (s.length ≤ 64)) (-1) (by omega) (by omega)
    obtain ⟨p, ep⟩ : ∃ p, p = nodeFold s 0 (decide (3 ≤ s.length) && decide (s.length ≤ 64), -1) := ⟨_, rfl⟩
    rw [← ep] at p6 p5 hat
    have er : nodeF s = (p.1 && !decide (p.2 < 1) && !(p.2 == (s.length : Int) - 1)) := by rw [← node_law, rnodeF, ← ep]
    have bad : ∀ {σ2 : Slots}, nodeF s = false → wpo env a52_13 ⟨σ2, .empty⟩ (seqQ env .ret (seqQ env (.seq (.draw a52_14 a52_14b) .ret) (pureQ env a52.results h (fun o => ∃ a b, o = .ret ⟨.tup [.str a, .str b, rerrAV (if nodeF s then none else some (0, 24))], h, .none⟩)))) := by
      intro σ2 ef
      simp only [a52_13, wpc_draw, s3, reduceIte, Nat.reduceEqDiff, aBin, aInt, negIf, Option.some.injEq, exists_eq_left', Option.map_some, Option.bind_some, wc_eq (ratomNo_spec _ _ _)]
      exact ⟨[.str [], .str [], rerrAV (some (0, 24))], .tup [.str [], .str [], rerrAV (some (0, 24))], by simp only [a52, Env.results, Option.map_some, get_put, reduceIte, Nat.reduceEqDiff], (frz_noRef (v := .tup [.str [], .str [], rerrAV (some (0, 24))]) rfl).2 rfl, [], [], by rw [ef]; rfl⟩
    cases k1 : p.1 with
    | false =>
      rw [k1] at p6
      simp only [a52_12, wpo_u, s3, reduceIte, Nat.reduceEqDiff, aBin, aInt, negIf, Option.some.injEq, exists_eq_left', Option.map_some, Option.bind_some, p0, p6, aUn, aPick, Bool.not_false]
      exact bad (by rw [er, k1]; rfl)
    | true =>
    rw [k1] at p6
    by_cases k2 : p.2 < 1
    · have z2 : (p.2 < 1) = True := eq_true k2
      simp only [a52_12, wpo_u, s3, reduceIte, Nat.reduceEqDiff, aBin, aInt, negIf, Option.some.injEq, exists_eq_left', Option.map_some, Option.bind_some, p0, p5, p6, aUn, aPick, Bool.not_true, z2]
      exact bad (by rw [er, decide_eq_true k2]; simp)
    have z2 : (p.2 < 1) = False := eq_false k2
    have w1 : IntKind.wrap .i64 ((s.length : Int) - 1) = ((s.length - 1 : Nat) : Int) := wrap_nat (by omega) (by omega)
    have w1' : ((s.length - 1 : Nat) : Int) = (s.length : Int) - 1 := by omega
    cases k33 : (p.2 == (s.length : Int) - 1) with
    | true =>
      have z3 : (p.2 == ((s.length - 1 : Nat) : Int)) = true := by rw [w1']; exact k33
      simp only [a52_12, wpo_u, s3, reduceIte, Nat.reduceEqDiff, aBin, aInt, negIf, Option.some.injEq, exists_eq_left', Option.map_some, Option.bind_some, p0, p5, p6, en, aUn, aPick, Bool.not_true, z2, w1, z3]
      exact bad (by rw [er, k33]; simp)
    | false =>
    have z3 : (p.2 == ((s.length - 1 : Nat) : Int)) = false := by rw [w1']; exact k33
    have ef : nodeF s = true := by rw [er, k1, decide_eq_false k2, k33]; rfl
    obtain ⟨k, hk⟩ : ∃ k : Nat, p.2 = (k : Int) := ⟨p.2.toNat, by omega⟩
    rw [hk] at p5 z2 z3 hat
    have hat2 : (k : Int) < s.length := by simpa using hat.2
    have w2 : IntKind.wrap .i64 ((k : Int) + 1) = ((k + 1 : Nat) : Int) := wrap_nat (by omega) (by omega)
    have t1 := sliceStr_to (s := s) (k := k) (by omega)
    have t2 := sliceStr_from (s := s) (k := k + 1) (by omega)
    simp only [a52_12, wpo_u, s3, reduceIte, Nat.reduceEqDiff, aBin, aInt, negIf, Option.some.injEq, exists_eq_left', Option.map_some, Option.bind_some, p0, p5, p6, en, aUn, aPick, Bool.not_true, z2, w1, z3]
    refine wpc_draw_k ?_
    simp only [s3, reduceIte, Nat.reduceEqDiff, aBin, aInt, negIf, Option.some.injEq, exists_eq_left', Option.map_some, Option.bind_some, k3, a52_14, wp1_sliceStr, op_sliceStr, p0, p5, w2, t1, t2]
    refine ⟨rfl, ?_⟩
    exact ⟨[.str (s.take k), .str (s.drop (k + 1)), .nils], .tup [.str (s.take k), .str (s.drop (k + 1)), .nils], by simp only [a52, Env.results, Option.map_some, get_put, reduceIte, Nat.reduceEqDiff], (frz_noRef (v := .tup [.str (s.take k), .str (s.drop (k + 1)), .nils]) rfl).2 rfl, s.take k, s.drop (k + 1), by rw [ef]; rfl⟩
  have eb : a52.body = (.seq (.ops a52_0) (.seq (.ops a52_1) (.seq (.ops a52_2) (.seq (.seq (.ops a52_3) (.block 0 (.loop a52_l11))) (.seq (.seq (.ops a52_12) (.cond (.t 63) (.seq (.ops a52_13) .ret) .skip)) (.seq (.draw a52_14 a52_14b) .ret)))))) := rfl
  rw [eb, wpc_seq]
  by_cases c1 : 3 ≤ s.length
  case neg =>
    have z1 : ((s.length : Int) ≥ 3) = False := eq_false (by omega)
    simp only [a52_0, a52_1, a52_2, Slots.ofList, wpo_u, s3, reduceIte, Nat.reduceEqDiff, aBin, aInt, negIf, Option.some.injEq, exists_eq_left', Option.map_some, Option.bind_some, en, z1, aPick]
    refine rest _ ?_ ?_ ?_ <;> simp only [get_put, reduceIte, Nat.reduceEqDiff, decide_eq_false c1, Bool.false_and]
  have z1 : ((s.length : Int) ≥ 3) = True := eq_true (by omega)
  by_cases c2 : s.length ≤ 64
  · have z2 : ((s.length : Int) ≤ 64) = True := eq_true (by omega)
    simp only [a52_0, a52_1, a52_2, Slots.ofList, wpo_u, s3, reduceIte, Nat.reduceEqDiff, aBin, aInt, negIf, Option.some.injEq, exists_eq_left', Option.map_some, Option.bind_some, en, z1, z2, aPick]
    refine rest _ ?_ ?_ ?_ <;> simp only [get_put, reduceIte, Nat.reduceEqDiff, decide_eq_true c1, decide_eq_true c2, Bool.true_and]
  · have z2 : ((s.length : Int) ≤ 64) = False := eq_false (by omega)
    simp only [a52_0, a52_1, a52_2, Slots.ofList, wpo_u, s3, reduceIte, Nat.reduceEqDiff, aBin, aInt, negIf, Option.some.injEq, exists_eq_left', Option.map_some, Option.bind_some, en, z1, z2, aPick]
    refine rest _ ?_ ?_ ?_ <;> simp only [get_put, reduceIte, Nat.reduceEqDiff, decide_eq_true c1, decide_eq_false c2, Bool.true_and]
end Go.Bf

set_option linter.unusedVariables false
set_option linter.unusedSimpArgs false
set_option maxRecDepth 20000
namespace Go.Bf
open Go.AM
/-- one body is run in the heap that holds one part -/
theorem fin1 {s : St} {n : Nat} {v : AV} {h : Heap} {Q : COut → Prop} (hg : s.σ.get n = v) (hv : v.noRef = true) (h1 : v.one = true) (hq : Q (.ret ⟨v, h, .none⟩)) : pureQ env [.tmp n] h Q .ret s := by
  refine ⟨[v], v, by simp only [Env.results, Option.map_some, hg], ?_, hq⟩
  exact (frz_noRef (v := v) hv).2 rfl
theorem wc_ex {f : Nat} {args : List AV} {h : Heap} {α : Type} {r : α → COut} (w : WC env f args h (fun o => ∃ q, o = r q)) : ∃ q, WC env f args h (fun o => o = r q) := by
  obtain ⟨o, h1, q, h2⟩ := w
  exact ⟨q, o, h1, h2⟩
theorem form_one (a : Int) (x : Option (Int × Und)) : (formAV a x).one = true := by
  rcases x with _ | ⟨c, u⟩ <;> rfl
theorem form_k1 (i : Int) (s : List UInt8) (c : Int) (nf : Option Bool) (ns : List Int) (af : Option Bool) (ar : List Tm) (ho : Tm.Ok (.mk 1 i s c nf ns af ar)) (p : Int) (h : Heap) : WC env 130 [.agg (tc (.mk 1 i s c nf ns af ar)), .int .i64 p] h (fun o => o = .ret ⟨formAV p (formF (.mk 1 i s c nf ns af ar)), h, .none⟩) := by
  obtain ⟨ss, sn, sa, _⟩ := ho.lens
  refine call_pure rfl rfl rfl (by simp only [AV.noRefs, AV.noRef, noRef_tc, Bool.and_self, Bool.true_and]) ?_
  obtain ⟨t, et⟩ : ∃ t : Tm, t = (.mk 1 i s c nf ns af ar) := ⟨_, rfl⟩
  rw [← et]
  obtain ⟨cs, ec⟩ : ∃ cs, cs = tc t := ⟨_, rfl⟩
  obtain ⟨nv, en⟩ : ∃ nv, nv = slAV nf ns.length (u32s ns) := ⟨_, rfl⟩
  obtain ⟨av, ea⟩ : ∃ av, av = slAV af ar.length (tcs ar) := ⟨_, rfl⟩
  have ec' : cs = [.int .i64 1, .int .i64 i, .str s, .int .u32 c, nv, av] := by rw [ec, et, en, ea]; rfl
  obtain ⟨h1, eh1⟩ : ∃ h1, h1 = Heap.empty.new cs := ⟨_, rfl⟩
  have a1 : h1.at_ Heap.empty.next 0 = some [.int .i64 1, .int .i64 i, .str s, .int .u32 c, nv, av] := by rw [← ec', eh1]; exact at_new _
  rw [← ec]
  have y1 : (AV.agg cs).row = some cs := rfl
  have y2 : cs.length = 6 := by rw [ec']; rfl
  have l0 := ld60 a1
  have l1 := ld61 a1
  have l2 := ld62 a1
  have l4 := ld64 a1
  have l5 := ld65 a1
  have l6 : aLoad h1 true 6 (.ptr Heap.empty.next 0 0) = some ⟨.agg cs, h1, .read⟩ := by rw [ec']; exact ld6 a1
  have we : ∀ bt bn ba h, WC env 139 [.agg cs, .bool bt, .bool bn, .bool ba] h (fun o => o = .ret ⟨.bool (emptyF t bt bn ba), h, .none⟩) := fun bt bn ba h => by rw [ec]; exact empty_spec t bt bn ba h
  have nl : ∀ h, aLenOp false h nv = some ⟨.int .i64 ns.length, h, .none⟩ := fun h => by rw [en]; exact len_sl _ _ _ (fun _ => trivial) h
  have al : ∀ h, aLenOp false h av = some ⟨.int .i64 ar.length, h, .none⟩ := fun h => by rw [ea]; exact len_sl _ _ _ (fun _ => trivial) h
  cases e1 : emptyF t false false false with
  | false =>
    have ef : formF t = some (40, none) := by rw [et, formF, ← et, if_pos (by rw [et, kindOk, ← et]; simp [e1])]
    simp only [a130, a130_0, a130_1, a130_2, a130_3, a130_4, a130_17, Slots.ofList, wpo_u, wpc_draw, s3, reduceIte, Nat.reduceEqDiff, aBin, aInt, negIf, Option.some.injEq, exists_eq_left', Option.map_some, Option.bind_some, y1, y2, ← eh1, aFieldAddr, Nat.zero_add, l0, l6, wc_eq (we _ _ _ _), nl, al, aUn, aPick, Int.reduceBEq, Int.reduceBNe, Int.reduceEq, Nat.reduceBEq, a130_18, Bool.not_false, wc_eq (tfault_nil _ _ _), e1]
    exact fin1 (v := formAV p (formF t)) (by simp only [get_put, reduceIte, Nat.reduceEqDiff]; rw [ef]; rfl) (noRef_form _ _) (form_one _ _) rfl
  | true =>
    have ek : ¬ kindOk t = false := by rw [et, kindOk, ← et]; simp [e1]
    by_cases c1 : i < -576460752303423488
    · have z1 : (i < -576460752303423488) = True := eq_true c1
      have ef : formF t = some (2, none) := by rw [et, formF, ← et, if_neg ek, if_pos rfl, if_pos (.inl c1)]
      simp only [a130, a130_0, a130_1, a130_2, a130_3, a130_4, a130_17, Slots.ofList, wpo_u, wpc_draw, s3, reduceIte, Nat.reduceEqDiff, aBin, aInt, negIf, Option.some.injEq, exists_eq_left', Option.map_some, Option.bind_some, y1, y2, ← eh1, aFieldAddr, Nat.zero_add, l0, l6, wc_eq (we _ _ _ _), nl, al, aUn, aPick, Int.reduceBEq, Int.reduceBNe, Int.reduceEq, Nat.reduceBEq, a130_19, a130_20, Bool.not_true, e1, a130_21, a130_22, a130_23, l1, z1, wc_eq (tfault_nil _ _ _)]
      exact fin1 (v := formAV p (formF t)) (by simp only [get_put, reduceIte, Nat.reduceEqDiff]; rw [ef]; rfl) (noRef_form _ _) (form_one _ _) rfl
    have z1 : (i < -576460752303423488) = False := eq_false c1
    by_cases c2 : i > 576460752303423487
    · have z2 : (i > 576460752303423487) = True := eq_true c2
      have ef : formF t = some (2, none) := by rw [et, formF, ← et, if_neg ek, if_pos rfl, if_pos (.inr c2)]
      simp only [a130, a130_0, a130_1, a130_2, a130_3, a130_4, a130_17, Slots.ofList, wpo_u, wpc_draw, s3, reduceIte, Nat.reduceEqDiff, aBin, aInt, negIf, Option.some.injEq, exists_eq_left', Option.map_some, Option.bind_some, y1, y2, ← eh1, aFieldAddr, Nat.zero_add, l0, l6, wc_eq (we _ _ _ _), nl, al, aUn, aPick, Int.reduceBEq, Int.reduceBNe, Int.reduceEq, Nat.reduceBEq, a130_19, a130_20, Bool.not_true, e1, a130_21, a130_22, a130_23, l1, z1, z2, wc_eq (tfault_nil _ _ _)]
      exact fin1 (v := formAV p (formF t)) (by simp only [get_put, reduceIte, Nat.reduceEqDiff]; rw [ef]; rfl) (noRef_form _ _) (form_one _ _) rfl
    have z2 : (i > 576460752303423487) = False := eq_false c2
    have ef : formF t = none := by rw [et, formF, ← et, if_neg ek, if_pos rfl, if_neg (by rintro (h | h); exact c1 h; exact c2 h)]
    simp only [a130, a130_0, a130_1, a130_2, a130_3, a130_4, a130_17, Slots.ofList, wpo_u, wpc_draw, s3, reduceIte, Nat.reduceEqDiff, aBin, aInt, negIf, Option.some.injEq, exists_eq_left', Option.map_some, Option.bind_some, y1, y2, ← eh1, aFieldAddr, Nat.zero_add, l0, l6, wc_eq (we _ _ _ _), nl, al, aUn, aPick, Int.reduceBEq, Int.reduceBNe, Int.reduceEq, Nat.reduceBEq, a130_19, a130_20, Bool.not_true, e1, a130_21, a130_22, a130_29, a130_31, l1, z1, z2, eq_nil]
    exact fin1 (v := formAV p (formF t)) (by simp only [get_put, reduceIte, Nat.reduceEqDiff]; rw [ef]; rfl) (noRef_form _ _) (form_one _ _) rfl
theorem form_k2 (i : Int) (s : List UInt8) (c : Int) (nf : Option Bool) (ns : List Int) (af : Option Bool) (ar : List Tm) (ho : Tm.Ok (.mk 2 i s c nf ns af ar)) (p : Int) (h : Heap) : WC env 130 [.agg (tc (.mk 2 i s c nf ns af ar)), .int .i64 p] h (fun o => o = .ret ⟨formAV p (formF (.mk 2 i s c nf ns af ar)), h, .none⟩) := by
  obtain ⟨ss, sn, sa, _⟩ := ho.lens
  refine call_pure rfl rfl rfl (by simp only [AV.noRefs, AV.noRef, noRef_tc, Bool.and_self, Bool.true_and]) ?_
  obtain ⟨t, et⟩ : ∃ t : Tm, t = (.mk 2 i s c nf ns af ar) := ⟨_, rfl⟩
  rw [← et]
  obtain ⟨cs, ec⟩ : ∃ cs, cs = tc t := ⟨_, rfl⟩
  obtain ⟨nv, en⟩ : ∃ nv, nv = slAV nf ns.length (u32s ns) := ⟨_, rfl⟩
  obtain ⟨av, ea⟩ : ∃ av, av = slAV af ar.length (tcs ar) := ⟨_, rfl⟩
  have ec' : cs = [.int .i64 2, .int .i64 i, .str s, .int .u32 c, nv, av] := by rw [ec, et, en, ea]; rfl
  obtain ⟨h1, eh1⟩ : ∃ h1, h1 = Heap.empty.new cs := ⟨_, rfl⟩
  have a1 : h1.at_ Heap.empty.next 0 = some [.int .i64 2, .int .i64 i, .str s, .int .u32 c, nv, av] := by rw [← ec', eh1]; exact at_new _
  rw [← ec]
  have y1 : (AV.agg cs).row = some cs := rfl
  have y2 : cs.length = 6 := by rw [ec']; rfl
  have l0 := ld60 a1
  have l1 := ld61 a1
  have l2 := ld62 a1
  have l4 := ld64 a1
  have l5 := ld65 a1
  have l6 : aLoad h1 true 6 (.ptr Heap.empty.next 0 0) = some ⟨.agg cs, h1, .read⟩ := by rw [ec']; exact ld6 a1
  have we : ∀ bt bn ba h, WC env 139 [.agg cs, .bool bt, .bool bn, .bool ba] h (fun o => o = .ret ⟨.bool (emptyF t bt bn ba), h, .none⟩) := fun bt bn ba h => by rw [ec]; exact empty_spec t bt bn ba h
  have nl : ∀ h, aLenOp false h nv = some ⟨.int .i64 ns.length, h, .none⟩ := fun h => by rw [en]; exact len_sl _ _ _ (fun _ => trivial) h
  have al : ∀ h, aLenOp false h av = some ⟨.int .i64 ar.length, h, .none⟩ := fun h => by rw [ea]; exact len_sl _ _ _ (fun _ => trivial) h
  cases e1 : emptyF t true false false with
  | false =>
    have ef : formF t = some (40, none) := by rw [et, formF, ← et, if_pos (by rw [et, kindOk, ← et]; simp [e1])]
    simp only [a130, a130_0, a130_1, a130_2, a130_3, a130_5, a130_6, a130_17, Slots.ofList, wpo_u, wpc_draw, s3, reduceIte, Nat.reduceEqDiff, aBin, aInt, negIf, Option.some.injEq, exists_eq_left', Option.map_some, Option.bind_some, y1, y2, ← eh1, aFieldAddr, Nat.zero_add, l0, l6, wc_eq (we _ _ _ _), nl, al, aUn, aPick, Int.reduceBEq, Int.reduceBNe, Int.reduceEq, Nat.reduceBEq, a130_18, Bool.not_false, wc_eq (tfault_nil _ _ _), e1]
    exact fin1 (v := formAV p (formF t)) (by simp only [get_put, reduceIte, Nat.reduceEqDiff]; rw [ef]; rfl) (noRef_form _ _) (form_one _ _) rfl
  | true =>
    have ek : ¬ kindOk t = false := by rw [et, kindOk, ← et]; simp [e1]
    obtain ⟨q, wq⟩ := wc_ex (quote_spec s h1)
    cases eq : quoteErr s with
    | none =>
      rw [eq] at wq
      have wq : WC env 140 [.str s] h1 (fun o => o = .ret ⟨.tup [.str q, .nili], h1, .none⟩) := wq
      have ef : formF t = none := by rw [et, formF, ← et, if_neg ek, if_neg (by decide), if_pos rfl, eq]
      simp only [a130, a130_0, a130_1, a130_2, a130_3, a130_5, a130_6, a130_17, Slots.ofList, wpo_u, wpc_draw, s3, reduceIte, Nat.reduceEqDiff, aBin, aInt, negIf, Option.some.injEq, exists_eq_left', Option.map_some, Option.bind_some, y1, y2, ← eh1, aFieldAddr, Nat.zero_add, l0, l6, wc_eq (we _ _ _ _), nl, al, aUn, aPick, Int.reduceBEq, Int.reduceBNe, Int.reduceEq, Nat.reduceBEq, a130_19, a130_20, Bool.not_true, e1, a130_21, a130_24, a130_25, a130_29, a130_31, l2, wc_eq wq, aExtract, ex0, ex1, eq_nil]
      exact fin1 (v := formAV p (formF t)) (by simp only [get_put, reduceIte, Nat.reduceEqDiff]; rw [ef]; rfl) (noRef_form _ _) (form_one _ _) rfl
    | some pc =>
      obtain ⟨pp, cc⟩ := pc
      rw [eq] at wq
      have wq : WC env 140 [.str s] h1 (fun o => o = .ret ⟨.tup [.str q, errA pp cc], h1, .none⟩) := wq
      have ef : formF t = some (cc, some (pp, cc)) := by rw [et, formF, ← et, if_neg ek, if_neg (by decide), if_pos rfl, eq]
      simp only [a130, a130_0, a130_1, a130_2, a130_3, a130_5, a130_6, a130_17, Slots.ofList, wpo_u, wpc_draw, s3, reduceIte, Nat.reduceEqDiff, aBin, aInt, negIf, Option.some.injEq, exists_eq_left', Option.map_some, Option.bind_some, y1, y2, ← eh1, aFieldAddr, Nat.zero_add, l0, l6, wc_eq (we _ _ _ _), nl, al, aUn, aPick, Int.reduceBEq, Int.reduceBNe, Int.reduceEq, Nat.reduceBEq, a130_19, a130_20, Bool.not_true, e1, a130_21, a130_24, a130_25, a130_29, a130_30, l2, wc_eq wq, aExtract, ex0, ex1, aEq_errA, Bool.not_false, wc_eq (tcode_err _ _ _), wc_eq (tfault_err _ _ _ _ _)]
      exact fin1 (v := formAV p (formF t)) (by simp only [get_put, reduceIte, Nat.reduceEqDiff]; rw [ef]; rfl) (noRef_form _ _) (form_one _ _) rfl
theorem form_k3 (i : Int) (s : List UInt8) (c : Int) (nf : Option Bool) (ns : List Int) (af : Option Bool) (ar : List Tm) (ho : Tm.Ok (.mk 3 i s c nf ns af ar)) (p : Int) (h : Heap) : WC env 130 [.agg (tc (.mk 3 i s c nf ns af ar)), .int .i64 p] h (fun o => o = .ret ⟨formAV p (formF (.mk 3 i s c nf ns af ar)), h, .none⟩) := by
  obtain ⟨ss, sn, sa, _⟩ := ho.lens
  refine call_pure rfl rfl rfl (by simp only [AV.noRefs, AV.noRef, noRef_tc, Bool.and_self, Bool.true_and]) ?_
  obtain ⟨t, et⟩ : ∃ t : Tm, t = (.mk 3 i s c nf ns af ar) := ⟨_, rfl⟩
  rw [← et]
  obtain ⟨cs, ec⟩ : ∃ cs, cs = tc t := ⟨_, rfl⟩
  obtain ⟨nv, en⟩ : ∃ nv, nv = slAV nf ns.length (u32s ns) := ⟨_, rfl⟩
  obtain ⟨av, ea⟩ : ∃ av, av = slAV af ar.length (tcs ar) := ⟨_, rfl⟩
  have ec' : cs = [.int .i64 3, .int .i64 i, .str s, .int .u32 c, nv, av] := by rw [ec, et, en, ea]; rfl
  obtain ⟨h1, eh1⟩ : ∃ h1, h1 = Heap.empty.new cs := ⟨_, rfl⟩
  have a1 : h1.at_ Heap.empty.next 0 = some [.int .i64 3, .int .i64 i, .str s, .int .u32 c, nv, av] := by rw [← ec', eh1]; exact at_new _
  rw [← ec]
  have y1 : (AV.agg cs).row = some cs := rfl
  have y2 : cs.length = 6 := by rw [ec']; rfl
  have l0 := ld60 a1
  have l1 := ld61 a1
  have l2 := ld62 a1
  have l4 := ld64 a1
  have l5 := ld65 a1
  have l6 : aLoad h1 true 6 (.ptr Heap.empty.next 0 0) = some ⟨.agg cs, h1, .read⟩ := by rw [ec']; exact ld6 a1
  have we : ∀ bt bn ba h, WC env 139 [.agg cs, .bool bt, .bool bn, .bool ba] h (fun o => o = .ret ⟨.bool (emptyF t bt bn ba), h, .none⟩) := fun bt bn ba h => by rw [ec]; exact empty_spec t bt bn ba h
  have nl : ∀ h, aLenOp false h nv = some ⟨.int .i64 ns.length, h, .none⟩ := fun h => by rw [en]; exact len_sl _ _ _ (fun _ => trivial) h
  have al : ∀ h, aLenOp false h av = some ⟨.int .i64 ar.length, h, .none⟩ := fun h => by rw [ea]; exact len_sl _ _ _ (fun _ => trivial) h
  cases e1 : emptyF t true true false with
  | false =>
    have ef : formF t = some (40, none) := by rw [et, formF, ← et, if_pos (by rw [et, kindOk, ← et]; simp [e1])]
    simp only [a130, a130_0, a130_1, a130_2, a130_3, a130_5, a130_7, a130_8, a130_17, Slots.ofList, wpo_u, wpc_draw, s3, reduceIte, Nat.reduceEqDiff, aBin, aInt, negIf, Option.some.injEq, exists_eq_left', Option.map_some, Option.bind_some, y1, y2, ← eh1, aFieldAddr, Nat.zero_add, l0, l6, wc_eq (we _ _ _ _), nl, al, aUn, aPick, Int.reduceBEq, Int.reduceBNe, Int.reduceEq, Nat.reduceBEq, a130_18, Bool.not_false, wc_eq (tfault_nil _ _ _), e1]
    exact fin1 (v := formAV p (formF t)) (by simp only [get_put, reduceIte, Nat.reduceEqDiff]; rw [ef]; rfl) (noRef_form _ _) (form_one _ _) rfl
  | true =>
    cases e2 : (ns.length == 3) with
    | false =>
      have z : ((ns.length : Int) == 3) = false := by simp at e2 ⊢; omega
      have ef : formF t = some (40, none) := by rw [et, formF, ← et, if_pos (by rw [et, kindOk, ← et]; simp [e1, e2])]
      simp only [a130, a130_0, a130_1, a130_2, a130_3, a130_5, a130_7, a130_8, a130_17, Slots.ofList, wpo_u, wpc_draw, s3, reduceIte, Nat.reduceEqDiff, aBin, aInt, negIf, Option.some.injEq, exists_eq_left', Option.map_some, Option.bind_some, y1, y2, ← eh1, aFieldAddr, Nat.zero_add, l0, l6, wc_eq (we _ _ _ _), nl, al, aUn, aPick, Int.reduceBEq, Int.reduceBNe, Int.reduceEq, Nat.reduceBEq, a130_18, Bool.not_false, wc_eq (tfault_nil _ _ _), e1, l4, z]
      exact fin1 (v := formAV p (formF t)) (by simp only [get_put, reduceIte, Nat.reduceEqDiff]; rw [ef]; rfl) (noRef_form _ _) (form_one _ _) rfl
    | true =>
      have z : ((ns.length : Int) == 3) = true := by simp at e2 ⊢; omega
      have ek : ¬ kindOk t = false := by rw [et, kindOk, ← et]; simp [e1, e2]
      obtain ⟨q1, q2, wq⟩ := wc_ex2 (node_spec s ss h1)
      cases eq : nodeF s with
      | true =>
        rw [eq] at wq
        have wq : WC env 141 [.str s] h1 (fun o => o = .ret ⟨.tup [.str q1, .str q2, .nili], h1, .none⟩) := wq
        have ef : formF t = none := by rw [et, formF, ← et, if_neg ek, if_neg (by decide), if_neg (by decide), if_pos (by decide), eq]; rfl
        simp only [a130, a130_0, a130_1, a130_2, a130_3, a130_5, a130_7, a130_8, a130_17, Slots.ofList, wpo_u, wpc_draw, s3, reduceIte, Nat.reduceEqDiff, aBin, aInt, negIf, Option.some.injEq, exists_eq_left', Option.map_some, Option.bind_some, y1, y2, ← eh1, aFieldAddr, Nat.zero_add, l0, l6, wc_eq (we _ _ _ _), nl, al, aUn, aPick, Int.reduceBEq, Int.reduceBNe, Int.reduceEq, Nat.reduceBEq, a130_19, a130_20, Bool.not_true, e1, l4, z, a130_21, a130_24, a130_26, a130_28, a130_29, a130_31, l2, wc_eq wq, aExtract, x30, x31, x32, eq_nil]
        exact fin1 (v := formAV p (formF t)) (by simp only [get_put, reduceIte, Nat.reduceEqDiff]; rw [ef]; rfl) (noRef_form _ _) (form_one _ _) rfl
      | false =>
        rw [eq] at wq
        have wq : WC env 141 [.str s] h1 (fun o => o = .ret ⟨.tup [.str q1, .str q2, errA 0 24], h1, .none⟩) := wq
        have ef : formF t = some (24, some (0, 24)) := by rw [et, formF, ← et, if_neg ek, if_neg (by decide), if_neg (by decide), if_pos (by decide), eq]; rfl
        simp only [a130, a130_0, a130_1, a130_2, a130_3, a130_5, a130_7, a130_8, a130_17, Slots.ofList, wpo_u, wpc_draw, s3, reduceIte, Nat.reduceEqDiff, aBin, aInt, negIf, Option.some.injEq, exists_eq_left', Option.map_some, Option.bind_some, y1, y2, ← eh1, aFieldAddr, Nat.zero_add, l0, l6, wc_eq (we _ _ _ _), nl, al, aUn, aPick, Int.reduceBEq, Int.reduceBNe, Int.reduceEq, Nat.reduceBEq, a130_19, a130_20, Bool.not_true, e1, l4, z, a130_21, a130_24, a130_26, a130_28, a130_29, a130_30, l2, wc_eq wq, aExtract, x30, x31, x32, aEq_errA, Bool.not_false, wc_eq (tcode_err _ _ _), wc_eq (tfault_err _ _ _ _ _)]
        exact fin1 (v := formAV p (formF t)) (by simp only [get_put, reduceIte, Nat.reduceEqDiff]; rw [ef]; rfl) (noRef_form _ _) (form_one _ _) rfl
theorem form_k4 (i : Int) (s : List UInt8) (c : Int) (nf : Option Bool) (ns : List Int) (af : Option Bool) (ar : List Tm) (ho : Tm.Ok (.mk 4 i s c nf ns af ar)) (p : Int) (h : Heap) : WC env 130 [.agg (tc (.mk 4 i s c nf ns af ar)), .int .i64 p] h (fun o => o = .ret ⟨formAV p (formF (.mk 4 i s c nf ns af ar)), h, .none⟩) := by
  obtain ⟨ss, sn, sa, _⟩ := ho.lens
  refine call_pure rfl rfl rfl (by simp only [AV.noRefs, AV.noRef, noRef_tc, Bool.and_self, Bool.true_and]) ?_
  obtain ⟨t, et⟩ : ∃ t : Tm, t = (.mk 4 i s c nf ns af ar) := ⟨_, rfl⟩
  rw [← et]
  obtain ⟨cs, ec⟩ : ∃ cs, cs = tc t := ⟨_, rfl⟩
  obtain ⟨nv, en⟩ : ∃ nv, nv = slAV nf ns.length (u32s ns) := ⟨_, rfl⟩
  obtain ⟨av, ea⟩ : ∃ av, av = slAV af ar.length (tcs ar) := ⟨_, rfl⟩
  have ec' : cs = [.int .i64 4, .int .i64 i, .str s, .int .u32 c, nv, av] := by rw [ec, et, en, ea]; rfl
  obtain ⟨h1, eh1⟩ : ∃ h1, h1 = Heap.empty.new cs := ⟨_, rfl⟩
  have a1 : h1.at_ Heap.empty.next 0 = some [.int .i64 4, .int .i64 i, .str s, .int .u32 c, nv, av] := by rw [← ec', eh1]; exact at_new _
  rw [← ec]
  have y1 : (AV.agg cs).row = some cs := rfl
  have y2 : cs.length = 6 := by rw [ec']; rfl
  have l0 := ld60 a1
  have l1 := ld61 a1
  have l2 := ld62 a1
  have l4 := ld64 a1
  have l5 := ld65 a1
  have l6 : aLoad h1 true 6 (.ptr Heap.empty.next 0 0) = some ⟨.agg cs, h1, .read⟩ := by rw [ec']; exact ld6 a1
  have we : ∀ bt bn ba h, WC env 139 [.agg cs, .bool bt, .bool bn, .bool ba] h (fun o => o = .ret ⟨.bool (emptyF t bt bn ba), h, .none⟩) := fun bt bn ba h => by rw [ec]; exact empty_spec t bt bn ba h
  have nl : ∀ h, aLenOp false h nv = some ⟨.int .i64 ns.length, h, .none⟩ := fun h => by rw [en]; exact len_sl _ _ _ (fun _ => trivial) h
  have al : ∀ h, aLenOp false h av = some ⟨.int .i64 ar.length, h, .none⟩ := fun h => by rw [ea]; exact len_sl _ _ _ (fun _ => trivial) h
  cases e1 : emptyF t true true false with
  | false =>
    have ef : formF t = some (40, none) := by rw [et, formF, ← et, if_pos (by rw [et, kindOk, ← et]; simp [e1])]
    simp only [a130, a130_0, a130_1, a130_2, a130_3, a130_5, a130_7, a130_9, a130_10, a130_17, Slots.ofList, wpo_u, wpc_draw, s3, reduceIte, Nat.reduceEqDiff, aBin, aInt, negIf, Option.some.injEq, exists_eq_left', Option.map_some, Option.bind_some, y1, y2, ← eh1, aFieldAddr, Nat.zero_add, l0, l6, wc_eq (we _ _ _ _), nl, al, aUn, aPick, Int.reduceBEq, Int.reduceBNe, Int.reduceEq, Nat.reduceBEq, a130_18, Bool.not_false, wc_eq (tfault_nil _ _ _), e1]
    exact fin1 (v := formAV p (formF t)) (by simp only [get_put, reduceIte, Nat.reduceEqDiff]; rw [ef]; rfl) (noRef_form _ _) (form_one _ _) rfl
  | true =>
    cases e2 : (ns.length == 2) with
    | false =>
      have z : ((ns.length : Int) == 2) = false := by simp at e2 ⊢; omega
      have ef : formF t = some (40, none) := by rw [et, formF, ← et, if_pos (by rw [et, kindOk, ← et]; simp [e1, e2])]
      simp only [a130, a130_0, a130_1, a130_2, a130_3, a130_5, a130_7, a130_9, a130_10, a130_17, Slots.ofList, wpo_u, wpc_draw, s3, reduceIte, Nat.reduceEqDiff, aBin, aInt, negIf, Option.some.injEq, exists_eq_left', Option.map_some, Option.bind_some, y1, y2, ← eh1, aFieldAddr, Nat.zero_add, l0, l6, wc_eq (we _ _ _ _), nl, al, aUn, aPick, Int.reduceBEq, Int.reduceBNe, Int.reduceEq, Nat.reduceBEq, a130_18, Bool.not_false, wc_eq (tfault_nil _ _ _), e1, l4, z]
      exact fin1 (v := formAV p (formF t)) (by simp only [get_put, reduceIte, Nat.reduceEqDiff]; rw [ef]; rfl) (noRef_form _ _) (form_one _ _) rfl
    | true =>
      have z : ((ns.length : Int) == 2) = true := by simp at e2 ⊢; omega
      have ek : ¬ kindOk t = false := by rw [et, kindOk, ← et]; simp [e1, e2]
      obtain ⟨q1, q2, wq⟩ := wc_ex2 (node_spec s ss h1)
      cases eq : nodeF s with
      | true =>
        rw [eq] at wq
        have wq : WC env 141 [.str s] h1 (fun o => o = .ret ⟨.tup [.str q1, .str q2, .nili], h1, .none⟩) := wq
        have ef : formF t = none := by rw [et, formF, ← et, if_neg ek, if_neg (by decide), if_neg (by decide), if_pos (by decide), eq]; rfl
        simp only [a130, a130_0, a130_1, a130_2, a130_3, a130_5, a130_7, a130_9, a130_10, a130_17, Slots.ofList, wpo_u, wpc_draw, s3, reduceIte, Nat.reduceEqDiff, aBin, aInt, negIf, Option.some.injEq, exists_eq_left', Option.map_some, Option.bind_some, y1, y2, ← eh1, aFieldAddr, Nat.zero_add, l0, l6, wc_eq (we _ _ _ _), nl, al, aUn, aPick, Int.reduceBEq, Int.reduceBNe, Int.reduceEq, Nat.reduceBEq, a130_19, a130_20, Bool.not_true, e1, l4, z, a130_21, a130_24, a130_26, a130_27, a130_28, a130_29, a130_31, l2, wc_eq wq, aExtract, x30, x31, x32, eq_nil]
        exact fin1 (v := formAV p (formF t)) (by simp only [get_put, reduceIte, Nat.reduceEqDiff]; rw [ef]; rfl) (noRef_form _ _) (form_one _ _) rfl
      | false =>
        rw [eq] at wq
        have wq : WC env 141 [.str s] h1 (fun o => o = .ret ⟨.tup [.str q1, .str q2, errA 0 24], h1, .none⟩) := wq
        have ef : formF t = some (24, some (0, 24)) := by rw [et, formF, ← et, if_neg ek, if_neg (by decide), if_neg (by decide), if_pos (by decide), eq]; rfl
        simp only [a130, a130_0, a130_1, a130_2, a130_3, a130_5, a130_7, a130_9, a130_10, a130_17, Slots.ofList, wpo_u, wpc_draw, s3, reduceIte, Nat.reduceEqDiff, aBin, aInt, negIf, Option.some.injEq, exists_eq_left', Option.map_some, Option.bind_some, y1, y2, ← eh1, aFieldAddr, Nat.zero_add, l0, l6, wc_eq (we _ _ _ _), nl, al, aUn, aPick, Int.reduceBEq, Int.reduceBNe, Int.reduceEq, Nat.reduceBEq, a130_19, a130_20, Bool.not_true, e1, l4, z, a130_21, a130_24, a130_26, a130_27, a130_28, a130_29, a130_30, l2, wc_eq wq, aExtract, x30, x31, x32, aEq_errA, Bool.not_false, wc_eq (tcode_err _ _ _), wc_eq (tfault_err _ _ _ _ _)]
        exact fin1 (v := formAV p (formF t)) (by simp only [get_put, reduceIte, Nat.reduceEqDiff]; rw [ef]; rfl) (noRef_form _ _) (form_one _ _) rfl
theorem form_k5 (i : Int) (s : List UInt8) (c : Int) (nf : Option Bool) (ns : List Int) (af : Option Bool) (ar : List Tm) (ho : Tm.Ok (.mk 5 i s c nf ns af ar)) (p : Int) (h : Heap) : WC env 130 [.agg (tc (.mk 5 i s c nf ns af ar)), .int .i64 p] h (fun o => o = .ret ⟨formAV p (formF (.mk 5 i s c nf ns af ar)), h, .none⟩) := by
  obtain ⟨ss, sn, sa, _⟩ := ho.lens
  refine call_pure rfl rfl rfl (by simp only [AV.noRefs, AV.noRef, noRef_tc, Bool.and_self, Bool.true_and]) ?_
  obtain ⟨t, et⟩ : ∃ t : Tm, t = (.mk 5 i s c nf ns af ar) := ⟨_, rfl⟩
  rw [← et]
  obtain ⟨cs, ec⟩ : ∃ cs, cs = tc t := ⟨_, rfl⟩
  obtain ⟨nv, en⟩ : ∃ nv, nv = slAV nf ns.length (u32s ns) := ⟨_, rfl⟩
  obtain ⟨av, ea⟩ : ∃ av, av = slAV af ar.length (tcs ar) := ⟨_, rfl⟩
  have ec' : cs = [.int .i64 5, .int .i64 i, .str s, .int .u32 c, nv, av] := by rw [ec, et, en, ea]; rfl
  obtain ⟨h1, eh1⟩ : ∃ h1, h1 = Heap.empty.new cs := ⟨_, rfl⟩
  have a1 : h1.at_ Heap.empty.next 0 = some [.int .i64 5, .int .i64 i, .str s, .int .u32 c, nv, av] := by rw [← ec', eh1]; exact at_new _
  rw [← ec]
  have y1 : (AV.agg cs).row = some cs := rfl
  have y2 : cs.length = 6 := by rw [ec']; rfl
  have l0 := ld60 a1
  have l1 := ld61 a1
  have l2 := ld62 a1
  have l4 := ld64 a1
  have l5 := ld65 a1
  have l6 : aLoad h1 true 6 (.ptr Heap.empty.next 0 0) = some ⟨.agg cs, h1, .read⟩ := by rw [ec']; exact ld6 a1
  have we : ∀ bt bn ba h, WC env 139 [.agg cs, .bool bt, .bool bn, .bool ba] h (fun o => o = .ret ⟨.bool (emptyF t bt bn ba), h, .none⟩) := fun bt bn ba h => by rw [ec]; exact empty_spec t bt bn ba h
  have nl : ∀ h, aLenOp false h nv = some ⟨.int .i64 ns.length, h, .none⟩ := fun h => by rw [en]; exact len_sl _ _ _ (fun _ => trivial) h
  have al : ∀ h, aLenOp false h av = some ⟨.int .i64 ar.length, h, .none⟩ := fun h => by rw [ea]; exact len_sl _ _ _ (fun _ => trivial) h
  cases e1 : emptyF t false false true with
  | false =>
    have ef : formF t = some (40, none) := by rw [et, formF, ← et, if_pos (by rw [et, kindOk, ← et]; simp [e1])]
    simp only [a130, a130_0, a130_1, a130_2, a130_3, a130_5, a130_7, a130_9, a130_11, a130_12, a130_17, Slots.ofList, wpo_u, wpc_draw, s3, reduceIte, Nat.reduceEqDiff, aBin, aInt, negIf, Option.some.injEq, exists_eq_left', Option.map_some, Option.bind_some, y1, y2, ← eh1, aFieldAddr, Nat.zero_add, l0, l6, wc_eq (we _ _ _ _), nl, al, aUn, aPick, Int.reduceBEq, Int.reduceBNe, Int.reduceEq, Nat.reduceBEq, a130_18, Bool.not_false, wc_eq (tfault_nil _ _ _), e1]
    exact fin1 (v := formAV p (formF t)) (by simp only [get_put, reduceIte, Nat.reduceEqDiff]; rw [ef]; rfl) (noRef_form _ _) (form_one _ _) rfl
  | true =>
    have ek : ¬ kindOk t = false := by rw [et, kindOk, ← et]; simp [e1]
    have ef : formF t = none := by rw [et, formF, ← et, if_neg ek, if_neg (by decide), if_neg (by decide), if_neg (by decide)]
    simp only [a130, a130_0, a130_1, a130_2, a130_3, a130_5, a130_7, a130_9, a130_11, a130_12, a130_17, Slots.ofList, wpo_u, wpc_draw, s3, reduceIte, Nat.reduceEqDiff, aBin, aInt, negIf, Option.some.injEq, exists_eq_left', Option.map_some, Option.bind_some, y1, y2, ← eh1, aFieldAddr, Nat.zero_add, l0, l6, wc_eq (we _ _ _ _), nl, al, aUn, aPick, Int.reduceBEq, Int.reduceBNe, Int.reduceEq, Nat.reduceBEq, a130_19, a130_20, Bool.not_true, e1, a130_21, a130_24, a130_26, a130_27, a130_29, a130_31, eq_nil]
    exact fin1 (v := formAV p (formF t)) (by simp only [get_put, reduceIte, Nat.reduceEqDiff]; rw [ef]; rfl) (noRef_form _ _) (form_one _ _) rfl
theorem form_k6 (i : Int) (s : List UInt8) (c : Int) (nf : Option Bool) (ns : List Int) (af : Option Bool) (ar : List Tm) (ho : Tm.Ok (.mk 6 i s c nf ns af ar)) (p : Int) (h : Heap) : WC env 130 [.agg (tc (.mk 6 i s c nf ns af ar)), .int .i64 p] h (fun o => o = .ret ⟨formAV p (formF (.mk 6 i s c nf ns af ar)), h, .none⟩) := by
  obtain ⟨ss, sn, sa, _⟩ := ho.lens
  refine call_pure rfl rfl rfl (by simp only [AV.noRefs, AV.noRef, noRef_tc, Bool.and_self, Bool.true_and]) ?_
  obtain ⟨t, et⟩ : ∃ t : Tm, t = (.mk 6 i s c nf ns af ar) := ⟨_, rfl⟩
  rw [← et]
  obtain ⟨cs, ec⟩ : ∃ cs, cs = tc t := ⟨_, rfl⟩
  obtain ⟨nv, en⟩ : ∃ nv, nv = slAV nf ns.length (u32s ns) := ⟨_, rfl⟩
  obtain ⟨av, ea⟩ : ∃ av, av = slAV af ar.length (tcs ar) := ⟨_, rfl⟩
  have ec' : cs = [.int .i64 6, .int .i64 i, .str s, .int .u32 c, nv, av] := by rw [ec, et, en, ea]; rfl
  obtain ⟨h1, eh1⟩ : ∃ h1, h1 = Heap.empty.new cs := ⟨_, rfl⟩
  have a1 : h1.at_ Heap.empty.next 0 = some [.int .i64 6, .int .i64 i, .str s, .int .u32 c, nv, av] := by rw [← ec', eh1]; exact at_new _
  rw [← ec]
  have y1 : (AV.agg cs).row = some cs := rfl
  have y2 : cs.length = 6 := by rw [ec']; rfl
  have l0 := ld60 a1
  have l1 := ld61 a1
  have l2 := ld62 a1
  have l4 := ld64 a1
  have l5 := ld65 a1
  have l6 : aLoad h1 true 6 (.ptr Heap.empty.next 0 0) = some ⟨.agg cs, h1, .read⟩ := by rw [ec']; exact ld6 a1
  have we : ∀ bt bn ba h, WC env 139 [.agg cs, .bool bt, .bool bn, .bool ba] h (fun o => o = .ret ⟨.bool (emptyF t bt bn ba), h, .none⟩) := fun bt bn ba h => by rw [ec]; exact empty_spec t bt bn ba h
  have nl : ∀ h, aLenOp false h nv = some ⟨.int .i64 ns.length, h, .none⟩ := fun h => by rw [en]; exact len_sl _ _ _ (fun _ => trivial) h
  have al : ∀ h, aLenOp false h av = some ⟨.int .i64 ar.length, h, .none⟩ := fun h => by rw [ea]; exact len_sl _ _ _ (fun _ => trivial) h
  cases e1 : emptyF t false false false with
  | false =>
    have ef : formF t = some (40, none) := by rw [et, formF, ← et, if_pos (by rw [et, kindOk, ← et]; simp [e1])]
    simp only [a130, a130_0, a130_1, a130_2, a130_3, a130_5, a130_7, a130_9, a130_11, a130_13, a130_14, a130_17, Slots.ofList, wpo_u, wpc_draw, s3, reduceIte, Nat.reduceEqDiff, aBin, aInt, negIf, Option.some.injEq, exists_eq_left', Option.map_some, Option.bind_some, y1, y2, ← eh1, aFieldAddr, Nat.zero_add, l0, l6, wc_eq (we _ _ _ _), nl, al, aUn, aPick, Int.reduceBEq, Int.reduceBNe, Int.reduceEq, Nat.reduceBEq, a130_18, Bool.not_false, wc_eq (tfault_nil _ _ _), e1]
    exact fin1 (v := formAV p (formF t)) (by simp only [get_put, reduceIte, Nat.reduceEqDiff]; rw [ef]; rfl) (noRef_form _ _) (form_one _ _) rfl
  | true =>
    have ek : ¬ kindOk t = false := by rw [et, kindOk, ← et]; simp [e1]
    have ef : formF t = none := by rw [et, formF, ← et, if_neg ek, if_neg (by decide), if_neg (by decide), if_neg (by decide)]
    simp only [a130, a130_0, a130_1, a130_2, a130_3, a130_5, a130_7, a130_9, a130_11, a130_13, a130_14, a130_17, Slots.ofList, wpo_u, wpc_draw, s3, reduceIte, Nat.reduceEqDiff, aBin, aInt, negIf, Option.some.injEq, exists_eq_left', Option.map_some, Option.bind_some, y1, y2, ← eh1, aFieldAddr, Nat.zero_add, l0, l6, wc_eq (we _ _ _ _), nl, al, aUn, aPick, Int.reduceBEq, Int.reduceBNe, Int.reduceEq, Nat.reduceBEq, a130_19, a130_20, Bool.not_true, e1, a130_21, a130_24, a130_26, a130_27, a130_29, a130_31, eq_nil]
    exact fin1 (v := formAV p (formF t)) (by simp only [get_put, reduceIte, Nat.reduceEqDiff]; rw [ef]; rfl) (noRef_form _ _) (form_one _ _) rfl
theorem form_k7 (i : Int) (s : List UInt8) (c : Int) (nf : Option Bool) (ns : List Int) (af : Option Bool) (ar : List Tm) (ho : Tm.Ok (.mk 7 i s c nf ns af ar)) (p : Int) (h : Heap) : WC env 130 [.agg (tc (.mk 7 i s c nf ns af ar)), .int .i64 p] h (fun o => o = .ret ⟨formAV p (formF (.mk 7 i s c nf ns af ar)), h, .none⟩) := by
  obtain ⟨ss, sn, sa, _⟩ := ho.lens
  refine call_pure rfl rfl rfl (by simp only [AV.noRefs, AV.noRef, noRef_tc, Bool.and_self, Bool.true_and]) ?_
  obtain ⟨t, et⟩ : ∃ t : Tm, t = (.mk 7 i s c nf ns af ar) := ⟨_, rfl⟩
  rw [← et]
  obtain ⟨cs, ec⟩ : ∃ cs, cs = tc t := ⟨_, rfl⟩
  obtain ⟨nv, en⟩ : ∃ nv, nv = slAV nf ns.length (u32s ns) := ⟨_, rfl⟩
  obtain ⟨av, ea⟩ : ∃ av, av = slAV af ar.length (tcs ar) := ⟨_, rfl⟩
  have ec' : cs = [.int .i64 7, .int .i64 i, .str s, .int .u32 c, nv, av] := by rw [ec, et, en, ea]; rfl
  obtain ⟨h1, eh1⟩ : ∃ h1, h1 = Heap.empty.new cs := ⟨_, rfl⟩
  have a1 : h1.at_ Heap.empty.next 0 = some [.int .i64 7, .int .i64 i, .str s, .int .u32 c, nv, av] := by rw [← ec', eh1]; exact at_new _
  rw [← ec]
  have y1 : (AV.agg cs).row = some cs := rfl
  have y2 : cs.length = 6 := by rw [ec']; rfl
  have l0 := ld60 a1
  have l1 := ld61 a1
  have l2 := ld62 a1
  have l4 := ld64 a1
  have l5 := ld65 a1
  have l6 : aLoad h1 true 6 (.ptr Heap.empty.next 0 0) = some ⟨.agg cs, h1, .read⟩ := by rw [ec']; exact ld6 a1
  have we : ∀ bt bn ba h, WC env 139 [.agg cs, .bool bt, .bool bn, .bool ba] h (fun o => o = .ret ⟨.bool (emptyF t bt bn ba), h, .none⟩) := fun bt bn ba h => by rw [ec]; exact empty_spec t bt bn ba h
  have nl : ∀ h, aLenOp false h nv = some ⟨.int .i64 ns.length, h, .none⟩ := fun h => by rw [en]; exact len_sl _ _ _ (fun _ => trivial) h
  have al : ∀ h, aLenOp false h av = some ⟨.int .i64 ar.length, h, .none⟩ := fun h => by rw [ea]; exact len_sl _ _ _ (fun _ => trivial) h
  cases e1 : emptyF t false false true with
  | false =>
    have ef : formF t = some (40, none) := by rw [et, formF, ← et, if_pos (by rw [et, kindOk, ← et]; simp [e1])]
    simp only [a130, a130_0, a130_1, a130_2, a130_3, a130_5, a130_7, a130_9, a130_11, a130_13, a130_15, a130_16, a130_17, Slots.ofList, wpo_u, wpc_draw, s3, reduceIte, Nat.reduceEqDiff, aBin, aInt, negIf, Option.some.injEq, exists_eq_left', Option.map_some, Option.bind_some, y1, y2, ← eh1, aFieldAddr, Nat.zero_add, l0, l6, wc_eq (we _ _ _ _), nl, al, aUn, aPick, Int.reduceBEq, Int.reduceBNe, Int.reduceEq, Nat.reduceBEq, a130_18, Bool.not_false, wc_eq (tfault_nil _ _ _), e1]
    exact fin1 (v := formAV p (formF t)) (by simp only [get_put, reduceIte, Nat.reduceEqDiff]; rw [ef]; rfl) (noRef_form _ _) (form_one _ _) rfl
  | true =>
    by_cases c2 : ar.length ≥ 2
    case neg =>
      have z : ((ar.length : Int) ≥ 2) = False := eq_false (by omega)
      have ef : formF t = some (40, none) := by rw [et, formF, ← et, if_pos (by rw [et, kindOk, ← et]; simp [e1, c2])]
      simp only [a130, a130_0, a130_1, a130_2, a130_3, a130_5, a130_7, a130_9, a130_11, a130_13, a130_15, a130_16, a130_17, Slots.ofList, wpo_u, wpc_draw, s3, reduceIte, Nat.reduceEqDiff, aBin, aInt, negIf, Option.some.injEq, exists_eq_left', Option.map_some, Option.bind_some, y1, y2, ← eh1, aFieldAddr, Nat.zero_add, l0, l6, wc_eq (we _ _ _ _), nl, al, aUn, aPick, Int.reduceBEq, Int.reduceBNe, Int.reduceEq, Nat.reduceBEq, a130_18, Bool.not_false, wc_eq (tfault_nil _ _ _), e1, l5, z]
      exact fin1 (v := formAV p (formF t)) (by simp only [get_put, reduceIte, Nat.reduceEqDiff]; rw [ef]; rfl) (noRef_form _ _) (form_one _ _) rfl
    have z : ((ar.length : Int) ≥ 2) = True := eq_true (by omega)
    have zs : IntKind.wrap .i64 ((ar.length : Int) - 1) = ((ar.length - 1 : Nat) : Int) := wrap_nat (by omega) (by omega)
    have hi : ar.length - 1 < ar.length := by omega
    have ix : aIdxAddr 6 av (.int .i64 ((ar.length - 1 : Nat) : Int)) = some (.fp ((tcs ar).drop ((ar.length - 1) * 6))) := by rw [ea]; exact idx_args hi
    have lx : ∀ h, aLoad h false 1 (.fp ((tcs ar).drop ((ar.length - 1) * 6))) = some ⟨.int .i64 (ar[ar.length - 1]).kind, h, .none⟩ := fun h => ld_arg0 hi h
    have ln := lastNot7_get ar hi
    cases e3 : ((ar[ar.length - 1]).kind != 7) with
    | false =>
      rw [e3] at ln
      have e3' : (!((ar[ar.length - 1]).kind == 7)) = false := e3
      have ef : formF t = some (40, none) := by rw [et, formF, ← et, if_pos (by rw [et, kindOk, ← et]; simp [e1, ln])]
      simp only [a130, a130_0, a130_1, a130_2, a130_3, a130_5, a130_7, a130_9, a130_11, a130_13, a130_15, a130_16, a130_17, Slots.ofList, wpo_u, wpc_draw, s3, reduceIte, Nat.reduceEqDiff, aBin, aInt, negIf, Option.some.injEq, exists_eq_left', Option.map_some, Option.bind_some, y1, y2, ← eh1, aFieldAddr, Nat.zero_add, l0, l6, wc_eq (we _ _ _ _), nl, al, aUn, aPick, Int.reduceBEq, Int.reduceBNe, Int.reduceEq, Nat.reduceBEq, a130_18, Bool.not_false, wc_eq (tfault_nil _ _ _), e1, l5, z, zs, ix, lx, e3, fa0, List.drop_zero, e3']
      exact fin1 (v := formAV p (formF t)) (by simp only [get_put, reduceIte, Nat.reduceEqDiff]; rw [ef]; rfl) (noRef_form _ _) (form_one _ _) rfl
    | true =>
      rw [e3] at ln
      have e3' : (!((ar[ar.length - 1]).kind == 7)) = true := e3
      have ek : ¬ kindOk t = false := by rw [et, kindOk, ← et]; simp [e1, ln, c2]
      have ef : formF t = none := by rw [et, formF, ← et, if_neg ek, if_neg (by decide), if_neg (by decide), if_neg (by decide)]
      simp only [a130, a130_0, a130_1, a130_2, a130_3, a130_5, a130_7, a130_9, a130_11, a130_13, a130_15, a130_16, a130_17, Slots.ofList, wpo_u, wpc_draw, s3, reduceIte, Nat.reduceEqDiff, aBin, aInt, negIf, Option.some.injEq, exists_eq_left', Option.map_some, Option.bind_some, y1, y2, ← eh1, aFieldAddr, Nat.zero_add, l0, l6, wc_eq (we _ _ _ _), nl, al, aUn, aPick, Int.reduceBEq, Int.reduceBNe, Int.reduceEq, Nat.reduceBEq, a130_19, a130_20, Bool.not_true, e1, l5, z, zs, ix, lx, e3, fa0, List.drop_zero, e3', a130_21, a130_24, a130_26, a130_27, a130_29, a130_31, eq_nil]
      exact fin1 (v := formAV p (formF t)) (by simp only [get_put, reduceIte, Nat.reduceEqDiff]; rw [ef]; rfl) (noRef_form _ _) (form_one _ _) rfl
theorem form_k0 (k : Int) (i : Int) (s : List UInt8) (c : Int) (nf : Option Bool) (ns : List Int) (af : Option Bool) (ar : List Tm) (ho : Tm.Ok (.mk k i s c nf ns af ar)) (hk : ∀ j : Int, 1 ≤ j → j ≤ 7 → k ≠ j) (p : Int) (h : Heap) : WC env 130 [.agg (tc (.mk k i s c nf ns af ar)), .int .i64 p] h (fun o => o = .ret ⟨formAV p (formF (.mk k i s c nf ns af ar)), h, .none⟩) := by
  obtain ⟨ss, sn, sa, _⟩ := ho.lens
  refine call_pure rfl rfl rfl (by simp only [AV.noRefs, AV.noRef, noRef_tc, Bool.and_self, Bool.true_and]) ?_
  obtain ⟨t, et⟩ : ∃ t : Tm, t = (.mk k i s c nf ns af ar) := ⟨_, rfl⟩
  rw [← et]
  obtain ⟨cs, ec⟩ : ∃ cs, cs = tc t := ⟨_, rfl⟩
  obtain ⟨nv, en⟩ : ∃ nv, nv = slAV nf ns.length (u32s ns) := ⟨_, rfl⟩
  obtain ⟨av, ea⟩ : ∃ av, av = slAV af ar.length (tcs ar) := ⟨_, rfl⟩
  have ec' : cs = [.int .i64 k, .int .i64 i, .str s, .int .u32 c, nv, av] := by rw [ec, et, en, ea]; rfl
  obtain ⟨h1, eh1⟩ : ∃ h1, h1 = Heap.empty.new cs := ⟨_, rfl⟩
  have a1 : h1.at_ Heap.empty.next 0 = some [.int .i64 k, .int .i64 i, .str s, .int .u32 c, nv, av] := by rw [← ec', eh1]; exact at_new _
  rw [← ec]
  have y1 : (AV.agg cs).row = some cs := rfl
  have y2 : cs.length = 6 := by rw [ec']; rfl
  have l0 := ld60 a1
  have l1 := ld61 a1
  have l2 := ld62 a1
  have l4 := ld64 a1
  have l5 := ld65 a1
  have l6 : aLoad h1 true 6 (.ptr Heap.empty.next 0 0) = some ⟨.agg cs, h1, .read⟩ := by rw [ec']; exact ld6 a1
  have we : ∀ bt bn ba h, WC env 139 [.agg cs, .bool bt, .bool bn, .bool ba] h (fun o => o = .ret ⟨.bool (emptyF t bt bn ba), h, .none⟩) := fun bt bn ba h => by rw [ec]; exact empty_spec t bt bn ba h
  have nl : ∀ h, aLenOp false h nv = some ⟨.int .i64 ns.length, h, .none⟩ := fun h => by rw [en]; exact len_sl _ _ _ (fun _ => trivial) h
  have al : ∀ h, aLenOp false h av = some ⟨.int .i64 ar.length, h, .none⟩ := fun h => by rw [ea]; exact len_sl _ _ _ (fun _ => trivial) h
  have k1 : (k == 1) = false := by simpa using hk 1 (by omega) (by omega)
  have k2 : (k == 2) = false := by simpa using hk 2 (by omega) (by omega)
  have k3 : (k == 3) = false := by simpa using hk 3 (by omega) (by omega)
  have k4 : (k == 4) = false := by simpa using hk 4 (by omega) (by omega)
  have k5 : (k == 5) = false := by simpa using hk 5 (by omega) (by omega)
  have k6 : (k == 6) = false := by simpa using hk 6 (by omega) (by omega)
  have k7 : (k == 7) = false := by simpa using hk 7 (by omega) (by omega)
  have ef : formF t = some (40, none) := by rw [et, formF, ← et, if_pos (by rw [et, kindOk]; simp only [hk 1 (by omega) (by omega), hk 2 (by omega) (by omega), hk 3 (by omega) (by omega), hk 4 (by omega) (by omega), hk 5 (by omega) (by omega), hk 6 (by omega) (by omega), hk 7 (by omega) (by omega), if_false])]
  simp only [a130, a130_0, a130_1, a130_2, a130_3, a130_5, a130_7, a130_9, a130_11, a130_13, a130_15, a130_17, Slots.ofList, wpo_u, wpc_draw, s3, reduceIte, Nat.reduceEqDiff, aBin, aInt, negIf, Option.some.injEq, exists_eq_left', Option.map_some, Option.bind_some, y1, y2, ← eh1, aFieldAddr, Nat.zero_add, l0, l6, wc_eq (we _ _ _ _), nl, al, aUn, aPick, Int.reduceBEq, Int.reduceBNe, Int.reduceEq, Nat.reduceBEq, k1, k2, k3, k4, k5, k6, k7, a130_18, Bool.not_false, wc_eq (tfault_nil _ _ _), Bool.not_false]
  exact fin1 (v := formAV p (formF t)) (by simp only [get_put, reduceIte, Nat.reduceEqDiff]; rw [ef]; rfl) (noRef_form _ _) (form_one _ _) rfl
theorem form_spec (t : Tm) (ho : t.Ok) (p : Int) (h : Heap) : WC env 130 [.agg (tc t), .int .i64 p] h (fun o => o = .ret ⟨formAV p (formF t), h, .none⟩) := by
  rcases t with ⟨k, i, s, c, nf, ns, af, ar⟩
  by_cases e1 : k = 1
  · subst e1; exact form_k1 i s c nf ns af ar ho p h
  by_cases e2 : k = 2
  · subst e2; exact form_k2 i s c nf ns af ar ho p h
  by_cases e3 : k = 3
  · subst e3; exact form_k3 i s c nf ns af ar ho p h
  by_cases e4 : k = 4
  · subst e4; exact form_k4 i s c nf ns af ar ho p h
  by_cases e5 : k = 5
  · subst e5; exact form_k5 i s c nf ns af ar ho p h
  by_cases e6 : k = 6
  · subst e6; exact form_k6 i s c nf ns af ar ho p h
  by_cases e7 : k = 7
  · subst e7; exact form_k7 i s c nf ns af ar ho p h
  exact form_k0 k i s c nf ns af ar ho (fun j h1 h2 => by omega) p h
end Go.Bf

set_option linter.unusedVariables false
set_option linter.unusedSimpArgs false
set_option maxRecDepth 20000
namespace Go.Bf
open Go.AM
theorem bare_i_s (k i : Int) (s : List UInt8) (c : Int) {nv av : AV} (b : UInt8) (l : List UInt8) (bb : Bool) (n : Nat) (cs : List AV) (hn : SN nv) (ha : SN av) : ran a83 [.agg [.int .i64 k, .int .i64 i, .str (b :: l), .int .u32 c, nv, av], .str [105]] = some (.bool false) := by
  cases hn <;> cases ha <;> kernel_rfl
theorem bare_i_c (k i : Int) (s : List UInt8) (c : Int) {nv av : AV} (b : UInt8) (l : List UInt8) (bb : Bool) (n : Nat) (cs : List AV) (hn : SN nv) (ha : SN av) (hc : c ≠ 0) : ran a83 [.agg [.int .i64 k, .int .i64 i, .str [], .int .u32 c, nv, av], .str [105]] = some (.bool false) := by
  cases hn <;> cases ha <;> (cases i0 c with
    | z => exact absurd rfl hc
    | p n => kernel_rfl
    | m n => kernel_rfl)
theorem bare_i_n (k i : Int) (s : List UInt8) (c : Int) {nv av : AV} (b : UInt8) (l : List UInt8) (bb : Bool) (n : Nat) (cs : List AV) (ha : SN av) : ran a83 [.agg [.int .i64 k, .int .i64 i, .str [], .int .u32 0, (.fs bb (n + 1) cs), av], .str [105]] = some (.bool false) := by
  cases ha <;> kernel_rfl
theorem bare_i_a (k i : Int) (s : List UInt8) (c : Int) {nv av : AV} (b : UInt8) (l : List UInt8) (bb : Bool) (n : Nat) (cs : List AV) (hn : S0 nv) : ran a83 [.agg [.int .i64 k, .int .i64 i, .str [], .int .u32 0, nv, (.fs bb (n + 1) cs)], .str [105]] = some (.bool false) := by
  cases hn <;> kernel_rfl
theorem bare_i_ok (k i : Int) (s : List UInt8) (c : Int) {nv av : AV} (hn : S0 nv) (ha : S0 av) : ran a83 [.agg [.int .i64 k, .int .i64 i, .str [], .int .u32 0, nv, av], .str [105]] = some (.bool true) := by
  cases hn <;> cases ha <;> kernel_rfl
theorem bare_i (k i : Int) (s : List UInt8) (c : Int) (nf : Option Bool) (ns : List Int) (af : Option Bool) (ar : List Tm) (h : Heap) : WC env 83 [.agg (tc (.mk k i s c nf ns af ar)), .str [105]] h (fun o => o = .ret ⟨.bool (s == [] && c == 0 && ns.length == 0 && ar.length == 0), h, .none⟩) := by
  have hn := slF nf ns.length (u32s ns)
  have ha := slF af ar.length (tcs ar)
  refine pure_run (n := 29) rfl rfl rfl (by simp only [AV.noRefs, AV.noRef, noRef_tc, Bool.and_self, Bool.true_and]) rfl ?_
  show ran a83 [.agg [.int .i64 k, .int .i64 i, .str s, .int .u32 c, slAV nf ns.length (u32s ns), slAV af ar.length (tcs ar)], .str [105]] = _
  generalize slAV nf ns.length (u32s ns) = nv at *
  generalize slAV af ar.length (tcs ar) = av at *
  cases s with
  | cons b l => rw [bare_i_s k i [] c b l false 0 [] hn.any ha.any]; simp
  | nil =>
  by_cases hc : c = 0
  case neg => rw [bare_i_c k i [] c 0 [] false 0 [] hn.any ha.any hc]; simp [hc]
  subst hc
  cases ns with
  | cons x l =>
    obtain ⟨bb, cs, rfl⟩ := SlF.succ (n := l.length) hn
    rw [bare_i_n (nv := .nils) k i [] 0 0 [] bb l.length cs ha.any]; simp
  | nil =>
  cases ar with
  | cons x l =>
    obtain ⟨bb, cs, rfl⟩ := SlF.succ (n := l.length) ha
    rw [bare_i_a (av := .nils) k i [] 0 0 [] bb l.length cs hn.zero]; simp
  | nil =>
  rw [bare_i_ok k i [] 0 hn.zero ha.zero]; simp
theorem bare_s_i (k i : Int) (s : List UInt8) (c : Int) {nv av : AV} (b : UInt8) (l : List UInt8) (bb : Bool) (n : Nat) (cs : List AV) (hn : SN nv) (ha : SN av) (hi : i ≠ 0) : ran a83 [.agg [.int .i64 k, .int .i64 i, .str s, .int .u32 c, nv, av], .str [115]] = some (.bool false) := by
  cases hn <;> cases ha <;> (cases i0 i with
    | z => exact absurd rfl hi
    | p n => kernel_rfl
    | m n => kernel_rfl)
theorem bare_s_c (k i : Int) (s : List UInt8) (c : Int) {nv av : AV} (b : UInt8) (l : List UInt8) (bb : Bool) (n : Nat) (cs : List AV) (hn : SN nv) (ha : SN av) (hc : c ≠ 0) : ran a83 [.agg [.int .i64 k, .int .i64 0, .str s, .int .u32 c, nv, av], .str [115]] = some (.bool false) := by
  cases hn <;> cases ha <;> (cases i0 c with
    | z => exact absurd rfl hc
    | p n => kernel_rfl
    | m n => kernel_rfl)
theorem bare_s_n (k i : Int) (s : List UInt8) (c : Int) {nv av : AV} (b : UInt8) (l : List UInt8) (bb : Bool) (n : Nat) (cs : List AV) (ha : SN av) : ran a83 [.agg [.int .i64 k, .int .i64 0, .str s, .int .u32 0, (.fs bb (n + 1) cs), av], .str [115]] = some (.bool false) := by
  cases ha <;> kernel_rfl
theorem bare_s_a (k i : Int) (s : List UInt8) (c : Int) {nv av : AV} (b : UInt8) (l : List UInt8) (bb : Bool) (n : Nat) (cs : List AV) (hn : S0 nv) : ran a83 [.agg [.int .i64 k, .int .i64 0, .str s, .int .u32 0, nv, (.fs bb (n + 1) cs)], .str [115]] = some (.bool false) := by
  cases hn <;> kernel_rfl
theorem bare_s_ok (k i : Int) (s : List UInt8) (c : Int) {nv av : AV} (hn : S0 nv) (ha : S0 av) : ran a83 [.agg [.int .i64 k, .int .i64 0, .str s, .int .u32 0, nv, av], .str [115]] = some (.bool true) := by
  cases hn <;> cases ha <;> kernel_rfl
theorem bare_s (k i : Int) (s : List UInt8) (c : Int) (nf : Option Bool) (ns : List Int) (af : Option Bool) (ar : List Tm) (h : Heap) : WC env 83 [.agg (tc (.mk k i s c nf ns af ar)), .str [115]] h (fun o => o = .ret ⟨.bool (i == 0 && c == 0 && ns.length == 0 && ar.length == 0), h, .none⟩) := by
  have hn := slF nf ns.length (u32s ns)
  have ha := slF af ar.length (tcs ar)
  refine pure_run (n := 29) rfl rfl rfl (by simp only [AV.noRefs, AV.noRef, noRef_tc, Bool.and_self, Bool.true_and]) rfl ?_
  show ran a83 [.agg [.int .i64 k, .int .i64 i, .str s, .int .u32 c, slAV nf ns.length (u32s ns), slAV af ar.length (tcs ar)], .str [115]] = _
  generalize slAV nf ns.length (u32s ns) = nv at *
  generalize slAV af ar.length (tcs ar) = av at *
  by_cases hi : i = 0
  case neg => rw [bare_s_i k i s c 0 [] false 0 [] hn.any ha.any hi]; simp [hi]
  subst hi
  by_cases hc : c = 0
  case neg => rw [bare_s_c k 0 s c 0 [] false 0 [] hn.any ha.any hc]; simp [hc]
  subst hc
  cases ns with
  | cons x l =>
    obtain ⟨bb, cs, rfl⟩ := SlF.succ (n := l.length) hn
    rw [bare_s_n (nv := .nils) k 0 s 0 0 [] bb l.length cs ha.any]; simp
  | nil =>
  cases ar with
  | cons x l =>
    obtain ⟨bb, cs, rfl⟩ := SlF.succ (n := l.length) ha
    rw [bare_s_a (av := .nils) k 0 s 0 0 [] bb l.length cs hn.zero]; simp
  | nil =>
  rw [bare_s_ok k 0 s 0 hn.zero ha.zero]; simp
theorem bare_scn_i (k i : Int) (s : List UInt8) (c : Int) {nv av : AV} (b : UInt8) (l : List UInt8) (bb : Bool) (n : Nat) (cs : List AV) (hn : SN nv) (ha : SN av) (hi : i ≠ 0) : ran a83 [.agg [.int .i64 k, .int .i64 i, .str s, .int .u32 c, nv, av], .str [115, 99, 110]] = some (.bool false) := by
  cases hn <;> cases ha <;> (cases i0 i with
    | z => exact absurd rfl hi
    | p n => kernel_rfl
    | m n => kernel_rfl)
theorem bare_scn_a (k i : Int) (s : List UInt8) (c : Int) {nv av : AV} (b : UInt8) (l : List UInt8) (bb : Bool) (n : Nat) (cs : List AV) (hn : SN nv) : ran a83 [.agg [.int .i64 k, .int .i64 0, .str s, .int .u32 c, nv, (.fs bb (n + 1) cs)], .str [115, 99, 110]] = some (.bool false) := by
  cases hn <;> kernel_rfl
theorem bare_scn_ok (k i : Int) (s : List UInt8) (c : Int) {nv av : AV} (hn : SN nv) (ha : S0 av) : ran a83 [.agg [.int .i64 k, .int .i64 0, .str s, .int .u32 c, nv, av], .str [115, 99, 110]] = some (.bool true) := by
  cases hn <;> cases ha <;> kernel_rfl
theorem bare_scn (k i : Int) (s : List UInt8) (c : Int) (nf : Option Bool) (ns : List Int) (af : Option Bool) (ar : List Tm) (h : Heap) : WC env 83 [.agg (tc (.mk k i s c nf ns af ar)), .str [115, 99, 110]] h (fun o => o = .ret ⟨.bool (i == 0 && ar.length == 0), h, .none⟩) := by
  have hn := slF nf ns.length (u32s ns)
  have ha := slF af ar.length (tcs ar)
  refine pure_run (n := 29) rfl rfl rfl (by simp only [AV.noRefs, AV.noRef, noRef_tc, Bool.and_self, Bool.true_and]) rfl ?_
  show ran a83 [.agg [.int .i64 k, .int .i64 i, .str s, .int .u32 c, slAV nf ns.length (u32s ns), slAV af ar.length (tcs ar)], .str [115, 99, 110]] = _
  generalize slAV nf ns.length (u32s ns) = nv at *
  generalize slAV af ar.length (tcs ar) = av at *
  by_cases hi : i = 0
  case neg => rw [bare_scn_i k i s c 0 [] false 0 [] hn.any ha.any hi]; simp [hi]
  subst hi
  cases ar with
  | cons x l =>
    obtain ⟨bb, cs, rfl⟩ := SlF.succ (n := l.length) ha
    rw [bare_scn_a (av := .nils) k 0 s c 0 [] bb l.length cs hn.any]; simp
  | nil =>
  rw [bare_scn_ok k 0 s c hn.any ha.zero]; simp
theorem bare_a_i (k i : Int) (s : List UInt8) (c : Int) {nv av : AV} (b : UInt8) (l : List UInt8) (bb : Bool) (n : Nat) (cs : List AV) (hn : SN nv) (ha : SN av) (hi : i ≠ 0) : ran a83 [.agg [.int .i64 k, .int .i64 i, .str s, .int .u32 c, nv, av], .str [97]] = some (.bool false) := by
  cases hn <;> cases ha <;> (cases i0 i with
    | z => exact absurd rfl hi
    | p n => kernel_rfl
    | m n => kernel_rfl)
theorem bare_a_s (k i : Int) (s : List UInt8) (c : Int) {nv av : AV} (b : UInt8) (l : List UInt8) (bb : Bool) (n : Nat) (cs : List AV) (hn : SN nv) (ha : SN av) : ran a83 [.agg [.int .i64 k, .int .i64 0, .str (b :: l), .int .u32 c, nv, av], .str [97]] = some (.bool false) := by
  cases hn <;> cases ha <;> kernel_rfl
theorem bare_a_c (k i : Int) (s : List UInt8) (c : Int) {nv av : AV} (b : UInt8) (l : List UInt8) (bb : Bool) (n : Nat) (cs : List AV) (hn : SN nv) (ha : SN av) (hc : c ≠ 0) : ran a83 [.agg [.int .i64 k, .int .i64 0, .str [], .int .u32 c, nv, av], .str [97]] = some (.bool false) := by
  cases hn <;> cases ha <;> (cases i0 c with
    | z => exact absurd rfl hc
    | p n => kernel_rfl
    | m n => kernel_rfl)
theorem bare_a_n (k i : Int) (s : List UInt8) (c : Int) {nv av : AV} (b : UInt8) (l : List UInt8) (bb : Bool) (n : Nat) (cs : List AV) (ha : SN av) : ran a83 [.agg [.int .i64 k, .int .i64 0, .str [], .int .u32 0, (.fs bb (n + 1) cs), av], .str [97]] = some (.bool false) := by
  cases ha <;> kernel_rfl
theorem bare_a_ok (k i : Int) (s : List UInt8) (c : Int) {nv av : AV} (hn : S0 nv) (ha : SN av) : ran a83 [.agg [.int .i64 k, .int .i64 0, .str [], .int .u32 0, nv, av], .str [97]] = some (.bool true) := by
  cases hn <;> cases ha <;> kernel_rfl
theorem bare_a (k i : Int) (s : List UInt8) (c : Int) (nf : Option Bool) (ns : List Int) (af : Option Bool) (ar : List Tm) (h : Heap) : WC env 83 [.agg (tc (.mk k i s c nf ns af ar)), .str [97]] h (fun o => o = .ret ⟨.bool (i == 0 && s == [] && c == 0 && ns.length == 0), h, .none⟩) := by
  have hn := slF nf ns.length (u32s ns)
  have ha := slF af ar.length (tcs ar)
  refine pure_run (n := 29) rfl rfl rfl (by simp only [AV.noRefs, AV.noRef, noRef_tc, Bool.and_self, Bool.true_and]) rfl ?_
  show ran a83 [.agg [.int .i64 k, .int .i64 i, .str s, .int .u32 c, slAV nf ns.length (u32s ns), slAV af ar.length (tcs ar)], .str [97]] = _
  generalize slAV nf ns.length (u32s ns) = nv at *
  generalize slAV af ar.length (tcs ar) = av at *
  by_cases hi : i = 0
  case neg => rw [bare_a_i k i s c 0 [] false 0 [] hn.any ha.any hi]; simp [hi]
  subst hi
  cases s with
  | cons b l => rw [bare_a_s k 0 [] c b l false 0 [] hn.any ha.any]; simp
  | nil =>
  by_cases hc : c = 0
  case neg => rw [bare_a_c k 0 [] c 0 [] false 0 [] hn.any ha.any hc]; simp [hc]
  subst hc
  cases ns with
  | cons x l =>
    obtain ⟨bb, cs, rfl⟩ := SlF.succ (n := l.length) hn
    rw [bare_a_n (nv := .nils) k 0 [] 0 0 [] bb l.length cs ha.any]; simp
  | nil =>
  rw [bare_a_ok k 0 [] 0 hn.zero ha.any]; simp
theorem bare_z_i (k i : Int) (s : List UInt8) (c : Int) {nv av : AV} (b : UInt8) (l : List UInt8) (bb : Bool) (n : Nat) (cs : List AV) (hn : SN nv) (ha : SN av) (hi : i ≠ 0) : ran a83 [.agg [.int .i64 k, .int .i64 i, .str s, .int .u32 c, nv, av], .str []] = some (.bool false) := by
  cases hn <;> cases ha <;> (cases i0 i with
    | z => exact absurd rfl hi
    | p n => kernel_rfl
    | m n => kernel_rfl)
theorem bare_z_s (k i : Int) (s : List UInt8) (c : Int) {nv av : AV} (b : UInt8) (l : List UInt8) (bb : Bool) (n : Nat) (cs : List AV) (hn : SN nv) (ha : SN av) : ran a83 [.agg [.int .i64 k, .int .i64 0, .str (b :: l), .int .u32 c, nv, av], .str []] = some (.bool false) := by
  cases hn <;> cases ha <;> kernel_rfl
theorem bare_z_c (k i : Int) (s : List UInt8) (c : Int) {nv av : AV} (b : UInt8) (l : List UInt8) (bb : Bool) (n : Nat) (cs : List AV) (hn : SN nv) (ha : SN av) (hc : c ≠ 0) : ran a83 [.agg [.int .i64 k, .int .i64 0, .str [], .int .u32 c, nv, av], .str []] = some (.bool false) := by
  cases hn <;> cases ha <;> (cases i0 c with
    | z => exact absurd rfl hc
    | p n => kernel_rfl
    | m n => kernel_rfl)
theorem bare_z_n (k i : Int) (s : List UInt8) (c : Int) {nv av : AV} (b : UInt8) (l : List UInt8) (bb : Bool) (n : Nat) (cs : List AV) (ha : SN av) : ran a83 [.agg [.int .i64 k, .int .i64 0, .str [], .int .u32 0, (.fs bb (n + 1) cs), av], .str []] = some (.bool false) := by
  cases ha <;> kernel_rfl
theorem bare_z_a (k i : Int) (s : List UInt8) (c : Int) {nv av : AV} (b : UInt8) (l : List UInt8) (bb : Bool) (n : Nat) (cs : List AV) (hn : S0 nv) : ran a83 [.agg [.int .i64 k, .int .i64 0, .str [], .int .u32 0, nv, (.fs bb (n + 1) cs)], .str []] = some (.bool false) := by
  cases hn <;> kernel_rfl
theorem bare_z_ok (k i : Int) (s : List UInt8) (c : Int) {nv av : AV} (hn : S0 nv) (ha : S0 av) : ran a83 [.agg [.int .i64 k, .int .i64 0, .str [], .int .u32 0, nv, av], .str []] = some (.bool true) := by
  cases hn <;> cases ha <;> kernel_rfl
theorem bare_z (k i : Int) (s : List UInt8) (c : Int) (nf : Option Bool) (ns : List Int) (af : Option Bool) (ar : List Tm) (h : Heap) : WC env 83 [.agg (tc (.mk k i s c nf ns af ar)), .str []] h (fun o => o = .ret ⟨.bool (i == 0 && s == [] && c == 0 && ns.length == 0 && ar.length == 0), h, .none⟩) := by
  have hn := slF nf ns.length (u32s ns)
  have ha := slF af ar.length (tcs ar)
  refine pure_run (n := 29) rfl rfl rfl (by simp only [AV.noRefs, AV.noRef, noRef_tc, Bool.and_self, Bool.true_and]) rfl ?_
  show ran a83 [.agg [.int .i64 k, .int .i64 i, .str s, .int .u32 c, slAV nf ns.length (u32s ns), slAV af ar.length (tcs ar)], .str []] = _
  generalize slAV nf ns.length (u32s ns) = nv at *
  generalize slAV af ar.length (tcs ar) = av at *
  by_cases hi : i = 0
  case neg => rw [bare_z_i k i s c 0 [] false 0 [] hn.any ha.any hi]; simp [hi]
  subst hi
  cases s with
  | cons b l => rw [bare_z_s k 0 [] c b l false 0 [] hn.any ha.any]; simp
  | nil =>
  by_cases hc : c = 0
  case neg => rw [bare_z_c k 0 [] c 0 [] false 0 [] hn.any ha.any hc]; simp [hc]
  subst hc
  cases ns with
  | cons x l =>
    obtain ⟨bb, cs, rfl⟩ := SlF.succ (n := l.length) hn
    rw [bare_z_n (nv := .nils) k 0 [] 0 0 [] bb l.length cs ha.any]; simp
  | nil =>
  cases ar with
  | cons x l =>
    obtain ⟨bb, cs, rfl⟩ := SlF.succ (n := l.length) ha
    rw [bare_z_a (av := .nils) k 0 [] 0 0 [] bb l.length cs hn.zero]; simp
  | nil =>
  rw [bare_z_ok k 0 [] 0 hn.zero ha.zero]; simp
theorem rform_k1 (i : Int) (s : List UInt8) (c : Int) (nf : Option Bool) (ns : List Int) (af : Option Bool) (ar : List Tm) (ho : Tm.Ok (.mk 1 i s c nf ns af ar)) (h : Heap) : WC env 49 [.agg (tc (.mk 1 i s c nf ns af ar))] h (fun o => o = .ret ⟨.bool (kindOk (.mk 1 i s c nf ns af ar)), h, .none⟩) := by
  obtain ⟨ss, sn, sa, _⟩ := ho.lens
  refine call_pure rfl rfl rfl (by simp only [AV.noRefs, AV.noRef, noRef_tc, Bool.and_self]) ?_
  obtain ⟨t, et⟩ : ∃ t : Tm, t = (.mk 1 i s c nf ns af ar) := ⟨_, rfl⟩
  obtain ⟨cs, ec⟩ : ∃ cs, cs = tc t := ⟨_, rfl⟩
  obtain ⟨nv, en⟩ : ∃ nv, nv = slAV nf ns.length (u32s ns) := ⟨_, rfl⟩
  obtain ⟨av, ea⟩ : ∃ av, av = slAV af ar.length (tcs ar) := ⟨_, rfl⟩
  have ec' : cs = [.int .i64 1, .int .i64 i, .str s, .int .u32 c, nv, av] := by rw [ec, et, en, ea]; rfl
  obtain ⟨h1, eh1⟩ : ∃ h1, h1 = Heap.empty.new cs := ⟨_, rfl⟩
  have a1 : h1.at_ Heap.empty.next 0 = some [.int .i64 1, .int .i64 i, .str s, .int .u32 c, nv, av] := by rw [← ec', eh1]; exact at_new _
  rw [← et, ← ec]
  have y1 : (AV.agg cs).row = some cs := rfl
  have y2 : cs.length = 6 := by rw [ec']; rfl
  have l0 := ld60 a1
  have l4 := ld64 a1
  have l5 := ld65 a1
  have l6 : aLoad h1 true 6 (.ptr Heap.empty.next 0 0) = some ⟨.agg cs, h1, .read⟩ := by rw [ec']; exact ld6 a1
  have nl : ∀ h, aLenOp false h nv = some ⟨.int .i64 ns.length, h, .none⟩ := fun h => by rw [en]; exact len_sl _ _ _ (fun _ => trivial) h
  have al : ∀ h, aLenOp false h av = some ⟨.int .i64 ar.length, h, .none⟩ := fun h => by rw [ea]; exact len_sl _ _ _ (fun _ => trivial) h
  obtain ⟨x, ex⟩ : ∃ x : Bool, x = (s == [] && c == 0 && ns.length == 0 && ar.length == 0) := ⟨_, rfl⟩
  have wb : ∀ h, WC env 83 [.agg cs, .str [105]] h (fun o => o = .ret ⟨.bool x, h, .none⟩) := fun h => by rw [ec, et, ex]; exact bare_i 1 i s c nf ns af ar h
  have xe : emptyF t false false false = x := by
    rw [et, emptyF, ex]
    cases h1 : (i == 0) <;> cases h2 : (s == []) <;> cases h3 : (c == 0) <;> cases h4 : (ns.length == 0) <;> cases h5 : (ar.length == 0) <;> simp
  have ek : kindOk t = x := by rw [et, kindOk, ← et]; simp [xe]
  simp only [a49, a49_0, a49_1, a49_2, Slots.ofList, wpo_u, wpc_draw, s3, reduceIte, Nat.reduceEqDiff, aBin, aInt, negIf, Option.some.injEq, exists_eq_left', Option.map_some, Option.bind_some, y1, y2, ← eh1, aFieldAddr, Nat.zero_add, l0, l6, nl, al, aPick, Int.reduceBEq, Int.reduceBNe, a49_3, wc_eq (wb _)]
  exact pureB (by simp only [get_put, reduceIte, Nat.reduceEqDiff]; rw [ek]) rfl
theorem rform_k2 (i : Int) (s : List UInt8) (c : Int) (nf : Option Bool) (ns : List Int) (af : Option Bool) (ar : List Tm) (ho : Tm.Ok (.mk 2 i s c nf ns af ar)) (h : Heap) : WC env 49 [.agg (tc (.mk 2 i s c nf ns af ar))] h (fun o => o = .ret ⟨.bool (kindOk (.mk 2 i s c nf ns af ar)), h, .none⟩) := by
  obtain ⟨ss, sn, sa, _⟩ := ho.lens
  refine call_pure rfl rfl rfl (by simp only [AV.noRefs, AV.noRef, noRef_tc, Bool.and_self]) ?_
  obtain ⟨t, et⟩ : ∃ t : Tm, t = (.mk 2 i s c nf ns af ar) := ⟨_, rfl⟩
  obtain ⟨cs, ec⟩ : ∃ cs, cs = tc t := ⟨_, rfl⟩
  obtain ⟨nv, en⟩ : ∃ nv, nv = slAV nf ns.length (u32s ns) := ⟨_, rfl⟩
  obtain ⟨av, ea⟩ : ∃ av, av = slAV af ar.length (tcs ar) := ⟨_, rfl⟩
  have ec' : cs = [.int .i64 2, .int .i64 i, .str s, .int .u32 c, nv, av] := by rw [ec, et, en, ea]; rfl
  obtain ⟨h1, eh1⟩ : ∃ h1, h1 = Heap.empty.new cs := ⟨_, rfl⟩
  have a1 : h1.at_ Heap.empty.next 0 = some [.int .i64 2, .int .i64 i, .str s, .int .u32 c, nv, av] := by rw [← ec', eh1]; exact at_new _
  rw [← et, ← ec]
  have y1 : (AV.agg cs).row = some cs := rfl
  have y2 : cs.length = 6 := by rw [ec']; rfl
  have l0 := ld60 a1
  have l4 := ld64 a1
  have l5 := ld65 a1
  have l6 : aLoad h1 true 6 (.ptr Heap.empty.next 0 0) = some ⟨.agg cs, h1, .read⟩ := by rw [ec']; exact ld6 a1
  have nl : ∀ h, aLenOp false h nv = some ⟨.int .i64 ns.length, h, .none⟩ := fun h => by rw [en]; exact len_sl _ _ _ (fun _ => trivial) h
  have al : ∀ h, aLenOp false h av = some ⟨.int .i64 ar.length, h, .none⟩ := fun h => by rw [ea]; exact len_sl _ _ _ (fun _ => trivial) h
  obtain ⟨x, ex⟩ : ∃ x : Bool, x = (i == 0 && c == 0 && ns.length == 0 && ar.length == 0) := ⟨_, rfl⟩
  have wb : ∀ h, WC env 83 [.agg cs, .str [115]] h (fun o => o = .ret ⟨.bool x, h, .none⟩) := fun h => by rw [ec, et, ex]; exact bare_s 2 i s c nf ns af ar h
  have xe : emptyF t true false false = x := by
    rw [et, emptyF, ex]
    cases h1 : (i == 0) <;> cases h2 : (s == []) <;> cases h3 : (c == 0) <;> cases h4 : (ns.length == 0) <;> cases h5 : (ar.length == 0) <;> simp
  have ek : kindOk t = x := by rw [et, kindOk, ← et]; simp [xe]
  simp only [a49, a49_0, a49_1, a49_2, a49_4, Slots.ofList, wpo_u, wpc_draw, s3, reduceIte, Nat.reduceEqDiff, aBin, aInt, negIf, Option.some.injEq, exists_eq_left', Option.map_some, Option.bind_some, y1, y2, ← eh1, aFieldAddr, Nat.zero_add, l0, l6, nl, al, aPick, Int.reduceBEq, Int.reduceBNe, a49_5, wc_eq (wb _)]
  exact pureB (by simp only [get_put, reduceIte, Nat.reduceEqDiff]; rw [ek]) rfl
theorem rform_k3 (i : Int) (s : List UInt8) (c : Int) (nf : Option Bool) (ns : List Int) (af : Option Bool) (ar : List Tm) (ho : Tm.Ok (.mk 3 i s c nf ns af ar)) (h : Heap) : WC env 49 [.agg (tc (.mk 3 i s c nf ns af ar))] h (fun o => o = .ret ⟨.bool (kindOk (.mk 3 i s c nf ns af ar)), h, .none⟩) := by
  obtain ⟨ss, sn, sa, _⟩ := ho.lens
  refine call_pure rfl rfl rfl (by simp only [AV.noRefs, AV.noRef, noRef_tc, Bool.and_self]) ?_
  obtain ⟨t, et⟩ : ∃ t : Tm, t = (.mk 3 i s c nf ns af ar) := ⟨_, rfl⟩
  obtain ⟨cs, ec⟩ : ∃ cs, cs = tc t := ⟨_, rfl⟩
  obtain ⟨nv, en⟩ : ∃ nv, nv = slAV nf ns.length (u32s ns) := ⟨_, rfl⟩
  obtain ⟨av, ea⟩ : ∃ av, av = slAV af ar.length (tcs ar) := ⟨_, rfl⟩
  have ec' : cs = [.int .i64 3, .int .i64 i, .str s, .int .u32 c, nv, av] := by rw [ec, et, en, ea]; rfl
  obtain ⟨h1, eh1⟩ : ∃ h1, h1 = Heap.empty.new cs := ⟨_, rfl⟩
  have a1 : h1.at_ Heap.empty.next 0 = some [.int .i64 3, .int .i64 i, .str s, .int .u32 c, nv, av] := by rw [← ec', eh1]; exact at_new _
  rw [← et, ← ec]
  have y1 : (AV.agg cs).row = some cs := rfl
  have y2 : cs.length = 6 := by rw [ec']; rfl
  have l0 := ld60 a1
  have l4 := ld64 a1
  have l5 := ld65 a1
  have l6 : aLoad h1 true 6 (.ptr Heap.empty.next 0 0) = some ⟨.agg cs, h1, .read⟩ := by rw [ec']; exact ld6 a1
  have nl : ∀ h, aLenOp false h nv = some ⟨.int .i64 ns.length, h, .none⟩ := fun h => by rw [en]; exact len_sl _ _ _ (fun _ => trivial) h
  have al : ∀ h, aLenOp false h av = some ⟨.int .i64 ar.length, h, .none⟩ := fun h => by rw [ea]; exact len_sl _ _ _ (fun _ => trivial) h
  obtain ⟨x, ex⟩ : ∃ x : Bool, x = (i == 0 && ar.length == 0) := ⟨_, rfl⟩
  have wb : ∀ h, WC env 83 [.agg cs, .str [115, 99, 110]] h (fun o => o = .ret ⟨.bool x, h, .none⟩) := fun h => by rw [ec, et, ex]; exact bare_scn 3 i s c nf ns af ar h
  have xe : emptyF t true true false = x := by
    rw [et, emptyF, ex]
    cases h1 : (i == 0) <;> cases h2 : (s == []) <;> cases h3 : (c == 0) <;> cases h4 : (ns.length == 0) <;> cases h5 : (ar.length == 0) <;> simp
  have ek : kindOk t = (x && ns.length == 3) := by rw [et, kindOk, ← et]; simp [xe]
  cases x with
  | false =>
    simp only [a49, a49_0, a49_1, a49_2, a49_4, a49_6, Slots.ofList, wpo_u, wpc_draw, s3, reduceIte, Nat.reduceEqDiff, aBin, aInt, negIf, Option.some.injEq, exists_eq_left', Option.map_some, Option.bind_some, y1, y2, ← eh1, aFieldAddr, Nat.zero_add, l0, l6, nl, al, aPick, Int.reduceBEq, Int.reduceBNe, a49_7, wc_eq (wb _)]
    exact pureB (by simp only [get_put, reduceIte, Nat.reduceEqDiff]; rw [ek]; rfl) rfl
  | true =>
    have z : ((ns.length : Int) == 3) = (ns.length == 3) := by
      cases e2 : (ns.length == 3) with
      | true => have := eq_of_beq e2; simp [this]
      | false => simp at e2; simp; omega
    simp only [a49, a49_0, a49_1, a49_2, a49_4, a49_6, Slots.ofList, wpo_u, wpc_draw, s3, reduceIte, Nat.reduceEqDiff, aBin, aInt, negIf, Option.some.injEq, exists_eq_left', Option.map_some, Option.bind_some, y1, y2, ← eh1, aFieldAddr, Nat.zero_add, l0, l6, nl, al, aPick, Int.reduceBEq, Int.reduceBNe, a49_7, wc_eq (wb _), l4, z]
    exact pureB (by simp only [get_put, reduceIte, Nat.reduceEqDiff]; rw [ek]; rfl) rfl
theorem rform_k4 (i : Int) (s : List UInt8) (c : Int) (nf : Option Bool) (ns : List Int) (af : Option Bool) (ar : List Tm) (ho : Tm.Ok (.mk 4 i s c nf ns af ar)) (h : Heap) : WC env 49 [.agg (tc (.mk 4 i s c nf ns af ar))] h (fun o => o = .ret ⟨.bool (kindOk (.mk 4 i s c nf ns af ar)), h, .none⟩) := by
  obtain ⟨ss, sn, sa, _⟩ := ho.lens
  refine call_pure rfl rfl rfl (by simp only [AV.noRefs, AV.noRef, noRef_tc, Bool.and_self]) ?_
  obtain ⟨t, et⟩ : ∃ t : Tm, t = (.mk 4 i s c nf ns af ar) := ⟨_, rfl⟩
  obtain ⟨cs, ec⟩ : ∃ cs, cs = tc t := ⟨_, rfl⟩
  obtain ⟨nv, en⟩ : ∃ nv, nv = slAV nf ns.length (u32s ns) := ⟨_, rfl⟩
  obtain ⟨av, ea⟩ : ∃ av, av = slAV af ar.length (tcs ar) := ⟨_, rfl⟩
  have ec' : cs = [.int .i64 4, .int .i64 i, .str s, .int .u32 c, nv, av] := by rw [ec, et, en, ea]; rfl
  obtain ⟨h1, eh1⟩ : ∃ h1, h1 = Heap.empty.new cs := ⟨_, rfl⟩
  have a1 : h1.at_ Heap.empty.next 0 = some [.int .i64 4, .int .i64 i, .str s, .int .u32 c, nv, av] := by rw [← ec', eh1]; exact at_new _
  rw [← et, ← ec]
  have y1 : (AV.agg cs).row = some cs := rfl
  have y2 : cs.length = 6 := by rw [ec']; rfl
  have l0 := ld60 a1
  have l4 := ld64 a1
  have l5 := ld65 a1
  have l6 : aLoad h1 true 6 (.ptr Heap.empty.next 0 0) = some ⟨.agg cs, h1, .read⟩ := by rw [ec']; exact ld6 a1
  have nl : ∀ h, aLenOp false h nv = some ⟨.int .i64 ns.length, h, .none⟩ := fun h => by rw [en]; exact len_sl _ _ _ (fun _ => trivial) h
  have al : ∀ h, aLenOp false h av = some ⟨.int .i64 ar.length, h, .none⟩ := fun h => by rw [ea]; exact len_sl _ _ _ (fun _ => trivial) h
  obtain ⟨x, ex⟩ : ∃ x : Bool, x = (i == 0 && ar.length == 0) := ⟨_, rfl⟩
  have wb : ∀ h, WC env 83 [.agg cs, .str [115, 99, 110]] h (fun o => o = .ret ⟨.bool x, h, .none⟩) := fun h => by rw [ec, et, ex]; exact bare_scn 4 i s c nf ns af ar h
  have xe : emptyF t true true false = x := by
    rw [et, emptyF, ex]
    cases h1 : (i == 0) <;> cases h2 : (s == []) <;> cases h3 : (c == 0) <;> cases h4 : (ns.length == 0) <;> cases h5 : (ar.length == 0) <;> simp
  have ek : kindOk t = (x && ns.length == 2) := by rw [et, kindOk, ← et]; simp [xe]
  cases x with
  | false =>
    simp only [a49, a49_0, a49_1, a49_2, a49_4, a49_6, a49_8, Slots.ofList, wpo_u, wpc_draw, s3, reduceIte, Nat.reduceEqDiff, aBin, aInt, negIf, Option.some.injEq, exists_eq_left', Option.map_some, Option.bind_some, y1, y2, ← eh1, aFieldAddr, Nat.zero_add, l0, l6, nl, al, aPick, Int.reduceBEq, Int.reduceBNe, a49_9, wc_eq (wb _)]
    exact pureB (by simp only [get_put, reduceIte, Nat.reduceEqDiff]; rw [ek]; rfl) rfl
  | true =>
    have z : ((ns.length : Int) == 2) = (ns.length == 2) := by
      cases e2 : (ns.length == 2) with
      | true => have := eq_of_beq e2; simp [this]
      | false => simp at e2; simp; omega
    simp only [a49, a49_0, a49_1, a49_2, a49_4, a49_6, a49_8, Slots.ofList, wpo_u, wpc_draw, s3, reduceIte, Nat.reduceEqDiff, aBin, aInt, negIf, Option.some.injEq, exists_eq_left', Option.map_some, Option.bind_some, y1, y2, ← eh1, aFieldAddr, Nat.zero_add, l0, l6, nl, al, aPick, Int.reduceBEq, Int.reduceBNe, a49_9, wc_eq (wb _), l4, z]
    exact pureB (by simp only [get_put, reduceIte, Nat.reduceEqDiff]; rw [ek]; rfl) rfl
theorem rform_k5 (i : Int) (s : List UInt8) (c : Int) (nf : Option Bool) (ns : List Int) (af : Option Bool) (ar : List Tm) (ho : Tm.Ok (.mk 5 i s c nf ns af ar)) (h : Heap) : WC env 49 [.agg (tc (.mk 5 i s c nf ns af ar))] h (fun o => o = .ret ⟨.bool (kindOk (.mk 5 i s c nf ns af ar)), h, .none⟩) := by
  obtain ⟨ss, sn, sa, _⟩ := ho.lens
  refine call_pure rfl rfl rfl (by simp only [AV.noRefs, AV.noRef, noRef_tc, Bool.and_self]) ?_
  obtain ⟨t, et⟩ : ∃ t : Tm, t = (.mk 5 i s c nf ns af ar) := ⟨_, rfl⟩
  obtain ⟨cs, ec⟩ : ∃ cs, cs = tc t := ⟨_, rfl⟩
  obtain ⟨nv, en⟩ : ∃ nv, nv = slAV nf ns.length (u32s ns) := ⟨_, rfl⟩
  obtain ⟨av, ea⟩ : ∃ av, av = slAV af ar.length (tcs ar) := ⟨_, rfl⟩
  have ec' : cs = [.int .i64 5, .int .i64 i, .str s, .int .u32 c, nv, av] := by rw [ec, et, en, ea]; rfl
  obtain ⟨h1, eh1⟩ : ∃ h1, h1 = Heap.empty.new cs := ⟨_, rfl⟩
  have a1 : h1.at_ Heap.empty.next 0 = some [.int .i64 5, .int .i64 i, .str s, .int .u32 c, nv, av] := by rw [← ec', eh1]; exact at_new _
  rw [← et, ← ec]
  have y1 : (AV.agg cs).row = some cs := rfl
  have y2 : cs.length = 6 := by rw [ec']; rfl
  have l0 := ld60 a1
  have l4 := ld64 a1
  have l5 := ld65 a1
  have l6 : aLoad h1 true 6 (.ptr Heap.empty.next 0 0) = some ⟨.agg cs, h1, .read⟩ := by rw [ec']; exact ld6 a1
  have nl : ∀ h, aLenOp false h nv = some ⟨.int .i64 ns.length, h, .none⟩ := fun h => by rw [en]; exact len_sl _ _ _ (fun _ => trivial) h
  have al : ∀ h, aLenOp false h av = some ⟨.int .i64 ar.length, h, .none⟩ := fun h => by rw [ea]; exact len_sl _ _ _ (fun _ => trivial) h
  obtain ⟨x, ex⟩ : ∃ x : Bool, x = (i == 0 && s == [] && c == 0 && ns.length == 0) := ⟨_, rfl⟩
  have wb : ∀ h, WC env 83 [.agg cs, .str [97]] h (fun o => o = .ret ⟨.bool x, h, .none⟩) := fun h => by rw [ec, et, ex]; exact bare_a 5 i s c nf ns af ar h
  have xe : emptyF t false false true = x := by
    rw [et, emptyF, ex]
    cases h1 : (i == 0) <;> cases h2 : (s == []) <;> cases h3 : (c == 0) <;> cases h4 : (ns.length == 0) <;> cases h5 : (ar.length == 0) <;> simp
  have ek : kindOk t = x := by rw [et, kindOk, ← et]; simp [xe]
  simp only [a49, a49_0, a49_1, a49_2, a49_4, a49_6, a49_8, a49_10, Slots.ofList, wpo_u, wpc_draw, s3, reduceIte, Nat.reduceEqDiff, aBin, aInt, negIf, Option.some.injEq, exists_eq_left', Option.map_some, Option.bind_some, y1, y2, ← eh1, aFieldAddr, Nat.zero_add, l0, l6, nl, al, aPick, Int.reduceBEq, Int.reduceBNe, a49_11, wc_eq (wb _)]
  exact pureB (by simp only [get_put, reduceIte, Nat.reduceEqDiff]; rw [ek]) rfl
theorem rform_k6 (i : Int) (s : List UInt8) (c : Int) (nf : Option Bool) (ns : List Int) (af : Option Bool) (ar : List Tm) (ho : Tm.Ok (.mk 6 i s c nf ns af ar)) (h : Heap) : WC env 49 [.agg (tc (.mk 6 i s c nf ns af ar))] h (fun o => o = .ret ⟨.bool (kindOk (.mk 6 i s c nf ns af ar)), h, .none⟩) := by
  obtain ⟨ss, sn, sa, _⟩ := ho.lens
  refine call_pure rfl rfl rfl (by simp only [AV.noRefs, AV.noRef, noRef_tc, Bool.and_self]) ?_
  obtain ⟨t, et⟩ : ∃ t : Tm, t = (.mk 6 i s c nf ns af ar) := ⟨_, rfl⟩
  obtain ⟨cs, ec⟩ : ∃ cs, cs = tc t := ⟨_, rfl⟩
  obtain ⟨nv, en⟩ : ∃ nv, nv = slAV nf ns.length (u32s ns) := ⟨_, rfl⟩
  obtain ⟨av, ea⟩ : ∃ av, av = slAV af ar.length (tcs ar) := ⟨_, rfl⟩
  have ec' : cs = [.int .i64 6, .int .i64 i, .str s, .int .u32 c, nv, av] := by rw [ec, et, en, ea]; rfl
  obtain ⟨h1, eh1⟩ : ∃ h1, h1 = Heap.empty.new cs := ⟨_, rfl⟩
  have a1 : h1.at_ Heap.empty.next 0 = some [.int .i64 6, .int .i64 i, .str s, .int .u32 c, nv, av] := by rw [← ec', eh1]; exact at_new _
  rw [← et, ← ec]
  have y1 : (AV.agg cs).row = some cs := rfl
  have y2 : cs.length = 6 := by rw [ec']; rfl
  have l0 := ld60 a1
  have l4 := ld64 a1
  have l5 := ld65 a1
  have l6 : aLoad h1 true 6 (.ptr Heap.empty.next 0 0) = some ⟨.agg cs, h1, .read⟩ := by rw [ec']; exact ld6 a1
  have nl : ∀ h, aLenOp false h nv = some ⟨.int .i64 ns.length, h, .none⟩ := fun h => by rw [en]; exact len_sl _ _ _ (fun _ => trivial) h
  have al : ∀ h, aLenOp false h av = some ⟨.int .i64 ar.length, h, .none⟩ := fun h => by rw [ea]; exact len_sl _ _ _ (fun _ => trivial) h
  obtain ⟨x, ex⟩ : ∃ x : Bool, x = (i == 0 && s == [] && c == 0 && ns.length == 0 && ar.length == 0) := ⟨_, rfl⟩
  have wb : ∀ h, WC env 83 [.agg cs, .str []] h (fun o => o = .ret ⟨.bool x, h, .none⟩) := fun h => by rw [ec, et, ex]; exact bare_z 6 i s c nf ns af ar h
  have xe : emptyF t false false false = x := by
    rw [et, emptyF, ex]
    cases h1 : (i == 0) <;> cases h2 : (s == []) <;> cases h3 : (c == 0) <;> cases h4 : (ns.length == 0) <;> cases h5 : (ar.length == 0) <;> simp
  have ek : kindOk t = x := by rw [et, kindOk, ← et]; simp [xe]
  simp only [a49, a49_0, a49_1, a49_2, a49_4, a49_6, a49_8, a49_10, a49_12, Slots.ofList, wpo_u, wpc_draw, s3, reduceIte, Nat.reduceEqDiff, aBin, aInt, negIf, Option.some.injEq, exists_eq_left', Option.map_some, Option.bind_some, y1, y2, ← eh1, aFieldAddr, Nat.zero_add, l0, l6, nl, al, aPick, Int.reduceBEq, Int.reduceBNe, a49_13, wc_eq (wb _)]
  exact pureB (by simp only [get_put, reduceIte, Nat.reduceEqDiff]; rw [ek]) rfl
theorem rform_k7 (i : Int) (s : List UInt8) (c : Int) (nf : Option Bool) (ns : List Int) (af : Option Bool) (ar : List Tm) (ho : Tm.Ok (.mk 7 i s c nf ns af ar)) (h : Heap) : WC env 49 [.agg (tc (.mk 7 i s c nf ns af ar))] h (fun o => o = .ret ⟨.bool (kindOk (.mk 7 i s c nf ns af ar)), h, .none⟩) := by
  obtain ⟨ss, sn, sa, _⟩ := ho.lens
  refine call_pure rfl rfl rfl (by simp only [AV.noRefs, AV.noRef, noRef_tc, Bool.and_self]) ?_
  obtain ⟨t, et⟩ : ∃ t : Tm, t = (.mk 7 i s c nf ns af ar) := ⟨_, rfl⟩
  obtain ⟨cs, ec⟩ : ∃ cs, cs = tc t := ⟨_, rfl⟩
  obtain ⟨nv, en⟩ : ∃ nv, nv = slAV nf ns.length (u32s ns) := ⟨_, rfl⟩
  obtain ⟨av, ea⟩ : ∃ av, av = slAV af ar.length (tcs ar) := ⟨_, rfl⟩
  have ec' : cs = [.int .i64 7, .int .i64 i, .str s, .int .u32 c, nv, av] := by rw [ec, et, en, ea]; rfl
  obtain ⟨h1, eh1⟩ : ∃ h1, h1 = Heap.empty.new cs := ⟨_, rfl⟩
  have a1 : h1.at_ Heap.empty.next 0 = some [.int .i64 7, .int .i64 i, .str s, .int .u32 c, nv, av] := by rw [← ec', eh1]; exact at_new _
  rw [← et, ← ec]
  have y1 : (AV.agg cs).row = some cs := rfl
  have y2 : cs.length = 6 := by rw [ec']; rfl
  have l0 := ld60 a1
  have l4 := ld64 a1
  have l5 := ld65 a1
  have l6 : aLoad h1 true 6 (.ptr Heap.empty.next 0 0) = some ⟨.agg cs, h1, .read⟩ := by rw [ec']; exact ld6 a1
  have nl : ∀ h, aLenOp false h nv = some ⟨.int .i64 ns.length, h, .none⟩ := fun h => by rw [en]; exact len_sl _ _ _ (fun _ => trivial) h
  have al : ∀ h, aLenOp false h av = some ⟨.int .i64 ar.length, h, .none⟩ := fun h => by rw [ea]; exact len_sl _ _ _ (fun _ => trivial) h
  obtain ⟨x, ex⟩ : ∃ x : Bool, x = (i == 0 && s == [] && c == 0 && ns.length == 0) := ⟨_, rfl⟩
  have wb : ∀ h, WC env 83 [.agg cs, .str [97]] h (fun o => o = .ret ⟨.bool x, h, .none⟩) := fun h => by rw [ec, et, ex]; exact bare_a 7 i s c nf ns af ar h
  have xe : emptyF t false false true = x := by
    rw [et, emptyF, ex]
    cases h1 : (i == 0) <;> cases h2 : (s == []) <;> cases h3 : (c == 0) <;> cases h4 : (ns.length == 0) <;> cases h5 : (ar.length == 0) <;> simp
  have ek : kindOk t = (x && decide (ar.length ≥ 2) && lastNot7 ar) := by rw [et, kindOk, ← et]; simp [xe]
  cases x with
  | false =>
    simp only [a49, a49_0, a49_1, a49_2, a49_4, a49_6, a49_8, a49_10, a49_12, a49_14, Slots.ofList, wpo_u, wpc_draw, s3, reduceIte, Nat.reduceEqDiff, aBin, aInt, negIf, Option.some.injEq, exists_eq_left', Option.map_some, Option.bind_some, y1, y2, ← eh1, aFieldAddr, Nat.zero_add, l0, l6, nl, al, aPick, Int.reduceBEq, Int.reduceBNe, a49_15, a49_16, wc_eq (wb _), l5]
    exact pureB (by simp only [get_put, reduceIte, Nat.reduceEqDiff]; rw [ek]; rfl) rfl
  | true =>
  by_cases c2 : ar.length ≥ 2
  case neg =>
    have z : ((ar.length : Int) ≥ 2) = False := eq_false (by omega)
    simp only [a49, a49_0, a49_1, a49_2, a49_4, a49_6, a49_8, a49_10, a49_12, a49_14, Slots.ofList, wpo_u, wpc_draw, s3, reduceIte, Nat.reduceEqDiff, aBin, aInt, negIf, Option.some.injEq, exists_eq_left', Option.map_some, Option.bind_some, y1, y2, ← eh1, aFieldAddr, Nat.zero_add, l0, l6, nl, al, aPick, Int.reduceBEq, Int.reduceBNe, a49_15, a49_16, wc_eq (wb _), l5, z]
    exact pureB (by simp only [get_put, reduceIte, Nat.reduceEqDiff]; rw [ek, decide_eq_false c2]; rfl) rfl
  have z : ((ar.length : Int) ≥ 2) = True := eq_true (by omega)
  have zs : IntKind.wrap .i64 ((ar.length : Int) - 1) = ((ar.length - 1 : Nat) : Int) := wrap_nat (by omega) (by omega)
  have hi : ar.length - 1 < ar.length := by omega
  have ix : aIdxAddr 6 av (.int .i64 ((ar.length - 1 : Nat) : Int)) = some (.fp ((tcs ar).drop ((ar.length - 1) * 6))) := by rw [ea]; exact idx_args hi
  have lx : ∀ h, aLoad h false 1 (.fp ((tcs ar).drop ((ar.length - 1) * 6))) = some ⟨.int .i64 (ar[ar.length - 1]).kind, h, .none⟩ := fun h => ld_arg0 hi h
  have ln := lastNot7_get ar hi
  simp only [a49, a49_0, a49_1, a49_2, a49_4, a49_6, a49_8, a49_10, a49_12, a49_14, Slots.ofList, wpo_u, wpc_draw, s3, reduceIte, Nat.reduceEqDiff, aBin, aInt, negIf, Option.some.injEq, exists_eq_left', Option.map_some, Option.bind_some, y1, y2, ← eh1, aFieldAddr, Nat.zero_add, l0, l6, nl, al, aPick, Int.reduceBEq, Int.reduceBNe, a49_15, a49_16, wc_eq (wb _), l5, z, zs, ix, fa0, List.drop_zero, lx]
  exact pureB (by simp only [get_put, reduceIte, Nat.reduceEqDiff]; rw [ek, decide_eq_true c2, ln]; rfl) rfl
theorem rform_k0 (k : Int) (i : Int) (s : List UInt8) (c : Int) (nf : Option Bool) (ns : List Int) (af : Option Bool) (ar : List Tm) (ho : Tm.Ok (.mk k i s c nf ns af ar)) (hk : ∀ j : Int, 1 ≤ j → j ≤ 7 → k ≠ j) (h : Heap) : WC env 49 [.agg (tc (.mk k i s c nf ns af ar))] h (fun o => o = .ret ⟨.bool (kindOk (.mk k i s c nf ns af ar)), h, .none⟩) := by
  obtain ⟨ss, sn, sa, _⟩ := ho.lens
  refine call_pure rfl rfl rfl (by simp only [AV.noRefs, AV.noRef, noRef_tc, Bool.and_self]) ?_
  obtain ⟨t, et⟩ : ∃ t : Tm, t = (.mk k i s c nf ns af ar) := ⟨_, rfl⟩
  obtain ⟨cs, ec⟩ : ∃ cs, cs = tc t := ⟨_, rfl⟩
  obtain ⟨nv, en⟩ : ∃ nv, nv = slAV nf ns.length (u32s ns) := ⟨_, rfl⟩
  obtain ⟨av, ea⟩ : ∃ av, av = slAV af ar.length (tcs ar) := ⟨_, rfl⟩
  have ec' : cs = [.int .i64 k, .int .i64 i, .str s, .int .u32 c, nv, av] := by rw [ec, et, en, ea]; rfl
  obtain ⟨h1, eh1⟩ : ∃ h1, h1 = Heap.empty.new cs := ⟨_, rfl⟩
  have a1 : h1.at_ Heap.empty.next 0 = some [.int .i64 k, .int .i64 i, .str s, .int .u32 c, nv, av] := by rw [← ec', eh1]; exact at_new _
  rw [← et, ← ec]
  have y1 : (AV.agg cs).row = some cs := rfl
  have y2 : cs.length = 6 := by rw [ec']; rfl
  have l0 := ld60 a1
  have l4 := ld64 a1
  have l5 := ld65 a1
  have l6 : aLoad h1 true 6 (.ptr Heap.empty.next 0 0) = some ⟨.agg cs, h1, .read⟩ := by rw [ec']; exact ld6 a1
  have nl : ∀ h, aLenOp false h nv = some ⟨.int .i64 ns.length, h, .none⟩ := fun h => by rw [en]; exact len_sl _ _ _ (fun _ => trivial) h
  have al : ∀ h, aLenOp false h av = some ⟨.int .i64 ar.length, h, .none⟩ := fun h => by rw [ea]; exact len_sl _ _ _ (fun _ => trivial) h
  have q1 : (k == 1) = false := by simpa using hk 1 (by omega) (by omega)
  have q2 : (k == 2) = false := by simpa using hk 2 (by omega) (by omega)
  have q3 : (k == 3) = false := by simpa using hk 3 (by omega) (by omega)
  have q4 : (k == 4) = false := by simpa using hk 4 (by omega) (by omega)
  have q5 : (k == 5) = false := by simpa using hk 5 (by omega) (by omega)
  have q6 : (k == 6) = false := by simpa using hk 6 (by omega) (by omega)
  have q7 : (k == 7) = false := by simpa using hk 7 (by omega) (by omega)
  have ek : kindOk t = false := by rw [et, kindOk]; simp only [hk 1 (by omega) (by omega), hk 2 (by omega) (by omega), hk 3 (by omega) (by omega), hk 4 (by omega) (by omega), hk 5 (by omega) (by omega), hk 6 (by omega) (by omega), hk 7 (by omega) (by omega), if_false]
  simp only [a49, a49_0, a49_1, a49_2, a49_4, a49_6, a49_8, a49_10, a49_12, a49_14, Slots.ofList, wpo_u, wpc_draw, s3, reduceIte, Nat.reduceEqDiff, aBin, aInt, negIf, Option.some.injEq, exists_eq_left', Option.map_some, Option.bind_some, y1, y2, ← eh1, aFieldAddr, Nat.zero_add, l0, l6, nl, al, aPick, Int.reduceBEq, Int.reduceBNe, q1, q2, q3, q4, q5, q6, q7, a49_17]
  exact pureB (by simp only [get_put, reduceIte, Nat.reduceEqDiff]; rw [ek]) rfl
theorem rform_spec (t : Tm) (ho : t.Ok) (h : Heap) : WC env 49 [.agg (tc t)] h (fun o => o = .ret ⟨.bool (kindOk t), h, .none⟩) := by
  rcases t with ⟨k, i, s, c, nf, ns, af, ar⟩
  by_cases e1 : k = 1
  · subst e1; exact rform_k1 i s c nf ns af ar ho h
  by_cases e2 : k = 2
  · subst e2; exact rform_k2 i s c nf ns af ar ho h
  by_cases e3 : k = 3
  · subst e3; exact rform_k3 i s c nf ns af ar ho h
  by_cases e4 : k = 4
  · subst e4; exact rform_k4 i s c nf ns af ar ho h
  by_cases e5 : k = 5
  · subst e5; exact rform_k5 i s c nf ns af ar ho h
  by_cases e6 : k = 6
  · subst e6; exact rform_k6 i s c nf ns af ar ho h
  by_cases e7 : k = 7
  · subst e7; exact rform_k7 i s c nf ns af ar ho h
  exact rform_k0 k i s c nf ns af ar ho (fun j h1 h2 => by omega) h
end Go.Bf

set_option linter.unusedVariables false
set_option linter.unusedSimpArgs false
set_option maxRecDepth 20000
namespace Go.Bf
open Go.AM
theorem tm_ind {P : Tm → Prop} (h : ∀ k i s c nf ns af ar, (∀ t, t ∈ ar → P t) → P (.mk k i s c nf ns af ar)) : ∀ t, P t := by
  have go : ∀ (n : Nat) (t : Tm), SizeOf.sizeOf t ≤ n → P t := by
    intro n
    induction n with
    | zero => intro t ht; cases t; simp at ht
    | succ n ih =>
      intro t ht
      cases t with
      | mk k i s c nf ns af ar =>
        refine h k i s c nf ns af ar fun t m => ih t ?_
        have := List.sizeOf_lt_of_mem m
        simp at ht
        omega
  exact fun t => go _ t (Nat.le_refl _)
/-- a part's fault: which part, its number, what is under it -/
abbrev WFlt := Option (Int × Int × Und)
def walkAV : WFlt → AV
  | none => .nili
  | some (a, c, u) => errT a c u
theorem noRef_walk (x : WFlt) : (walkAV x).noRef = true := by
  rcases x with _ | ⟨a, c, _ | ⟨p, d⟩⟩ <;> rfl
theorem one_walk (x : WFlt) : (walkAV x).one = true := by
  rcases x with _ | ⟨a, c, u⟩ <;> rfl
mutual
def walkF : Tm → Nat → Nat → Nat → WFlt × Nat × Nat
  | .mk k i s c nf ns af ar, deep, n, d =>
    if n = 4096 then (some ((n : Int), 5, none), n, d)
    else if deep > 256 then (some ((n : Int), 9, none), n, d)
    else match formF (.mk k i s c nf ns af ar) with
      | some (c, u) => (some ((n : Int), c, u), n, d)
      | none => walkFs ar (deep + 1) (n + 1) (max d deep)
def walkFs : List Tm → Nat → Nat → Nat → WFlt × Nat × Nat
  | [], _, n, d => (none, n, d)
  | t :: l, deep, n, d => match walkF t deep n d with
    | (none, n', d') => walkFs l deep n' d'
    | (some e, n', d') => (some e, n', d')
end
theorem walk_le : ∀ t deep n d, n ≤ 4096 → d ≤ 256 → (walkF t deep n d).2.1 ≤ 4096 ∧ (walkF t deep n d).2.2 ≤ 256 := by
  refine tm_ind fun k i s c nf ns af ar ih deep n d hn hd => ?_
  have go : ∀ (l : List Tm), (∀ t, t ∈ l → t ∈ ar) → ∀ deep n d, n ≤ 4096 → d ≤ 256 → (walkFs l deep n d).2.1 ≤ 4096 ∧ (walkFs l deep n d).2.2 ≤ 256 := by
    intro l
    induction l with
    | nil => intro _ deep n d hn hd; exact ⟨hn, hd⟩
    | cons t l ihl =>
      intro hl deep n d hn hd
      have h1 := ih t (hl t (by simp)) deep n d hn hd
      rw [walkFs]
      split
      · rename_i n' d' e
        rw [e] at h1
        exact ihl (fun t m => hl t (by simp [m])) deep n' d' h1.1 h1.2
      · rename_i n' d' e
        rw [e] at h1
        exact h1
  rw [walkF]
  split
  · exact ⟨hn, hd⟩
  split
  · exact ⟨hn, hd⟩
  split
  · exact ⟨hn, hd⟩
  · exact go ar (fun _ m => m) _ _ _ (by omega) (by omega)
def w2 (n d : Nat) : List AV := [.int .i64 n, .int .i64 d]
def WalkOk (t : Tm) : Prop := ∀ (deep n d w : Nat) (h : Heap), HeapOk h → h.at_ w 0 = some (w2 n d) → n ≤ 4096 → deep ≤ 257 → d ≤ 256 →
  ∃ h', HeapOk h' ∧ Chg (fun i => i = w) h h' ∧ h'.at_ w 0 = some (w2 (walkF t deep n d).2.1 (walkF t deep n d).2.2) ∧
    WC env 97 [.ptr w 0 0, .agg (tc t), .int .i64 deep] h (fun o => o = .ret ⟨walkAV (walkF t deep n d).1, h', .write⟩)
theorem box_t {h : Heap} (ho : HeapOk h) (t : Tm) : ∃ h', aStore (h.new [.int .i64 0, .int .i64 0, .str [], .int .u32 0, .nils, .nils]) 6 (.ptr h.next 0 0) (.agg (tc t)) = some ⟨.undef, h', .write⟩ ∧ HeapOk h' ∧ h.le h' ∧ h'.at_ h.next 0 = some (tc t) := by
  cases t with
  | mk k i s c nf ns af ar => exact box6 ho _ _ _ _ _ _
theorem ld_t {h : Heap} {i : Nat} {t : Tm} (hat : h.at_ i 0 = some (tc t)) : aLoad h true 6 (.ptr i 0 0) = some ⟨.agg (tc t), h, .read⟩ := by
  cases t with
  | mk k i s c nf ns af ar => exact ld6 hat
theorem aEq_walk (f : Int × Int × Und) : aEq (.iface true) (walkAV (some f)) .nili = some false := rfl
theorem walk_loop {ar : List Tm} (hP : ∀ t, t ∈ ar → WalkOk t) (hlen : ar.length < 9223372036854775808) {af : Option Bool} {w deep : Nat} (hdeep : deep ≤ 256) {Q : AExit → St → Prop} :
    ∀ (f i : Nat) (σ : Slots) (h : Heap) (n d : Nat), ar.length - i < f → i ≤ ar.length → HeapOk h → h.at_ w 0 = some (w2 n d) → n ≤ 4096 → d ≤ 256 →
    σ.get 0 = .ptr w 0 0 → σ.get 2 = .int .i64 deep → σ.get 49 = slAV af ar.length (tcs ar) → σ.get 50 = .int .i64 ar.length → σ.get 51 = .int .i64 i →
    (∀ σ' h', HeapOk h' → Chg (fun i => i = w) h h' → h'.at_ w 0 = some (w2 (walkFs (ar.drop i) (deep + 1) n d).2.1 (walkFs (ar.drop i) (deep + 1) n d).2.2) →
      ((walkFs (ar.drop i) (deep + 1) n d).1 = none → Q (.exit 1) ⟨σ', h'⟩) ∧ (∀ e, (walkFs (ar.drop i) (deep + 1) n d).1 = some e → σ'.get 6 = walkAV (some e) → Q .ret ⟨σ', h'⟩)) →
    WPr env a97_l18 ⟨σ, h⟩ Q := by
  intro f
  induction f with
  | zero => intro i σ h n d h1; omega
  | succ f ih =>
    intro i σ h n d hf hi ho hw hn hd g0 g2 g49 g50 g51 hQ
    refine wpr_round' fun b hb => ?_
    by_cases c1 : i < ar.length
    · have z0 : ((i : Int) < (ar.length : Int)) = True := eq_true (by omega)
      have zi : IntKind.wrap .i64 ((i : Int) + 1) = ((i + 1 : Nat) : Int) := wrap_nat (by omega) (by omega)
      have zd : IntKind.wrap .i64 ((deep : Int) + 1) = ((deep + 1 : Nat) : Int) := wrap_nat (by omega) (by omega)
      have lx := idx_args (f := af) c1
      have ld := ld_args c1 h
      obtain ⟨t, et⟩ : ∃ t, t = ar[i] := ⟨_, rfl⟩
      have hd' : ar.drop i = t :: ar.drop (i + 1) := by rw [et]; exact List.drop_eq_getElem_cons c1
      rw [← et] at ld
      obtain ⟨h2, st2, ho2, le2, at2⟩ := box_t ho t
      have lt2 := ld_t at2
      have hw2 := le2.2 _ _ _ hw
      obtain ⟨h3, ho3, ch3, hw3, wc3⟩ := hP t (by rw [et]; exact List.getElem_mem c1) (deep + 1) n d w h2 ho2 hw2 hn (by omega) hd
      have bd := walk_le t (deep + 1) n d hn hd
      rw [hd', walkFs] at hQ
      have ec : Chg (fun i => i = w) h h3 := le2.chg.trans ch3
      cases e : (walkF t (deep + 1) n d) with
      | mk r nd =>
        obtain ⟨n', d'⟩ := nd
        rw [e] at hQ hw3 wc3 bd
        cases r with
        | none =>
          have wc3' : WC env 97 [.ptr w 0 0, .agg (tc t), .int .i64 ((deep + 1 : Nat) : Int)] h2 (fun o => o = .ret ⟨.nili, h3, .write⟩) := wc3
          simp only [a97_l18, a97_12, a97_13, a97_14, a97_15, a97_17, wpc_draw, s3, reduceIte, Nat.reduceEqDiff, aBin, aInt, negIf, Option.some.injEq, exists_eq_left', Option.map_some, Option.bind_some, g0, g2, g49, g50, g51, z0, zi, zd, lx, ld, st2, lt2, wc_eq wc3', eq_nil, Bool.not_true]
          subst hb
          refine ih (i + 1) _ h3 n' d' (by omega) (by omega) ho3 hw3 bd.1 bd.2 ?_ ?_ ?_ ?_ ?_ fun σ' h' q1 q2 q3 => hQ σ' h' q1 (ec.trans q2) q3
          · simp only [get_put, reduceIte, Nat.reduceEqDiff, g0]
          · simp only [get_put, reduceIte, Nat.reduceEqDiff, g2]
          · simp only [get_put, reduceIte, Nat.reduceEqDiff, g49]
          · simp only [get_put, reduceIte, Nat.reduceEqDiff, g50]
          · simp only [get_put, reduceIte, Nat.reduceEqDiff]
        | some er =>
          have wc3' : WC env 97 [.ptr w 0 0, .agg (tc t), .int .i64 ((deep + 1 : Nat) : Int)] h2 (fun o => o = .ret ⟨walkAV (some er), h3, .write⟩) := wc3
          simp only [a97_l18, a97_12, a97_13, a97_14, a97_15, a97_16, wpc_draw, s3, reduceIte, Nat.reduceEqDiff, aBin, aInt, negIf, Option.some.injEq, exists_eq_left', Option.map_some, Option.bind_some, g0, g2, g49, g50, g51, z0, zi, zd, lx, ld, st2, lt2, wc_eq wc3', aEq_walk, Bool.not_false]
          exact (hQ _ h3 ho3 ec hw3).2 er rfl (by simp only [get_put, reduceIte, Nat.reduceEqDiff])
    · have z0 : ((i : Int) < (ar.length : Int)) = False := eq_false (by omega)
      have hd' : ar.drop i = [] := List.drop_of_length_le (by omega)
      rw [hd'] at hQ
      simp only [a97_l18, a97_12, wpc_draw, s3, reduceIte, Nat.reduceEqDiff, aBin, aInt, negIf, Option.some.injEq, exists_eq_left', Option.map_some, Option.bind_some, g50, g51, z0]
      exact (hQ _ h ho Chg.refl hw).1 rfl
theorem walk_ok : ∀ t : Tm, t.Ok → WalkOk t := by
  refine tm_ind fun k i s c nf ns af ar ih ok deep n d w h ho hw hn hdeep hd => ?_
  obtain ⟨ss, sn, sa, sr⟩ := ok.lens
  have hP : ∀ t, t ∈ ar → WalkOk t := fun t m => ih t m (sr.get m)
  obtain ⟨t, et⟩ : ∃ t : Tm, t = .mk k i s c nf ns af ar := ⟨_, rfl⟩
  rw [← et] at ok ⊢
  obtain ⟨cs, ec⟩ : ∃ cs, cs = tc t := ⟨_, rfl⟩
  obtain ⟨av, ea⟩ : ∃ av, av = slAV af ar.length (tcs ar) := ⟨_, rfl⟩
  have ec' : cs = [.int .i64 k, .int .i64 i, .str s, .int .u32 c, slAV nf ns.length (u32s ns), av] := by rw [ec, et, ea]; rfl
  have iw := ho.lt hw
  obtain ⟨h1, eh1⟩ : ∃ h1, h1 = h.new cs := ⟨_, rfl⟩
  have ho1 : HeapOk h1 := by rw [eh1]; exact ho.new _
  have le1 : h.le h1 := by rw [eh1]; exact le_new ho _
  have a1 : h1.at_ h.next 0 = some [.int .i64 k, .int .i64 i, .str s, .int .u32 c, slAV nf ns.length (u32s ns), av] := by rw [← ec', eh1]; exact at_new _
  have aw1 : h1.at_ w 0 = some [.int .i64 n, .int .i64 d] := le1.2 _ _ _ hw
  have y1 : (AV.agg cs).row = some cs := rfl
  have y2 : cs.length = 6 := by rw [ec']; rfl
  have l0 := ld20 aw1
  have l6 : aLoad h1 true 6 (.ptr h.next 0 0) = some ⟨.agg cs, h1, .read⟩ := by rw [ec']; exact ld6 a1
  rw [← ec]
  have ef : walkF t deep n d = if n = 4096 then (some ((n : Int), 5, none), n, d)
    else if deep > 256 then (some ((n : Int), 9, none), n, d)
    else match formF t with
      | some (c, u) => (some ((n : Int), c, u), n, d)
      | none => walkFs ar (deep + 1) (n + 1) (max d deep) := by rw [et, walkF]
  by_cases c1 : n = 4096
  · have z : ((n : Int) == 4096) = true := by simp; omega
    have er : walkF t deep n d = (some ((n : Int), 5, none), n, d) := by rw [ef, if_pos c1]
    rw [er]
    refine ⟨h1, ho1, le1.chg, aw1, call_body rfl rfl (.inr (by simp only [AV.noRefs, AV.noRef, Bool.false_and])) ?_⟩
    simp only [a97, a97_0, a97_1, a97_2, a97_3, Slots.ofList, wpc_draw, s3, reduceIte, Nat.reduceEqDiff, aBin, aInt, negIf, Option.some.injEq, exists_eq_left', Option.map_some, Option.bind_some, y1, y2, ← eh1, aNil_ptr, aFieldAddr, Nat.zero_add, l0, z, wc_eq (tfault_nil _ _ _)]
    exact ⟨[errT n 5 none], by simp only [Env.results, Option.map_some, get_put, reduceIte, Nat.reduceEqDiff], rfl⟩
  have z : ((n : Int) == 4096) = false := by simp; omega
  by_cases c2 : deep > 256
  · have z2 : ((deep : Int) > 256) = True := eq_true (by omega)
    have er : walkF t deep n d = (some ((n : Int), 9, none), n, d) := by rw [ef, if_neg c1, if_pos c2]
    rw [er]
    refine ⟨h1, ho1, le1.chg, aw1, call_body rfl rfl (.inr (by simp only [AV.noRefs, AV.noRef, Bool.false_and])) ?_⟩
    simp only [a97, a97_0, a97_1, a97_2, a97_4, a97_5, Slots.ofList, wpc_draw, s3, reduceIte, Nat.reduceEqDiff, aBin, aInt, negIf, Option.some.injEq, exists_eq_left', Option.map_some, Option.bind_some, y1, y2, ← eh1, aNil_ptr, aFieldAddr, Nat.zero_add, l0, z, z2, wc_eq (tfault_nil _ _ _)]
    exact ⟨[errT n 9 none], by simp only [Env.results, Option.map_some, get_put, reduceIte, Nat.reduceEqDiff], rfl⟩
  have z2 : ((deep : Int) > 256) = False := eq_false (by omega)
  have wf : ∀ h, WC env 130 [.agg cs, .int .i64 (n : Int)] h (fun o => o = .ret ⟨formAV n (formF t), h, .none⟩) := fun h => by rw [ec]; exact form_spec t ok n h
  cases e1 : formF t with
  | some cu =>
    obtain ⟨cd, u⟩ := cu
    have er : walkF t deep n d = (some ((n : Int), cd, u), n, d) := by rw [ef, if_neg c1, if_neg c2, e1]
    rw [er]
    have wf : ∀ h, WC env 130 [.agg cs, .int .i64 (n : Int)] h (fun o => o = .ret ⟨errT n cd u, h, .none⟩) := fun h => by have := wf h; rw [e1] at this; exact this
    have aq : aEq (.iface true) (errT n cd u) .nili = some false := rfl
    refine ⟨h1, ho1, le1.chg, aw1, call_body rfl rfl (.inr (by simp only [AV.noRefs, AV.noRef, Bool.false_and])) ?_⟩
    simp only [a97, a97_0, a97_1, a97_2, a97_4, a97_6, a97_7, a97_8, Slots.ofList, wpc_draw, s3, reduceIte, Nat.reduceEqDiff, aBin, aInt, negIf, Option.some.injEq, exists_eq_left', Option.map_some, Option.bind_some, y1, y2, ← eh1, aNil_ptr, aFieldAddr, Nat.zero_add, l0, l6, z, z2, wc_eq (wf _), aq, Bool.not_false]
    exact ⟨[errT n cd u], by simp only [Env.results, Option.map_some, get_put, reduceIte, Nat.reduceEqDiff], rfl⟩
  | none =>
    have er : walkF t deep n d = walkFs ar (deep + 1) (n + 1) (max d deep) := by rw [ef, if_neg c1, if_neg c2, e1]
    rw [er]
    have wf : ∀ h, WC env 130 [.agg cs, .int .i64 (n : Int)] h (fun o => o = .ret ⟨.nili, h, .none⟩) := fun h => by have := wf h; rw [e1] at this; exact this
    obtain ⟨h2, eh2⟩ : ∃ h2, h2 = h1.upd w 0 [.int .i64 ((n + 1 : Nat) : Int), .int .i64 d] := ⟨_, rfl⟩
    have ho2 : HeapOk h2 := by rw [eh2]; exact ho1.upd (at_look.1 aw1) _ _
    have aw2 : h2.at_ w 0 = some [.int .i64 ((n + 1 : Nat) : Int), .int .i64 d] := by rw [eh2]; exact at_upd
    have a2 : h2.at_ h.next 0 = some [.int .i64 k, .int .i64 i, .str s, .int .u32 c, slAV nf ns.length (u32s ns), av] := by rw [eh2, at_upd_ne (by omega)]; exact a1
    obtain ⟨h3, eh3⟩ : ∃ h3, h3 = h2.upd w 0 [.int .i64 ((n + 1 : Nat) : Int), .int .i64 ((max d deep : Nat) : Int)] := ⟨_, rfl⟩
    have ho3 : HeapOk h3 := by rw [eh3]; exact ho2.upd (at_look.1 aw2) _ _
    have aw3 : h3.at_ w 0 = some [.int .i64 ((n + 1 : Nat) : Int), .int .i64 ((max d deep : Nat) : Int)] := by rw [eh3]; exact at_upd
    have a3 : h3.at_ h.next 0 = some [.int .i64 k, .int .i64 i, .str s, .int .u32 c, slAV nf ns.length (u32s ns), av] := by rw [eh3, at_upd_ne (by omega)]; exact a2
    have s1 : aStore h1 1 (.ptr w 0 0) (.int .i64 ((n + 1 : Nat) : Int)) = some ⟨.undef, h2, .write⟩ := by rw [eh2]; exact st20 aw1
    have l1 := ld21 aw2
    have s2 : aStore h2 1 (.ptr w 0 1) (.int .i64 ((max d deep : Nat) : Int)) = some ⟨.undef, h3, .write⟩ := by rw [eh3]; exact st21 aw2
    have l5 := ld65 a3
    have zn : IntKind.wrap .i64 ((n : Int) + 1) = ((n + 1 : Nat) : Int) := wrap_nat (by omega) (by omega)
    have zm : aMinMax true (.int .i64 d) (.int .i64 deep) = some (.int .i64 ((max d deep : Nat) : Int)) := by
      show some (AV.int .i64 (if (d : Int) < deep then (deep : Int) else d)) = _
      split
      · rw [Nat.max_eq_right (by omega)]
      · rw [Nat.max_eq_left (by omega)]
    have al : ∀ h, aLenOp false h av = some ⟨.int .i64 ar.length, h, .none⟩ := fun h => by rw [ea]; exact len_sl _ _ _ (fun _ => trivial) h
    have ch : Chg (fun i => i = w) h h3 := by
      refine (le1.chg (S := fun i => i = w)).trans ?_
      rw [eh3, eh2]
      exact (upd_chg (S := fun i => i = w) rfl).trans (upd_chg (S := fun i => i = w) rfl)
    -- the end of the parts is known ahead: the walk of each is
    obtain ⟨h4, hh4⟩ : ∃ h4 : Heap, True := ⟨h, trivial⟩
    clear hh4 h4
    have hrun : WC env 97 [.ptr w 0 0, .agg cs, .int .i64 deep] h (fun o => ∃ h', o = .ret ⟨walkAV (walkFs ar (deep + 1) (n + 1) (max d deep)).1, h', .write⟩ ∧ HeapOk h' ∧ Chg (fun i => i = w) h h' ∧ h'.at_ w 0 = some (w2 (walkFs ar (deep + 1) (n + 1) (max d deep)).2.1 (walkFs ar (deep + 1) (n + 1) (max d deep)).2.2)) := by
      refine call_body rfl rfl (.inr (by simp only [AV.noRefs, AV.noRef, Bool.false_and])) ?_
      simp only [a97, a97_0, a97_1, a97_2, a97_4, a97_6, a97_7, a97_9, a97_10, a97_11, Slots.ofList, wpc_draw, s3, reduceIte, Nat.reduceEqDiff, aBin, aInt, negIf, Option.some.injEq, exists_eq_left', Option.map_some, Option.bind_some, wp1_minmax, op_minmax, y1, y2, ← eh1, aNil_ptr, aFieldAddr, Nat.zero_add, l0, l6, z, z2, wc_eq (wf _), eq_nil, Bool.not_true, zn, s1, l1, zm, s2, l5, al]
      refine walk_loop (ar := ar) hP sa (af := af) (w := w) (deep := deep) (by omega) (ar.length + 1) 0 _ h3 (n + 1) (max d deep) (by omega) (by omega) ho3 aw3 (by omega) (by omega) ?_ ?_ ?_ ?_ ?_ fun σ' h' q1 q2 q3 => ?_
      · simp only [get_put, reduceIte, Nat.reduceEqDiff]
      · simp only [get_put, reduceIte, Nat.reduceEqDiff]
      · simp only [get_put, reduceIte, Nat.reduceEqDiff, ea]
      · simp only [get_put, reduceIte, Nat.reduceEqDiff]
      · simp only [get_put, reduceIte, Nat.reduceEqDiff]; rfl
      · rw [List.drop_zero] at q3 ⊢
        refine ⟨fun e => ?_, fun e he g => ?_⟩
        · simp only [a97_19, wpc_draw, s3, reduceIte, Nat.reduceEqDiff, aBin, aInt, negIf, Option.some.injEq, exists_eq_left', Option.map_some, Option.bind_some]
          exact ⟨[.nili], by simp only [Env.results, Option.map_some, get_put, reduceIte, Nat.reduceEqDiff], h', by rw [e]; rfl, q1, ch.trans q2, q3⟩
        · simp only [wpc_draw, s3, reduceIte, Nat.reduceEqDiff, aBin, aInt, negIf, Option.some.injEq, exists_eq_left', Option.map_some, Option.bind_some]
          exact ⟨[walkAV (some e)], by simp only [Env.results, Option.map_some, g], h', by rw [he]; rfl, q1, ch.trans q2, q3⟩
    obtain ⟨o, hr, h', ho', p1, p2, p3⟩ := hrun
    exact ⟨h', p1, p2, p3, o, hr, ho'⟩
theorem measure_spec (t : Tm) (ok : t.Ok) (h : Heap) : WC env 54 [.agg (tc t)] h (fun o => o = .ret ⟨match walkF t 1 0 0 with
    | (none, n, d) => .tup [.int .i64 n, .int .i64 d, .nili]
    | (some e, _, _) => .tup [.int .i64 0, .int .i64 0, walkAV (some e)], h, .none⟩) := by
  refine call_pure rfl rfl rfl (by simp only [AV.noRefs, AV.noRef, noRef_tc, Bool.and_self, Bool.true_and]) ?_
  obtain ⟨h1, eh1⟩ : ∃ h1, h1 = Heap.empty.new (tc t) := ⟨_, rfl⟩
  have ho1 : HeapOk h1 := by rw [eh1]; exact HeapOk.empty.new _
  have a1 : h1.at_ Heap.empty.next 0 = some (tc t) := by rw [eh1]; exact at_new _
  obtain ⟨h2, eh2⟩ : ∃ h2, h2 = h1.new [.int .i64 0, .int .i64 0] := ⟨_, rfl⟩
  have ho2 : HeapOk h2 := by rw [eh2]; exact ho1.new _
  have a2 : h2.at_ Heap.empty.next 0 = some (tc t) := by rw [eh2]; exact (le_new ho1 _).2 _ _ _ a1
  have aw2 : h2.at_ h1.next 0 = some (w2 0 0) := by rw [eh2]; exact at_new _
  obtain ⟨h3, ho3, ch3, aw3, w3⟩ := walk_ok t ok 1 0 0 _ h2 ho2 aw2 (by omega) (by omega) (by omega)
  have y1 : (AV.agg (tc t)).row = some (tc t) := rfl
  have y2 : (tc t).length = 6 := tc_length t
  have l6 := ld_t a2
  cases e : walkF t 1 0 0 with
  | mk r nd =>
    obtain ⟨n, d⟩ := nd
    rw [e] at aw3 w3
    cases r with
    | none =>
      have w3' : WC env 97 [.ptr h1.next 0 0, .agg (tc t), .int .i64 1] h2 (fun o => o = .ret ⟨.nili, h3, .write⟩) := w3
      have l0 := ld20 aw3
      have l1 := ld21 aw3
      simp only [a54, a54_0, a54_1, a54_2, a54_3, a54_5, Slots.ofList, s3, reduceIte, Nat.reduceEqDiff, aBin, aInt, negIf, Option.some.injEq, exists_eq_left', Option.map_some, Option.bind_some, y1, y2, ← eh1, ← eh2, l6, wc_eq w3', eq_nil, Bool.not_true]
      refine wpc_draw_k ?_
      simp only [s3, reduceIte, Nat.reduceEqDiff, aBin, aInt, negIf, Option.some.injEq, exists_eq_left', Option.map_some, Option.bind_some, k3, aFieldAddr, Nat.zero_add, l0, l1]
      refine ⟨rfl, ?_⟩
      exact ⟨[.int .i64 n, .int .i64 d, .nili], _, by simp only [Env.results, Option.map_some, get_put, reduceIte, Nat.reduceEqDiff], (frz_noRef (v := .tup [.int .i64 n, .int .i64 d, .nili]) rfl).2 rfl, rfl⟩
    | some er =>
      have w3' : WC env 97 [.ptr h1.next 0 0, .agg (tc t), .int .i64 1] h2 (fun o => o = .ret ⟨walkAV (some er), h3, .write⟩) := w3
      simp only [a54, a54_0, a54_1, a54_2, a54_3, a54_4, Slots.ofList, wpc_draw, s3, reduceIte, Nat.reduceEqDiff, aBin, aInt, negIf, Option.some.injEq, exists_eq_left', Option.map_some, Option.bind_some, y1, y2, ← eh1, ← eh2, l6, wc_eq w3', aEq_walk, Bool.not_false]
      exact ⟨[.int .i64 0, .int .i64 0, walkAV (some er)], .tup [.int .i64 0, .int .i64 0, walkAV (some er)], by simp only [Env.results, Option.map_some, get_put, reduceIte, Nat.reduceEqDiff], (frz_noRef (v := .tup [.int .i64 0, .int .i64 0, walkAV (some er)]) (by simp only [AV.noRef, AV.noRefs, noRef_walk, Bool.and_self])).2 rfl, rfl⟩
/-- the fault that Check finds -/
def chkF (t : Tm) : WFlt := (walkF t 1 0 0).1
theorem check_spec (t : Tm) (ok : t.Ok) (h : Heap) : WC env 36 [.agg (tc t)] h (fun o => o = .ret ⟨walkAV (chkF t), h, .none⟩) := by
  refine call_pure rfl rfl rfl (by simp only [AV.noRefs, AV.noRef, noRef_tc, Bool.and_self, Bool.true_and]) ?_
  obtain ⟨h1, eh1⟩ : ∃ h1, h1 = Heap.empty.new (tc t) := ⟨_, rfl⟩
  have a1 : h1.at_ Heap.empty.next 0 = some (tc t) := by rw [eh1]; exact at_new _
  have y1 : (AV.agg (tc t)).row = some (tc t) := rfl
  have y2 : (tc t).length = 6 := tc_length t
  have l6 := ld_t a1
  obtain ⟨n, d, wm⟩ : ∃ n d : Int, ∀ h, WC env 54 [.agg (tc t)] h (fun o => o = .ret ⟨.tup [.int .i64 n, .int .i64 d, walkAV (chkF t)], h, .none⟩) := by
    have wm := measure_spec t ok
    cases e : walkF t 1 0 0 with
    | mk r nd =>
      obtain ⟨n, d⟩ := nd
      have ec : chkF t = r := by rw [chkF, e]
      rw [e] at wm
      rw [ec]
      cases r with
      | none => exact ⟨n, d, fun h => wm h⟩
      | some er => exact ⟨0, 0, fun h => wm h⟩
  simp only [a36, a36_0, a36_1, a36_2, Slots.ofList, wpc_draw, s3, reduceIte, Nat.reduceEqDiff, aBin, aInt, negIf, Option.some.injEq, exists_eq_left', Option.map_some, Option.bind_some, y1, y2, ← eh1, l6, wc_eq (wm _), aExtract, x30, x31, x32]
  exact fin1 (by simp only [get_put, reduceIte, Nat.reduceEqDiff] <;> rfl) (noRef_walk _) (one_walk _) rfl
end Go.Bf

set_option linter.unusedVariables false
set_option linter.unusedSimpArgs false
set_option maxRecDepth 20000
namespace Go.Bf
open Go.AM
def cmpI (a b : Int) : Int := if a < b then -1 else if a > b then 1 else 0
def cmpS (a b : List UInt8) : Int := if Op.bytesLess a b then -1 else if a == b then 0 else 1
theorem finB {s : St} {n : Nat} {x : Bool} {h : Heap} {Q : COut → Prop} (hg : s.σ.get n = .bool x) (hq : Q (.ret ⟨.bool x, h, .none⟩)) : pureQ env [.tmp n] h Q .ret s := fin1 hg rfl rfl hq
/-- the first of them that is not zero -/
def orI : List Int → Int
  | [] => 0
  | x :: l => if x ≠ 0 then x else orI l
def cmpNs : List Int → List Int → Int
  | [], [] => 0
  | [], _ :: _ => -1
  | _ :: _, [] => 1
  | a :: l, b :: m => if cmpI a b ≠ 0 then cmpI a b else cmpNs l m
theorem u32_length (l : List Int) : (u32s l).length = l.length := List.length_map _
theorem idx_nums {f : Option Bool} {l : List Int} {i : Nat} (hi : i < l.length) : aIdxAddr 1 (slAV f l.length (u32s l)) (.int .i64 i) = some (.fp ((u32s l).drop i)) := by
  have hl := u32_length l
  have go : ∀ b, aIdxAddr 1 (.fs b l.length (u32s l)) (.int .i64 i) = some (.fp ((u32s l).drop i)) := by
    intro b
    cases e : u32s l with
    | nil => rw [e] at hl; simp at hl; omega
    | cons c cs => simp only [aIdxAddr, aIndex_nat (kd := .i64) hi, Option.map_some, Nat.mul_one]
  cases f with
  | none =>
    cases n : l.length with
    | zero => omega
    | succ n => have := go false; rw [n] at this; exact this
  | some b => exact go b
theorem ld_nums {l : List Int} {i : Nat} (hi : i < l.length) (h : Heap) : aLoad h false 1 (.fp ((u32s l).drop i)) = some ⟨.int .u32 l[i], h, .none⟩ := by
  have : (u32s l).drop i = .int .u32 l[i] :: u32s (l.drop (i + 1)) := by
    rw [u32s, List.drop_eq_getElem_cons (by simpa using hi)]
    simp [u32s]
  rw [this]; rfl
end Go.Bf

set_option linter.unusedVariables false
set_option linter.unusedSimpArgs false
set_option maxRecDepth 20000
namespace Go.AM
end Go.AM
namespace Go.Bf
open Go.AM
mutual
def Wf : Tm → Prop
  | .mk k i s c nf ns af ar => (kindOk (.mk k i s c nf ns af ar) = true ∧ ar.length ≤ 4096) ∧ Wfs ar
def Wfs : List Tm → Prop
  | [] => True
  | t :: l => Wf t ∧ Wfs l
end
theorem Wfs.get : ∀ {l : List Tm} (h : Wfs l) {t : Tm}, t ∈ l → Wf t
  | [], h, t, m => by simp at m
  | u :: l, h, t, m => by
    rw [Wfs] at h
    rcases List.mem_cons.1 m with rfl | m
    · exact h.1
    · exact Wfs.get h.2 m
theorem walk_grows : ∀ t deep n d, (walkF t deep n d).1 = none → n + 1 ≤ (walkF t deep n d).2.1 := by
  refine tm_ind fun k i s c nf ns af ar ih deep n d h => ?_
  have go : ∀ (l : List Tm), (∀ t, t ∈ l → t ∈ ar) → ∀ deep n d, (walkFs l deep n d).1 = none → n + l.length ≤ (walkFs l deep n d).2.1 := by
    intro l
    induction l with
    | nil => intro _ _ _ _ _; exact Nat.le_refl _
    | cons t l ihl =>
      intro hl deep n d h
      have h1 := ih t (hl t (by simp)) deep n d
      rw [walkFs] at h ⊢
      split at h
      · rename_i n' d' e
        rw [e] at h1
        have h2 := ihl (fun t m => hl t (by simp [m])) _ _ _ h
        have h1 := h1 rfl
        simp only [List.length_cons] at h1 h2 ⊢
        omega
      · cases h
  rw [walkF] at h ⊢
  split at h
  · cases h
  rename_i c1
  rw [if_neg c1]
  split at h
  · cases h
  rename_i c2
  rw [if_neg c2]
  split at h
  · cases h
  rename_i c3
  exact Nat.le_trans (by omega) (go ar (fun _ m => m) _ _ _ h)
theorem walks_grow : ∀ (l : List Tm) deep n d, (walkFs l deep n d).1 = none → n + l.length ≤ (walkFs l deep n d).2.1
  | [], _, _, _, _ => Nat.le_refl _
  | t :: l, deep, n, d, h => by
    have h1 := walk_grows t deep n d
    rw [walkFs] at h ⊢
    split at h
    · rename_i n' d' e
      rw [e] at h1
      have h2 := walks_grow l _ _ _ h
      have h1 := h1 rfl
      simp only [List.length_cons] at h1 h2 ⊢
      omega
    · cases h
theorem walks_le : ∀ (l : List Tm) deep n d, n ≤ 4096 → d ≤ 256 → (walkFs l deep n d).2.1 ≤ 4096 ∧ (walkFs l deep n d).2.2 ≤ 256
  | [], _, _, _, hn, hd => ⟨hn, hd⟩
  | t :: l, deep, n, d, hn, hd => by
    have h1 := walk_le t deep n d hn hd
    rw [walkFs]
    split
    · rename_i n' d' e
      rw [e] at h1
      exact walks_le l _ _ _ h1.1 h1.2
    · rename_i n' d' e
      rw [e] at h1
      exact h1
theorem wf_walk : ∀ t deep n d, n ≤ 4096 → d ≤ 256 → (walkF t deep n d).1 = none → Wf t := by
  refine tm_ind fun k i s c nf ns af ar ih deep n d hn hd h => ?_
  have go : ∀ (l : List Tm), (∀ t, t ∈ l → t ∈ ar) → ∀ deep n d, n ≤ 4096 → d ≤ 256 → (walkFs l deep n d).1 = none → Wfs l := by
    intro l
    induction l with
    | nil => intro _ _ _ _ _ _ _; trivial
    | cons t l ihl =>
      intro hl deep n d hn hd h
      have h1 := ih t (hl t (by simp)) deep n d hn hd
      have hb := walk_le t deep n d hn hd
      rw [walkFs] at h
      split at h
      · rename_i n' d' e
        rw [e] at h1 hb
        exact ⟨h1 rfl, ihl (fun t m => hl t (by simp [m])) _ _ _ hb.1 hb.2 h⟩
      · cases h
  rw [walkF] at h
  split at h
  · cases h
  rename_i c1
  split at h
  · cases h
  rename_i c2
  split at h
  · cases h
  · rename_i e
    have h1 := walks_grow _ _ _ _ h
    have h2 := (walks_le ar (deep + 1) (n + 1) (max d deep) (by omega) (by omega)).1
    refine ⟨⟨?_, by omega⟩, go ar (fun _ m => m) _ _ _ (by omega) (by omega) h⟩
    cases hk : kindOk (.mk k i s c nf ns af ar) with
    | true => rfl
    | false => rw [formF, if_pos hk] at e; cases e
theorem wf_chk {t : Tm} (h : chkF t = none) : Wf t := wf_walk t 1 0 0 (by omega) (by omega) h
mutual
def ordF : Tm → Tm → Int
  | .mk k i s c nf ns af ar, .mk k' i' s' c' nf' ns' af' ar' =>
    if k ≠ k' then cmpI k k'
    else if k = 1 then cmpI i i'
    else if k = 2 then cmpS s s'
    else if k = 3 ∨ k = 4 then orI [cmpS s s', cmpI c c', cmpNs ns ns']
    else if k = 5 then orI [cmpI ar.length ar'.length, ordFs ar ar']
    else if k = 7 then ordL ar ar'
    else 0
def ordFs : List Tm → List Tm → Int
  | [], [] => 0
  | [], _ :: _ => -1
  | _ :: _, [] => 1
  | a :: l, b :: m => if ordF a b ≠ 0 then ordF a b else ordFs l m
def ordL : List Tm → List Tm → Int
  | [], _ => 0
  | _ :: _, [] => 0
  | a :: l, b :: m =>
    if l.length = 0 then (if m.length = 0 then ordF a b else cmpI a.kind 7)
    else if m.length = 0 then cmpI 7 b.kind
    else if ordF a b ≠ 0 then ordF a b else ordL l m
end
/-- a slice that holds these terms -/
inductive Sl : AV → List Tm → Prop
  | nil : Sl .nils []
  | fs (b : Bool) (l : List Tm) : Sl (.fs b l.length (tcs l)) l
theorem sl_of (f : Option Bool) (l : List Tm) : Sl (slAV f l.length (tcs l)) l := by
  cases f with
  | none => cases l with
    | nil => exact .nil
    | cons a l => exact .fs false (a :: l)
  | some b => exact .fs b l
theorem Sl.noRef {v : AV} {l : List Tm} (h : Sl v l) : v.noRef = true := by
  cases h with
  | nil => rfl
  | fs b l => exact noRef_tcs l
theorem Sl.eq {v : AV} {l : List Tm} (h : Sl v l) : ∃ f, v = slAV f l.length (tcs l) := by
  cases h with
  | nil => exact ⟨none, rfl⟩
  | fs b l => exact ⟨some b, rfl⟩
theorem Sl.len {v : AV} {l : List Tm} (k : Sl v l) (h : Heap) : aLenOp false h v = some ⟨.int .i64 l.length, h, .none⟩ := by
  cases k with
  | nil => rfl
  | fs b l => rfl
theorem Sl.idx {v : AV} {l : List Tm} (k : Sl v l) {i : Nat} (hi : i < l.length) : aIdxAddr 6 v (.int .i64 i) = some (.fp ((tcs l).drop (i * 6))) := by
  obtain ⟨f, rfl⟩ := k.eq; exact idx_args hi
theorem Sl.tail {v : AV} {a : Tm} {l : List Tm} (k : Sl v (a :: l)) : ∃ v', aSlice 6 v (some (.int .i64 1)) none none = some v' ∧ Sl v' l := by
  cases k with
  | fs b l =>
    refine ⟨.fs b l.length (tcs l), ?_, .fs b l⟩
    have e1 : (tcs (a :: l)).length = (a :: l).length * 6 := tcs_length _
    have e2 : bounds (a :: l).length (a :: l).length (some (.int .i64 ((1 : Nat) : Int))) none none = some (1, (a :: l).length, (a :: l).length) := bounds_from (by simp)
    have e3 : ((tcs (a :: l)).drop (1 * 6)).take (((a :: l).length - 1) * 6) = tcs l := by
      rw [tcs, Nat.one_mul, List.drop_append, List.drop_of_length_le (by rw [tc_length]; exact Nat.le_refl _), tc_length, List.nil_append, Nat.sub_self, List.drop_zero]
      exact List.take_of_length_le (by rw [tcs_length]; simp)
    have e2' : bounds (a :: l).length (a :: l).length (some (.int .i64 1)) none none = some (1, (a :: l).length, (a :: l).length) := e2
    simp only [aSlice, e1, if_true, e2', Option.map_some, e3, beq_self_eq_true, Bool.and_true]
    rfl
end Go.Bf

set_option linter.unusedVariables false
set_option linter.unusedSimpArgs false
set_option maxRecDepth 20000
namespace Go.Bf
open Go.AM
theorem len3 (x y z : AV) : ([x, y, z] : List AV).length = 3 := rfl
end Go.Bf

set_option linter.unusedVariables false
set_option linter.unusedSimpArgs false
set_option maxRecDepth 20000
namespace Go.Bf
open Go.AM
/-- is it a term? -/
def isT (t : Tm) : Bool := match chkF t with | none => true | some _ => false
theorem eq_walk (x : WFlt) : aEq (.iface true) (walkAV x) .nili = some (match x with | none => true | some _ => false) := by
  rcases x with _ | ⟨a, c, u⟩ <;> rfl
theorem isT_wf {t : Tm} (h : isT t = true) : Wf t := by
  unfold isT at h
  split at h
  · rename_i e; exact wf_chk e
  · cases h
theorem eq_chk (t : Tm) : aEq (.iface true) (walkAV (chkF t)) .nili = some (isT t) := eq_walk _
mutual
def sameF : Tm → Tm → Bool
  | .mk k i s c nf ns af ar, .mk k' i' s' c' nf' ns' af' ar' => k == k' && i == i' && s == s' && c == c' && ns.length == ns'.length && ar.length == ar'.length && ns == ns' && sameFs ar ar'
def sameFs : List Tm → List Tm → Bool
  | [], [] => true
  | [], _ :: _ => false
  | _ :: _, [] => false
  | a :: l, b :: m => sameF a b && sameFs l m
end
def SameOk (a : Tm) : Prop := ∀ b, b.Ok → ∀ h, WC env 19 [.agg (tc a), .agg (tc b)] h (fun o => o = .ret ⟨.bool (sameF a b), h, .none⟩)
section
variable {h : Heap} {i2 i3 : Nat} {x0 x1 x2 x3 y0 y1 y2 y3 : AV} {nf nf' : Option Bool} {ns ns' : List Int} {av av2 : AV}
  (l4 : aLoad h false 1 (.ptr i2 0 4) = some ⟨slAV nf ns.length (u32s ns), h, .read⟩) (l4' : aLoad h false 1 (.ptr i3 0 4) = some ⟨slAV nf' ns'.length (u32s ns'), h, .read⟩)
include l4 l4'
theorem same_nums (hlen : ns.length = ns'.length) (hb : ns.length < 9223372036854775808) {Q : AExit → St → Prop} :
    ∀ (f i : Nat) (σ : Slots), ns.length - i < f → i ≤ ns.length → σ.get 2 = .ptr i2 0 0 → σ.get 3 = .ptr i3 0 0 → σ.get 5 = .int .i64 i →
    (∀ σ', (σ'.get 4 = .bool false → ns.drop i ≠ ns'.drop i → Q .ret ⟨σ', h⟩) ∧ (σ'.get 2 = .ptr i2 0 0 → σ'.get 3 = .ptr i3 0 0 → ns.drop i = ns'.drop i → Q (.exit 0) ⟨σ', h⟩)) →
    WPr env a19_l8 ⟨σ, h⟩ Q := by
  intro f
  induction f with
  | zero => intro i σ h1; omega
  | succ f ih =>
    intro i σ hf hi g2 g3 g5 hQ
    refine wpr_round' fun b hb => ?_
    have nl : ∀ h, aLenOp false h (slAV nf ns.length (u32s ns)) = some ⟨.int .i64 ns.length, h, .none⟩ := fun h => len_sl _ _ _ (fun _ => trivial) h
    by_cases c1 : i < ns.length
    · have c2 : i < ns'.length := by omega
      have z0 : ((i : Int) < (ns.length : Int)) = True := eq_true (by omega)
      have zi : IntKind.wrap .i64 ((i : Int) + 1) = ((i + 1 : Nat) : Int) := wrap_nat (by omega) (by omega)
      have lx := idx_nums (f := nf) c1
      have ld := ld_nums c1 h
      have lx2 := idx_nums (f := nf') c2
      have ld2 := ld_nums c2 h
      have hd1 : ns.drop i = ns[i] :: ns.drop (i + 1) := List.drop_eq_getElem_cons c1
      have hd2 : ns'.drop i = ns'[i] :: ns'.drop (i + 1) := List.drop_eq_getElem_cons c2
      rw [hd1, hd2] at hQ
      simp only [a19_l8, a19_4, s3, reduceIte, Nat.reduceEqDiff, aBin, aInt, negIf, Option.some.injEq, exists_eq_left', Option.map_some, Option.bind_some, g2, g3, g5, aFieldAddr, Nat.zero_add, l4, l4', nl, z0]
      refine wpc_draw_k ?_
      by_cases c3 : ns[i] = ns'[i]
      · have z3 : (ns[i] != ns'[i]) = false := by simpa using c3
        simp only [s3, reduceIte, Nat.reduceEqDiff, aBin, aInt, negIf, Option.some.injEq, exists_eq_left', Option.map_some, Option.bind_some, k3, a19_5, a19_7, g2, g3, g5, aFieldAddr, Nat.zero_add, l4, l4', lx, ld, lx2, ld2, z3, zi]
        refine ⟨rfl, ?_⟩
        subst hb
        refine ih (i + 1) _ (by omega) (by omega) ?_ ?_ ?_ fun σ' => ⟨fun g e => (hQ σ').1 g (fun e2 => e (by injection e2)), fun e0 e1 e => (hQ σ').2 e0 e1 (by rw [c3, e])⟩
        · simp only [get_put, reduceIte, Nat.reduceEqDiff, g2]
        · simp only [get_put, reduceIte, Nat.reduceEqDiff, g3]
        · simp only [get_put, reduceIte, Nat.reduceEqDiff]
      · have z3 : (ns[i] != ns'[i]) = true := by simpa using c3
        simp only [s3, reduceIte, Nat.reduceEqDiff, aBin, aInt, negIf, Option.some.injEq, exists_eq_left', Option.map_some, Option.bind_some, k3, a19_5, a19_6, g2, g3, g5, aFieldAddr, Nat.zero_add, l4, l4', lx, ld, lx2, ld2, z3, zi]
        refine ⟨rfl, ?_⟩
        exact (hQ _).1 (by simp only [get_put, reduceIte, Nat.reduceEqDiff]) (fun e => c3 (by injection e))
    · have z0 : ((i : Int) < (ns.length : Int)) = False := eq_false (by omega)
      simp only [a19_l8, a19_4, s3, reduceIte, Nat.reduceEqDiff, aBin, aInt, negIf, Option.some.injEq, exists_eq_left', Option.map_some, Option.bind_some, g2, g3, g5, aFieldAddr, Nat.zero_add, l4, l4', nl, z0]
      refine (hQ _).2 (by simp only [get_put, reduceIte, Nat.reduceEqDiff, g2]) (by simp only [get_put, reduceIte, Nat.reduceEqDiff, g3]) ?_
      rw [List.drop_of_length_le (by omega), List.drop_of_length_le (by omega)]
end
section
variable {h : Heap} {i2 i3 : Nat} {af af' : Option Bool} {ar ar' : List Tm}
  (l5 : aLoad h false 1 (.ptr i2 0 5) = some ⟨slAV af ar.length (tcs ar), h, .read⟩) (l5' : aLoad h false 1 (.ptr i3 0 5) = some ⟨slAV af' ar'.length (tcs ar'), h, .read⟩)
include l5 l5'
theorem same_args (hP : ∀ t, t ∈ ar → SameOk t) (okm : Oks ar') (hlen : ar.length = ar'.length) (hb : ar.length < 9223372036854775808) {Q : AExit → St → Prop} :
    ∀ (f i : Nat) (σ : Slots), ar.length - i < f → i ≤ ar.length → σ.get 2 = .ptr i2 0 0 → σ.get 3 = .ptr i3 0 0 → σ.get 6 = .int .i64 i →
    (∀ σ', (σ'.get 4 = .bool false → sameFs (ar.drop i) (ar'.drop i) = false → Q .ret ⟨σ', h⟩) ∧ (sameFs (ar.drop i) (ar'.drop i) = true → Q (.exit 2) ⟨σ', h⟩)) →
    WPr env a19_l14 ⟨σ, h⟩ Q := by
  intro f
  induction f with
  | zero => intro i σ h1; omega
  | succ f ih =>
    intro i σ hf hi g2 g3 g6 hQ
    refine wpr_round' fun b hb => ?_
    have nl : ∀ h, aLenOp false h (slAV af ar.length (tcs ar)) = some ⟨.int .i64 ar.length, h, .none⟩ := fun h => len_sl _ _ _ (fun _ => trivial) h
    by_cases c1 : i < ar.length
    · have c2 : i < ar'.length := by omega
      have z0 : ((i : Int) < (ar.length : Int)) = True := eq_true (by omega)
      have zi : IntKind.wrap .i64 ((i : Int) + 1) = ((i + 1 : Nat) : Int) := wrap_nat (by omega) (by omega)
      have lx := idx_args (f := af) c1
      have ld := ld_args c1 h
      have lx2 := idx_args (f := af') c2
      have ld2 := ld_args c2 h
      have hd1 : ar.drop i = ar[i] :: ar.drop (i + 1) := List.drop_eq_getElem_cons c1
      have hd2 : ar'.drop i = ar'[i] :: ar'.drop (i + 1) := List.drop_eq_getElem_cons c2
      have wo := hP ar[i] (List.getElem_mem c1) ar'[i] (okm.get (List.getElem_mem c2))
      rw [hd1, hd2, sameFs] at hQ
      simp only [a19_l14, a19_10, s3, reduceIte, Nat.reduceEqDiff, aBin, aInt, negIf, Option.some.injEq, exists_eq_left', Option.map_some, Option.bind_some, g2, g3, g6, aFieldAddr, Nat.zero_add, l5, l5', nl, z0]
      refine wpc_draw_k ?_
      cases z3 : sameF ar[i] ar'[i] with
      | true =>
        rw [z3, Bool.true_and] at hQ
        rw [z3] at wo
        simp only [s3, reduceIte, Nat.reduceEqDiff, aBin, aInt, negIf, Option.some.injEq, exists_eq_left', Option.map_some, Option.bind_some, k3, a19_11, a19_13, g2, g3, g6, aFieldAddr, Nat.zero_add, l5, l5', lx, ld, lx2, ld2, wc_eq (wo _), aUn, Bool.not_true, zi]
        refine ⟨rfl, ?_⟩
        subst hb
        refine ih (i + 1) _ (by omega) (by omega) ?_ ?_ ?_ hQ
        · simp only [get_put, reduceIte, Nat.reduceEqDiff, g2]
        · simp only [get_put, reduceIte, Nat.reduceEqDiff, g3]
        · simp only [get_put, reduceIte, Nat.reduceEqDiff]
      | false =>
        rw [z3, Bool.false_and] at hQ
        rw [z3] at wo
        simp only [s3, reduceIte, Nat.reduceEqDiff, aBin, aInt, negIf, Option.some.injEq, exists_eq_left', Option.map_some, Option.bind_some, k3, a19_11, a19_12, g2, g3, g6, aFieldAddr, Nat.zero_add, l5, l5', lx, ld, lx2, ld2, wc_eq (wo _), aUn, Bool.not_false, zi]
        refine ⟨rfl, ?_⟩
        exact (hQ _).1 (by simp only [get_put, reduceIte, Nat.reduceEqDiff]) rfl
    · have z0 : ((i : Int) < (ar.length : Int)) = False := eq_false (by omega)
      simp only [a19_l14, a19_10, s3, reduceIte, Nat.reduceEqDiff, aBin, aInt, negIf, Option.some.injEq, exists_eq_left', Option.map_some, Option.bind_some, g2, g3, g6, aFieldAddr, Nat.zero_add, l5, l5', nl, z0]
      refine (hQ _).2 ?_
      rw [List.drop_of_length_le (by omega), List.drop_of_length_le (by omega), sameFs]
end
end Go.Bf

set_option linter.unusedVariables false
set_option linter.unusedSimpArgs false
set_option maxRecDepth 20000
namespace Go.Bf
open Go.AM
theorem same_spec : ∀ a : Tm, a.Ok → SameOk a := by
  refine tm_ind fun k i s c nf ns af ar ih ok b okb h => ?_
  rcases b with ⟨k', i', s', c', nf', ns', af', ar'⟩
  obtain ⟨_, sn, sa, sr⟩ := ok.lens
  obtain ⟨_, sn', sa', sr'⟩ := okb.lens
  have hP : ∀ t, t ∈ ar → SameOk t := fun t m => ih t m (sr.get m)
  obtain ⟨a, eta⟩ : ∃ a : Tm, a = .mk k i s c nf ns af ar := ⟨_, rfl⟩
  obtain ⟨b, etb⟩ : ∃ b : Tm, b = .mk k' i' s' c' nf' ns' af' ar' := ⟨_, rfl⟩
  have es : sameF a b = (k == k' && i == i' && s == s' && c == c' && ns.length == ns'.length && ar.length == ar'.length && ns == ns' && sameFs ar ar') := by rw [eta, etb, sameF]
  rw [← eta, ← etb]
  refine call_pure rfl rfl rfl (by simp only [AV.noRefs, AV.noRef, noRef_tc, Bool.and_self]) ?_
  obtain ⟨ca, ea⟩ : ∃ ca, ca = tc a := ⟨_, rfl⟩
  obtain ⟨cb, eb⟩ : ∃ cb, cb = tc b := ⟨_, rfl⟩
  rw [← ea, ← eb]
  have ea' : ca = [.int .i64 k, .int .i64 i, .str s, .int .u32 c, slAV nf ns.length (u32s ns), slAV af ar.length (tcs ar)] := by rw [ea, eta]; rfl
  have eb' : cb = [.int .i64 k', .int .i64 i', .str s', .int .u32 c', slAV nf' ns'.length (u32s ns'), slAV af' ar'.length (tcs ar')] := by rw [eb, etb]; rfl
  obtain ⟨i2, ei2⟩ : ∃ i2, i2 = Heap.empty.next := ⟨_, rfl⟩
  obtain ⟨h1, eh1⟩ : ∃ h1, h1 = Heap.empty.new ca := ⟨_, rfl⟩
  have ho1 : HeapOk h1 := by rw [eh1]; exact HeapOk.empty.new _
  have a1' : h1.at_ i2 0 = some ca := by rw [eh1, ei2]; exact at_new _
  obtain ⟨i3, ei3⟩ : ∃ i3, i3 = h1.next := ⟨_, rfl⟩
  obtain ⟨h2, eh2⟩ : ∃ h2, h2 = h1.new cb := ⟨_, rfl⟩
  have a2' : h2.at_ i2 0 = some ca := by rw [eh2]; exact (le_new ho1 _).2 _ _ _ a1'
  have b2' : h2.at_ i3 0 = some cb := by rw [eh2, ei3]; exact at_new _
  have y1 : (AV.agg ca).row = some ca := rfl
  have y2 : ca.length = 6 := by rw [ea']; rfl
  have y3 : (AV.agg cb).row = some cb := rfl
  have y4 : cb.length = 6 := by rw [eb']; rfl
  rw [ea'] at a2'
  rw [eb'] at b2'
  have p0 := ld60 a2'
  have p1 := ld61 a2'
  have p2 := ld62 a2'
  have p3 := ld63 a2'
  have p4 := ld64 a2'
  have p5 := ld65 a2'
  have q0 := ld60 b2'
  have q1 := ld61 b2'
  have q2 := ld62 b2'
  have q3 := ld63 b2'
  have q4 := ld64 b2'
  have q5 := ld65 b2'
  have n1 : ∀ h, aLenOp false h (slAV nf ns.length (u32s ns)) = some ⟨.int .i64 ns.length, h, .none⟩ := fun h => len_sl _ _ _ (fun _ => trivial) h
  have n2 : ∀ h, aLenOp false h (slAV nf' ns'.length (u32s ns')) = some ⟨.int .i64 ns'.length, h, .none⟩ := fun h => len_sl _ _ _ (fun _ => trivial) h
  have n3 : ∀ h, aLenOp false h (slAV af ar.length (tcs ar)) = some ⟨.int .i64 ar.length, h, .none⟩ := fun h => len_sl _ _ _ (fun _ => trivial) h
  have n4 : ∀ h, aLenOp false h (slAV af' ar'.length (tcs ar')) = some ⟨.int .i64 ar'.length, h, .none⟩ := fun h => len_sl _ _ _ (fun _ => trivial) h
  by_cases c0 : k = k'
  case neg =>
    have z0 : (k != k') = true := by simp; omega
    have er : sameF a b = false := by rw [es]; simp [c0]
    simp only [a19, a19_0, a19_1, a19_2, Slots.ofList, s3, reduceIte, Nat.reduceEqDiff, aBin, aInt, negIf, Option.some.injEq, exists_eq_left', Option.map_some, Option.bind_some, y1, y2, y3, y4, ← eh1, ← eh2, ← ei2, ← ei3, aFieldAddr, Nat.zero_add, aPick, aStr, p0, p1, p2, p3, p4, p5, q0, q1, q2, q3, q4, q5, n1, n2, n3, n4, z0]
    exact finB (by simp only [get_put, reduceIte, Nat.reduceEqDiff]; rw [er]) rfl
  have z0 : (k != k') = false := by simp; omega
  by_cases c1 : i = i'
  case neg =>
    have z1 : (i != i') = true := by simp; omega
    have er : sameF a b = false := by rw [es]; simp [c1]
    simp only [a19, a19_0, a19_1, a19_2, Slots.ofList, s3, reduceIte, Nat.reduceEqDiff, aBin, aInt, negIf, Option.some.injEq, exists_eq_left', Option.map_some, Option.bind_some, y1, y2, y3, y4, ← eh1, ← eh2, ← ei2, ← ei3, aFieldAddr, Nat.zero_add, aPick, aStr, p0, p1, p2, p3, p4, p5, q0, q1, q2, q3, q4, q5, n1, n2, n3, n4, z0, z1]
    exact finB (by simp only [get_put, reduceIte, Nat.reduceEqDiff]; rw [er]) rfl
  have z1 : (i != i') = false := by simp; omega
  by_cases c2 : s = s'
  case neg =>
    have z2 : (!(s == s')) = true := by simpa using c2
    have er : sameF a b = false := by rw [es]; simp [c2]
    simp only [a19, a19_0, a19_1, a19_2, Slots.ofList, s3, reduceIte, Nat.reduceEqDiff, aBin, aInt, negIf, Option.some.injEq, exists_eq_left', Option.map_some, Option.bind_some, y1, y2, y3, y4, ← eh1, ← eh2, ← ei2, ← ei3, aFieldAddr, Nat.zero_add, aPick, aStr, p0, p1, p2, p3, p4, p5, q0, q1, q2, q3, q4, q5, n1, n2, n3, n4, z0, z1, z2]
    exact finB (by simp only [get_put, reduceIte, Nat.reduceEqDiff]; rw [er]) rfl
  have z2 : (!(s == s')) = false := by simpa using c2
  by_cases c3 : c = c'
  case neg =>
    have z3 : (c != c') = true := by simp; omega
    have er : sameF a b = false := by rw [es]; simp [c3]
    simp only [a19, a19_0, a19_1, a19_2, Slots.ofList, s3, reduceIte, Nat.reduceEqDiff, aBin, aInt, negIf, Option.some.injEq, exists_eq_left', Option.map_some, Option.bind_some, y1, y2, y3, y4, ← eh1, ← eh2, ← ei2, ← ei3, aFieldAddr, Nat.zero_add, aPick, aStr, p0, p1, p2, p3, p4, p5, q0, q1, q2, q3, q4, q5, n1, n2, n3, n4, z0, z1, z2, z3]
    exact finB (by simp only [get_put, reduceIte, Nat.reduceEqDiff]; rw [er]) rfl
  have z3 : (c != c') = false := by simp; omega
  by_cases c4 : ns.length = ns'.length
  case neg =>
    have z4 : ((ns.length : Int) != (ns'.length : Int)) = true := by simp; omega
    have er : sameF a b = false := by rw [es]; simp [c4]
    simp only [a19, a19_0, a19_1, a19_2, Slots.ofList, s3, reduceIte, Nat.reduceEqDiff, aBin, aInt, negIf, Option.some.injEq, exists_eq_left', Option.map_some, Option.bind_some, y1, y2, y3, y4, ← eh1, ← eh2, ← ei2, ← ei3, aFieldAddr, Nat.zero_add, aPick, aStr, p0, p1, p2, p3, p4, p5, q0, q1, q2, q3, q4, q5, n1, n2, n3, n4, z0, z1, z2, z3, z4]
    exact finB (by simp only [get_put, reduceIte, Nat.reduceEqDiff]; rw [er]) rfl
  have z4 : ((ns.length : Int) != (ns'.length : Int)) = false := by simp; omega
  by_cases c5 : ar.length = ar'.length
  case neg =>
    have z5 : ((ar.length : Int) != (ar'.length : Int)) = true := by simp; omega
    have er : sameF a b = false := by rw [es]; simp [c5]
    simp only [a19, a19_0, a19_1, a19_2, Slots.ofList, s3, reduceIte, Nat.reduceEqDiff, aBin, aInt, negIf, Option.some.injEq, exists_eq_left', Option.map_some, Option.bind_some, y1, y2, y3, y4, ← eh1, ← eh2, ← ei2, ← ei3, aFieldAddr, Nat.zero_add, aPick, aStr, p0, p1, p2, p3, p4, p5, q0, q1, q2, q3, q4, q5, n1, n2, n3, n4, z0, z1, z2, z3, z4, z5]
    exact finB (by simp only [get_put, reduceIte, Nat.reduceEqDiff]; rw [er]) rfl
  have z5 : ((ar.length : Int) != (ar'.length : Int)) = false := by simp; omega
  have er : sameF a b = (ns == ns' && sameFs ar ar') := by rw [es]; simp [c0, c1, c2, c3, c4, c5]
  simp only [a19, a19_0, a19_1, a19_3, Slots.ofList, s3, reduceIte, Nat.reduceEqDiff, aBin, aInt, negIf, Option.some.injEq, exists_eq_left', Option.map_some, Option.bind_some, y1, y2, y3, y4, ← eh1, ← eh2, ← ei2, ← ei3, aFieldAddr, Nat.zero_add, aPick, aStr, p0, p1, p2, p3, p4, p5, q0, q1, q2, q3, q4, q5, n1, n2, n3, n4, z0, z1, z2, z3, z4, z5]
  refine same_nums (i2 := i2) (i3 := i3) p4 q4 c4 sn (ns.length + 1) 0 _ (by omega) (by omega) ?_ ?_ ?_ fun σ' => ⟨fun g e => ?_, fun g2 g3 e => ?_⟩
  · simp only [get_put, reduceIte, Nat.reduceEqDiff]
  · simp only [get_put, reduceIte, Nat.reduceEqDiff]
  · simp only [get_put, reduceIte, Nat.reduceEqDiff]; rfl
  · have e : (ns == ns') = false := by simpa using e
    simp only [s3, reduceIte, Nat.reduceEqDiff, aBin, aInt, negIf, Option.some.injEq, exists_eq_left', Option.map_some, Option.bind_some]
    exact finB g (by rw [er, e]; rfl)
  have e : (ns == ns') = true := by simpa using e
  rw [e, Bool.true_and] at er
  simp only [a19_9, s3, reduceIte, Nat.reduceEqDiff, aBin, aInt, negIf, Option.some.injEq, exists_eq_left', Option.map_some, Option.bind_some]
  refine same_args (i2 := i2) (i3 := i3) p5 q5 hP sr' c5 sa (ar.length + 1) 0 _ (by omega) (by omega) ?_ ?_ ?_ fun σ' => ⟨fun g e => ?_, fun e => ?_⟩
  · simp only [get_put, reduceIte, Nat.reduceEqDiff, g2]
  · simp only [get_put, reduceIte, Nat.reduceEqDiff, g3]
  · simp only [get_put, reduceIte, Nat.reduceEqDiff]; rfl
  · simp only [s3, reduceIte, Nat.reduceEqDiff, aBin, aInt, negIf, Option.some.injEq, exists_eq_left', Option.map_some, Option.bind_some]
    exact finB g (by rw [er]; rw [List.drop_zero, List.drop_zero] at e; rw [e])
  · rw [List.drop_zero, List.drop_zero] at e
    simp only [a19_15, s3, reduceIte, Nat.reduceEqDiff, aBin, aInt, negIf, Option.some.injEq, exists_eq_left', Option.map_some, Option.bind_some]
    exact finB (by simp only [get_put, reduceIte, Nat.reduceEqDiff]; rw [er, e]) rfl
end Go.Bf
