/-
  The reference's Check finds the same fault.
-/
import Derived.Test.YtaielgjmhbjfhaaGreatDoorBfRQuote
import Derived.Test.YtaielgjmhbjfhaaGreatDoorAmD
set_option linter.unusedVariables false
set_option linter.unusedSimpArgs false
set_option maxRecDepth 20000
namespace Go.Bf
open Go.AM
def nodeStep (p : Bool × Int) (i : Nat) (c : UInt8) : Bool × Int :=
  if c.toNat = 64 then (p.1 && decide (p.2 < 0), (i : Int)) else (p.1 && (inWB c || c.toNat == 45 || (c.toNat == 46 && decide (p.2 ≥ 0))), p.2)
def nodeFold : List UInt8 → Nat → Bool × Int → Bool × Int
  | [], _, p => p
  | c :: l, i, p => nodeFold l (i + 1) (nodeStep p i c)
def rnodeF (s : List UInt8) : Bool :=
  let p := nodeFold s 0 (decide (3 ≤ s.length) && decide (s.length ≤ 64), -1)
  p.1 && !decide (p.2 < 1) && !(p.2 == (s.length : Int) - 1)
theorem rnode_loop {s : List UInt8} (hs : s.length < 9223372036854775808) {h : Heap} {Q : AExit → St → Prop} : ∀ (f i : Nat) (σ : Slots) (g : Bool) (a : Int), s.length - i < f → i ≤ s.length → σ.get 0 = .str s → σ.get 5 = .int .i64 a → σ.get 6 = .bool g → σ.get 7 = .int .i64 i →
    (∀ σ', σ'.get 0 = .str s → σ'.get 6 = .bool (nodeFold (s.drop i) i (g, a)).1 → σ'.get 5 = .int .i64 (nodeFold (s.drop i) i (g, a)).2 → Q (.exit 0) ⟨σ', h⟩) → WPr env a52_l11 ⟨σ, h⟩ Q := by
  intro f
  induction f with
  | zero => intro i σ g a h1; omega
  | succ f ih =>
    intro i σ g a hf hi g0 g5 g6 g7 hQ
    refine wpr_round' fun b hb => ?_
    have nl : ∀ h, aLenOp true h (.str s) = some ⟨.int .i64 s.length, h, .none⟩ := fun h => rfl
    by_cases c1 : i < s.length
    · have z0 : ((i : Int) < (s.length : Int)) = True := eq_true (by omega)
      have zi : IntKind.wrap .i64 ((i : Int) + 1) = ((i + 1 : Nat) : Int) := wrap_nat (by omega) (by omega)
      have ix := idxS_at c1
      have hd : s.drop i = s[i] :: s.drop (i + 1) := List.drop_eq_getElem_cons c1
      obtain ⟨cb, hcb⟩ : ∃ cb, cb = s[i] := ⟨_, rfl⟩
      rw [hd, nodeFold, ← hcb] at hQ
      rw [← hcb] at ix
      have wi := inW_spec cb
      obtain ⟨c, hc⟩ : ∃ c, c = cb.toNat := ⟨_, rfl⟩
      rw [← hc] at ix wi
      have go : ∀ (σ2 : Slots) (p : Bool × Int), p = nodeStep (g, a) i cb → σ2.get 0 = .str s → σ2.get 6 = .bool p.1 → σ2.get 5 = .int .i64 p.2 → σ2.get 7 = .int .i64 i → wpo env a52_10 ⟨σ2, h⟩ (roundQ env b Q) := by
        intro σ2 p ep p0 p6 p5 p7
        rw [← ep] at hQ
        simp only [a52_10, wpc_draw, s3, reduceIte, Nat.reduceEqDiff, aBin, aInt, negIf, Option.some.injEq, exists_eq_left', Option.map_some, Option.bind_some, p7, zi]
        subst hb
        refine ih (i + 1) _ p.1 p.2 (by omega) (by omega) ?_ ?_ ?_ ?_ hQ
        · simp only [get_put, reduceIte, Nat.reduceEqDiff, p0]
        · simp only [get_put, reduceIte, Nat.reduceEqDiff, p5]
        · simp only [get_put, reduceIte, Nat.reduceEqDiff, p6]
        · simp only [get_put, reduceIte, Nat.reduceEqDiff]
      have el : a52_l11 = (.seq (.seq (.ops a52_4) (.cond (.t 20) .skip (.exit 0))) (.seq (.block 1 (.seq (.ops a52_5) (.seq (.seq (.ops a52_6) (.cond (.t 27) (.seq (.ops a52_7) (.seq (.ops a52_8) (.exit 1))) .skip)) (.ops a52_9)))) (.ops a52_10))) := rfl
      rw [el, wpc_seq]
      by_cases c64 : c = 64
      · have z1 : ((c : Int) == 64) = true := by simp [c64]
        have ep : nodeStep (g, a) i cb = (g && decide (a < 0), (i : Int)) := by rw [nodeStep, if_pos (by omega)]
        cases g with
        | false =>
          simp only [a52_4, a52_5, a52_6, a52_7, a52_8, wpo_u, wpc_draw, s3, reduceIte, Nat.reduceEqDiff, aBin, aInt, negIf, Option.some.injEq, exists_eq_left', Option.map_some, Option.bind_some, wp1_idxStr, op_idxStr, aPick, g0, g6, g7, nl, z0, ix, z1]
          refine go _ _ ep.symm ?_ ?_ ?_ ?_ <;> simp only [get_put, reduceIte, Nat.reduceEqDiff, g0, g7, Bool.false_and]
        | true =>
          by_cases ca : a < 0
          · have z2 : (a < 0) = True := eq_true ca
            simp only [a52_4, a52_5, a52_6, a52_7, a52_8, wpo_u, wpc_draw, s3, reduceIte, Nat.reduceEqDiff, aBin, aInt, negIf, Option.some.injEq, exists_eq_left', Option.map_some, Option.bind_some, wp1_idxStr, op_idxStr, aPick, g0, g5, g6, g7, nl, z0, ix, z1, z2]
            refine go _ _ ep.symm ?_ ?_ ?_ ?_ <;> simp only [get_put, reduceIte, Nat.reduceEqDiff, g0, g7, Bool.true_and, decide_eq_true ca]
          · have z2 : (a < 0) = False := eq_false ca
            simp only [a52_4, a52_5, a52_6, a52_7, a52_8, wpo_u, wpc_draw, s3, reduceIte, Nat.reduceEqDiff, aBin, aInt, negIf, Option.some.injEq, exists_eq_left', Option.map_some, Option.bind_some, wp1_idxStr, op_idxStr, aPick, g0, g5, g6, g7, nl, z0, ix, z1, z2]
            refine go _ _ ep.symm ?_ ?_ ?_ ?_ <;> simp only [get_put, reduceIte, Nat.reduceEqDiff, g0, g7, Bool.true_and, decide_eq_false ca]
      have z1 : ((c : Int) == 64) = false := by simp; omega
      have ep : nodeStep (g, a) i cb = (g && (inWB cb || c == 45 || (c == 46 && decide (a ≥ 0))), a) := by rw [nodeStep, if_neg (by omega), ← hc]
      cases g with
      | false =>
        simp only [a52_4, a52_5, a52_6, a52_9, wpo_u, wpc_draw, s3, reduceIte, Nat.reduceEqDiff, aBin, aInt, negIf, Option.some.injEq, exists_eq_left', Option.map_some, Option.bind_some, wp1_idxStr, op_idxStr, aPick, g0, g6, g7, nl, z0, ix, z1]
        refine go _ _ ep.symm ?_ ?_ ?_ ?_ <;> simp only [get_put, reduceIte, Nat.reduceEqDiff, g0, g5, g7, Bool.false_and]
      | true =>
      rw [Bool.true_and] at ep
      cases k1 : inWB cb with
      | true =>
        rw [k1, Bool.true_or, Bool.true_or] at ep
        rw [k1] at wi
        simp only [a52_4, a52_5, a52_6, a52_9, wpo_u, wpc_draw, s3, reduceIte, Nat.reduceEqDiff, aBin, aInt, negIf, Option.some.injEq, exists_eq_left', Option.map_some, Option.bind_some, wp1_idxStr, op_idxStr, aPick, g0, g6, g7, nl, z0, ix, z1, wc_eq (wi _)]
        refine go _ _ ep.symm ?_ ?_ ?_ ?_ <;> simp only [get_put, reduceIte, Nat.reduceEqDiff, g0, g5, g7]
      | false =>
      rw [k1, Bool.false_or] at ep
      rw [k1] at wi
      by_cases c45 : c = 45
      · have z2 : ((c : Int) == 45) = true := by simp [c45]
        have e2 : (c == 45) = true := by simp [c45]
        rw [e2, Bool.true_or] at ep
        simp only [a52_4, a52_5, a52_6, a52_9, wpo_u, wpc_draw, s3, reduceIte, Nat.reduceEqDiff, aBin, aInt, negIf, Option.some.injEq, exists_eq_left', Option.map_some, Option.bind_some, wp1_idxStr, op_idxStr, aPick, g0, g6, g7, nl, z0, ix, z1, z2, wc_eq (wi _)]
        refine go _ _ ep.symm ?_ ?_ ?_ ?_ <;> simp only [get_put, reduceIte, Nat.reduceEqDiff, g0, g5, g7]
      have z2 : ((c : Int) == 45) = false := by simp; omega
      have e2 : (c == 45) = false := by simp [c45]
      rw [e2, Bool.false_or] at ep
      by_cases c46 : c = 46
      case neg =>
        have z3 : ((c : Int) == 46) = false := by simp; omega
        have e3 : (c == 46) = false := by simp [c46]
        rw [e3, Bool.false_and] at ep
        simp only [a52_4, a52_5, a52_6, a52_9, wpo_u, wpc_draw, s3, reduceIte, Nat.reduceEqDiff, aBin, aInt, negIf, Option.some.injEq, exists_eq_left', Option.map_some, Option.bind_some, wp1_idxStr, op_idxStr, aPick, g0, g6, g7, nl, z0, ix, z1, z2, z3, wc_eq (wi _)]
        refine go _ _ ep.symm ?_ ?_ ?_ ?_ <;> simp only [get_put, reduceIte, Nat.reduceEqDiff, g0, g5, g7]
      have z3 : ((c : Int) == 46) = true := by simp [c46]
      have e3 : (c == 46) = true := by simp [c46]
      rw [e3, Bool.true_and] at ep
      by_cases ca : a ≥ 0
      · have z4 : (a ≥ 0) = True := eq_true ca
        rw [decide_eq_true ca] at ep
        simp only [a52_4, a52_5, a52_6, a52_9, wpo_u, wpc_draw, s3, reduceIte, Nat.reduceEqDiff, aBin, aInt, negIf, Option.some.injEq, exists_eq_left', Option.map_some, Option.bind_some, wp1_idxStr, op_idxStr, aPick, g0, g5, g6, g7, nl, z0, ix, z1, z2, z3, z4, wc_eq (wi _)]
        refine go _ _ ep.symm ?_ ?_ ?_ ?_ <;> simp only [get_put, reduceIte, Nat.reduceEqDiff, g0, g5, g7]
      · have z4 : (a ≥ 0) = False := eq_false ca
        rw [decide_eq_false ca] at ep
        simp only [a52_4, a52_5, a52_6, a52_9, wpo_u, wpc_draw, s3, reduceIte, Nat.reduceEqDiff, aBin, aInt, negIf, Option.some.injEq, exists_eq_left', Option.map_some, Option.bind_some, wp1_idxStr, op_idxStr, aPick, g0, g5, g6, g7, nl, z0, ix, z1, z2, z3, z4, wc_eq (wi _)]
        refine go _ _ ep.symm ?_ ?_ ?_ ?_ <;> simp only [get_put, reduceIte, Nat.reduceEqDiff, g0, g5, g7]
    · have z0 : ((i : Int) < (s.length : Int)) = False := eq_false (by omega)
      rw [List.drop_of_length_le (show s.length ≤ i by omega), nodeFold] at hQ
      simp only [a52_l11, a52_4, wpc_draw, s3, reduceIte, Nat.reduceEqDiff, aBin, aInt, negIf, Option.some.injEq, exists_eq_left', Option.map_some, Option.bind_some, g0, g7, nl, z0]
      refine hQ _ ?_ ?_ ?_ <;> simp only [get_put, reduceIte, Nat.reduceEqDiff, g0, g5, g6]
theorem fold_at : ∀ (l : List UInt8) (i : Nat) (g : Bool) (a : Int), a < (i : Int) → -1 ≤ a → -1 ≤ (nodeFold l i (g, a)).2 ∧ (nodeFold l i (g, a)).2 < (i : Int) + l.length
  | [], i, g, a, h, h' => ⟨h', by simp [nodeFold]; omega⟩
  | c :: l, i, g, a, h, h' => by
    rw [nodeFold, nodeStep]
    split
    · have := fold_at l (i + 1) (g && decide (a < 0)) i (by omega) (by omega)
      simp only [List.length_cons] at *
      omega
    · have := fold_at l (i + 1) (g && (inWB c || c.toNat == 45 || (c.toNat == 46 && decide (a ≥ 0)))) a (by omega) (by omega)
      simp only [List.length_cons] at *
      omega
theorem fold_false : ∀ (l : List UInt8) (i : Nat) (a : Int), (nodeFold l i (false, a)).1 = false
  | [], _, _ => rfl
  | c :: l, i, a => by
    rw [nodeFold, nodeStep]
    split <;> simp only [Bool.false_and] <;> exact fold_false l _ _
theorem fold_64 : ∀ (l : List UInt8) (i : Nat) (g : Bool) (a : Int), 0 ≤ a → (∃ c, c ∈ l ∧ c.toNat = 64) → (nodeFold l i (g, a)).1 = false
  | [], _, _, _, _, h => by obtain ⟨c, h, _⟩ := h; simp at h
  | c :: l, i, g, a, ha, h => by
    rw [nodeFold, nodeStep]
    split
    · rw [decide_eq_false (by omega), Bool.and_false]
      exact fold_false l _ _
    · rename_i hc
      refine fold_64 l _ _ _ ha ?_
      obtain ⟨x, hx, e⟩ := h
      rcases List.mem_cons.1 hx with rfl | hx
      · exact absurd e hc
      · exact ⟨x, hx, e⟩
theorem fold_no : ∀ (l : List UInt8) (i : Nat) (g : Bool) (a : Int), (∀ c, c ∈ l → c.toNat ≠ 64) → nodeFold l i (g, a) = (g && l.all (fun c => inWB c || c.toNat == 45 || (c.toNat == 46 && decide (a ≥ 0))), a)
  | [], _, g, _, _ => by simp [nodeFold]
  | c :: l, i, g, a, h => by
    rw [nodeFold, nodeStep, if_neg (h c (by simp)), fold_no l _ _ _ (fun x hx => h x (by simp [hx])), List.all_cons, Bool.and_assoc]
theorem fold_append : ∀ (l m : List UInt8) (i : Nat) (p : Bool × Int), nodeFold (l ++ m) i p = nodeFold m (i + l.length) (nodeFold l i p)
  | [], m, i, p => rfl
  | c :: l, m, i, p => by
    rw [List.cons_append, nodeFold, fold_append l m, nodeFold, List.length_cons]
    congr 1
    omega
theorem index_split : ∀ (s : List UInt8), (Lib.indexByte s 64 = -1 ∧ ∀ c, c ∈ s → c.toNat ≠ 64) ∨ (0 ≤ Lib.indexByte s 64 ∧ s = s.take (Lib.indexByte s 64).toNat ++ 64 :: s.drop ((Lib.indexByte s 64).toNat + 1) ∧ (∀ c, c ∈ s.take (Lib.indexByte s 64).toNat → c.toNat ≠ 64))
  | [] => .inl ⟨rfl, fun c h => by simp at h⟩
  | b :: l => by
    have e64 : ∀ c : UInt8, c.toNat = 64 → c = 64 := fun c h => UInt8.toNat_inj.1 (by rw [h]; rfl)
    rw [Lib.indexByte]
    by_cases h : b = 64
    · subst h
      right
      simp
    · have hb : (b == 64) = false := by simpa using h
      simp only [hb, Bool.false_eq_true, if_false]
      rcases index_split l with ⟨h1, h2⟩ | ⟨h1, h2, h3⟩
      · left
        rw [h1]
        refine ⟨rfl, fun c hc => ?_⟩
        rcases List.mem_cons.1 hc with rfl | hc
        · exact fun e => h (e64 _ e)
        · exact h2 c hc
      · right
        have : (Lib.indexByte l 64 == -1) = false := by simp; omega
        simp only [this, Bool.false_eq_true, if_false]
        have e : (Lib.indexByte l 64 + 1).toNat = (Lib.indexByte l 64).toNat + 1 := by omega
        rw [e]
        refine ⟨by omega, ?_, fun c hc => ?_⟩
        · rw [List.take_succ_cons, List.cons_append, List.drop_succ_cons, ← h2]
        · rw [List.take_succ_cons] at hc
          rcases List.mem_cons.1 hc with rfl | hc
          · exact fun e => h (e64 _ e)
          · exact h3 c hc
theorem okName_eq (c : UInt8) : okName c = (inWB c || c.toNat == 45 || (c.toNat == 46 && decide ((-1 : Int) ≥ 0))) := by
  have e : ((c.toNat : Int) == 45) = (c.toNat == 45) := by
    cases h : (c.toNat == 45) with
    | true => have := eq_of_beq h; simp [this]
    | false => simp at h; simp; omega
  rw [okName, inWB, e]
  simp
theorem okHost_eq (c : UInt8) (a : Int) (ha : 0 ≤ a) : okHost c = (inWB c || c.toNat == 45 || (c.toNat == 46 && decide (a ≥ 0))) := by
  have e : ∀ n : Nat, ((c.toNat : Int) == (n : Int)) = (c.toNat == n) := fun n => by
    cases h : (c.toNat == n) with
    | true => have := eq_of_beq h; simp [this]
    | false => simp at h; simp; omega
  have e1 := e 45
  have e2 := e 46
  rw [okHost, inWB, decide_eq_true ha, Bool.and_true]
  show (_ || ((c.toNat : Int) == ((45 : Nat) : Int)) || ((c.toNat : Int) == ((46 : Nat) : Int))) = _
  rw [e1, e2]
theorem node_law (s : List UInt8) : rnodeF s = nodeF s := by
  rcases index_split s with ⟨h1, h2⟩ | ⟨h1, h2, h3⟩
  · have hf : has64 s = false := by rw [has64, h1]; rfl
    rw [rnodeF, fold_no _ _ _ _ h2, nodeF, hf]
    simp
  · have hf : has64 s = true := by rw [has64]; simpa using h1
    obtain ⟨n, hn⟩ : ∃ n, n = name64 s := ⟨_, rfl⟩
    obtain ⟨o, hoo⟩ : ∃ o, o = host64 s := ⟨_, rfl⟩
    have en : n = s.take (Lib.indexByte s 64).toNat := by rw [hn, name64, if_pos hf]
    have eo : o = s.drop ((Lib.indexByte s 64).toNat + 1) := by rw [hoo, host64, if_pos hf]
    rw [← en, ← eo] at h2
    rw [← en] at h3
    have hl : s.length = n.length + 1 + o.length := by rw [h2]; simp; omega
    rw [nodeF, hf, ← hn, ← hoo, rnodeF]
    have ef : ∀ g, nodeFold s 0 (g, -1) = nodeFold o (n.length + 1) (g && n.all okName, (n.length : Int)) := by
      intro g
      have ea : n.all (fun c => inWB c || c.toNat == 45 || (c.toNat == 46 && decide ((-1 : Int) ≥ 0))) = n.all okName := by
        congr 1; funext c; exact (okName_eq c).symm
      rw [h2, fold_append, fold_no _ _ _ _ h3, ea, nodeFold, nodeStep, if_pos (by rfl)]
      simp
    rw [ef]
    rcases index_split o with ⟨p1, p2⟩ | ⟨p1, p2, p3⟩
    · have hg : has64 o = false := by rw [has64, p1]; rfl
      have ea : o.all (fun c => inWB c || c.toNat == 45 || (c.toNat == 46 && decide ((n.length : Int) ≥ 0))) = o.all okHost := by
        congr 1; funext c; exact (okHost_eq c _ (by omega)).symm
      rw [fold_no _ _ _ _ p2, hg, ea]
      have q1 : (n == ([] : List UInt8)) = decide ((n.length : Int) < 1) := by
        cases n with
        | nil => rfl
        | cons a l => simp; omega
      have q2 : (o == ([] : List UInt8)) = ((n.length : Int) == (s.length : Int) - 1) := by
        cases o with
        | nil => rw [hl]; simp
        | cons a l =>
          have : ((n.length : Int) == (s.length : Int) - 1) = false := by rw [hl]; simp; omega
          rw [this]; rfl
      rw [q1, q2]
      by_cases b1 : (n.length : Int) < 1
      · simp [b1]
      by_cases b2 : ((n.length : Int) == (s.length : Int) - 1) = true
      · simp [b2]
      have b3 : 3 ≤ s.length := by simp at b2; omega
      have b2' : ((n.length : Int) == (s.length : Int) - 1) = false := by simpa using b2
      rw [decide_eq_false b1, b2', decide_eq_true b3]
      simp only [Bool.true_and, Bool.not_false, Bool.and_true]
    · have hg : has64 o = true := by rw [has64]; simpa using p1
      rw [fold_64 _ _ _ _ (by omega) ⟨64, by rw [p2]; simp, rfl⟩, hg]
      simp
theorem rnode_spec (s : List UInt8) (hs : s.length < 9223372036854775808) (h : Heap) : WC env 52 [.str s] h (fun o => ∃ a b, o = .ret ⟨.tup [.str a, .str b, rerrAV (if nodeF s then none else some (0, 24))], h, .none⟩) := by
  refine call_pure rfl rfl rfl rfl ?_
  have en : ∀ h, aLenOp true h (.str s) = some ⟨.int .i64 s.length, h, .none⟩ := fun h => rfl
  have rest : ∀ (σ : Slots), σ.get 0 = .str s → σ.get 5 = .int .i64 (-1) → σ.get 6 = .bool (decide (3 ≤ s.length) && decide (s.length ≤ 64)) → wpc env (.seq (.seq (.ops a52_3) (.block 0 (.loop a52_l11))) (.seq (.seq (.ops a52_12) (.cond (.t 63) (.seq (.ops a52_13) .ret) .skip)) (.seq (.draw a52_14 a52_14b) .ret))) ⟨σ, .empty⟩ (pureQ env a52.results h (fun o => ∃ a b, o = .ret ⟨.tup [.str a, .str b, rerrAV (if nodeF s then none else some (0, 24))], h, .none⟩)) := by
    intro σ g0 g5 g6
    rw [wpc_seq]
    simp only [a52_3, wpc_draw, s3, reduceIte, Nat.reduceEqDiff, aBin, aInt, negIf, Option.some.injEq, exists_eq_left', Option.map_some, Option.bind_some]
    refine rnode_loop hs (s.length + 1) 0 _ (decide (3 ≤ s.length) && decide (s.length ≤ 64)) (-1) (by omega) (by omega) ?_ ?_ ?_ ?_ fun σ' p0 p6 p5 => ?_
    · simp only [get_put, reduceIte, Nat.reduceEqDiff, g0]
    · simp only [get_put, reduceIte, Nat.reduceEqDiff, g5]
    · simp only [get_put, reduceIte, Nat.reduceEqDiff]; exact g6
    · simp only [get_put, reduceIte, Nat.reduceEqDiff]; rfl
    rw [List.drop_zero] at p6 p5
    have hat := fold_at s 0 (decide (3 ≤ s.length) && decide (s.length ≤ 64)) (-1) (by omega) (by omega)
    obtain ⟨p, ep⟩ : ∃ p, p = nodeFold s 0 (decide (3 ≤ s.length) && decide (s.length ≤ 64), -1) := ⟨_, rfl⟩
    rw [← ep] at p6 p5 hat
    have er : nodeF s = (p.1 && !decide (p.2 < 1) && !(p.2 == (s.length : Int) - 1)) := by rw [← node_law, rnodeF, ← ep]
    have bad : ∀ {σ2 : Slots}, nodeF s = false → wpo env a52_13 ⟨σ2, .empty⟩ (seqQ env .ret (seqQ env (.seq (.draw a52_14 a52_14b) .ret) (pureQ env a52.results h (fun o => ∃ a b, o = .ret ⟨.tup [.str a, .str b, rerrAV (if nodeF s then none else some (0, 24))], h, .none⟩)))) := by
      intro σ2 ef
      simp only [a52_13, wpc_draw, s3, reduceIte, Nat.reduceEqDiff, aBin, aInt, negIf, Option.some.injEq, exists_eq_left', Option.map_some, Option.bind_some, wc_eq (ratomNo_spec _ _ _)]
      exact ⟨[.str [], .str [], rerrAV (some (0, 24))], .tup [.str [], .str [], rerrAV (some (0, 24))], by simp only [a52, Env.results, Option.map_some, get_put, reduceIte, Nat.reduceEqDiff], (frz_noRef (v := .tup [.str [], .str [], rerrAV (some (0, 24))]) rfl).2 rfl, [], [], by rw [ef]; rfl⟩
    cases k1 : p.1 with
    | false =>
      rw [k1] at p6
      simp only [a52_12, wpo_u, s3, reduceIte, Nat.reduceEqDiff, aBin, aInt, negIf, Option.some.injEq, exists_eq_left', Option.map_some, Option.bind_some, p0, p6, aUn, aPick, Bool.not_false]
      exact bad (by rw [er, k1]; rfl)
    | true =>
    rw [k1] at p6
    by_cases k2 : p.2 < 1
    · have z2 : (p.2 < 1) = True := eq_true k2
      simp only [a52_12, wpo_u, s3, reduceIte, Nat.reduceEqDiff, aBin, aInt, negIf, Option.some.injEq, exists_eq_left', Option.map_some, Option.bind_some, p0, p5, p6, aUn, aPick, Bool.not_true, z2]
      exact bad (by rw [er, decide_eq_true k2]; simp)
    have z2 : (p.2 < 1) = False := eq_false k2
    have w1 : IntKind.wrap .i64 ((s.length : Int) - 1) = ((s.length - 1 : Nat) : Int) := wrap_nat (by omega) (by omega)
    have w1' : ((s.length - 1 : Nat) : Int) = (s.length : Int) - 1 := by omega
    cases k33 : (p.2 == (s.length : Int) - 1) with
    | true =>
      have z3 : (p.2 == ((s.length - 1 : Nat) : Int)) = true := by rw [w1']; exact k33
      simp only [a52_12, wpo_u, s3, reduceIte, Nat.reduceEqDiff, aBin, aInt, negIf, Option.some.injEq, exists_eq_left', Option.map_some, Option.bind_some, p0, p5, p6, en, aUn, aPick, Bool.not_true, z2, w1, z3]
      exact bad (by rw [er, k33]; simp)
    | false =>
    have z3 : (p.2 == ((s.length - 1 : Nat) : Int)) = false := by rw [w1']; exact k33
    have ef : nodeF s = true := by rw [er, k1, decide_eq_false k2, k33]; rfl
    obtain ⟨k, hk⟩ : ∃ k : Nat, p.2 = (k : Int) := ⟨p.2.toNat, by omega⟩
    rw [hk] at p5 z2 z3 hat
    have hat2 : (k : Int) < s.length := by simpa using hat.2
    have w2 : IntKind.wrap .i64 ((k : Int) + 1) = ((k + 1 : Nat) : Int) := wrap_nat (by omega) (by omega)
    have t1 := sliceStr_to (s := s) (k := k) (by omega)
    have t2 := sliceStr_from (s := s) (k := k + 1) (by omega)
    simp only [a52_12, wpo_u, s3, reduceIte, Nat.reduceEqDiff, aBin, aInt, negIf, Option.some.injEq, exists_eq_left', Option.map_some, Option.bind_some, p0, p5, p6, en, aUn, aPick, Bool.not_true, z2, w1, z3]
    refine wpc_draw_k ?_
    simp only [s3, reduceIte, Nat.reduceEqDiff, aBin, aInt, negIf, Option.some.injEq, exists_eq_left', Option.map_some, Option.bind_some, k3, a52_14, wp1_sliceStr, op_sliceStr, p0, p5, w2, t1, t2]
    refine ⟨rfl, ?_⟩
    exact ⟨[.str (s.take k), .str (s.drop (k + 1)), .nils], .tup [.str (s.take k), .str (s.drop (k + 1)), .nils], by simp only [a52, Env.results, Option.map_some, get_put, reduceIte, Nat.reduceEqDiff], (frz_noRef (v := .tup [.str (s.take k), .str (s.drop (k + 1)), .nils]) rfl).2 rfl, s.take k, s.drop (k + 1), by rw [ef]; rfl⟩
  have eb : a52.body = (.seq (.ops a52_0) (.seq (.ops a52_1) (.seq (.ops a52_2) (.seq (.seq (.ops a52_3) (.block 0 (.loop a52_l11))) (.seq (.seq (.ops a52_12) (.cond (.t 63) (.seq (.ops a52_13) .ret) .skip)) (.seq (.draw a52_14 a52_14b) .ret)))))) := rfl
  rw [eb, wpc_seq]
  by_cases c1 : 3 ≤ s.length
  case neg =>
    have z1 : ((s.length : Int) ≥ 3) = False := eq_false (by omega)
    simp only [a52_0, a52_1, a52_2, Slots.ofList, wpo_u, s3, reduceIte, Nat.reduceEqDiff, aBin, aInt, negIf, Option.some.injEq, exists_eq_left', Option.map_some, Option.bind_some, en, z1, aPick]
    refine rest _ ?_ ?_ ?_ <;> simp only [get_put, reduceIte, Nat.reduceEqDiff, decide_eq_false c1, Bool.false_and]
  have z1 : ((s.length : Int) ≥ 3) = True := eq_true (by omega)
  by_cases c2 : s.length ≤ 64
  · have z2 : ((s.length : Int) ≤ 64) = True := eq_true (by omega)
    simp only [a52_0, a52_1, a52_2, Slots.ofList, wpo_u, s3, reduceIte, Nat.reduceEqDiff, aBin, aInt, negIf, Option.some.injEq, exists_eq_left', Option.map_some, Option.bind_some, en, z1, z2, aPick]
    refine rest _ ?_ ?_ ?_ <;> simp only [get_put, reduceIte, Nat.reduceEqDiff, decide_eq_true c1, decide_eq_true c2, Bool.true_and]
  · have z2 : ((s.length : Int) ≤ 64) = False := eq_false (by omega)
    simp only [a52_0, a52_1, a52_2, Slots.ofList, wpo_u, s3, reduceIte, Nat.reduceEqDiff, aBin, aInt, negIf, Option.some.injEq, exists_eq_left', Option.map_some, Option.bind_some, en, z1, z2, aPick]
    refine rest _ ?_ ?_ ?_ <;> simp only [get_put, reduceIte, Nat.reduceEqDiff, decide_eq_true c1, decide_eq_false c2, Bool.true_and]
end Go.Bf

set_option linter.unusedVariables false
set_option linter.unusedSimpArgs false
set_option maxRecDepth 20000
namespace Go.Bf
open Go.AM
/-- one body is run in the heap that holds one part -/
theorem fin1 {s : St} {n : Nat} {v : AV} {h : Heap} {Q : COut → Prop} (hg : s.σ.get n = v) (hv : v.noRef = true) (h1 : v.one = true) (hq : Q (.ret ⟨v, h, .none⟩)) : pureQ env [.tmp n] h Q .ret s := by
  refine ⟨[v], v, by simp only [Env.results, Option.map_some, hg], ?_, hq⟩
  exact (frz_noRef (v := v) hv).2 rfl
theorem wc_ex {f : Nat} {args : List AV} {h : Heap} {α : Type} {r : α → COut} (w : WC env f args h (fun o => ∃ q, o = r q)) : ∃ q, WC env f args h (fun o => o = r q) := by
  obtain ⟨o, h1, q, h2⟩ := w
  exact ⟨q, o, h1, h2⟩
theorem form_one (a : Int) (x : Option (Int × Und)) : (formAV a x).one = true := by
  rcases x with _ | ⟨c, u⟩ <;> rfl
theorem form_k1 (i : Int) (s : List UInt8) (c : Int) (nf : Option Bool) (ns : List Int) (af : Option Bool) (ar : List Tm) (ho : Tm.Ok (.mk 1 i s c nf ns af ar)) (p : Int) (h : Heap) : WC env 130 [.agg (tc (.mk 1 i s c nf ns af ar)), .int .i64 p] h (fun o => o = .ret ⟨formAV p (formF (.mk 1 i s c nf ns af ar)), h, .none⟩) := by
  obtain ⟨ss, sn, sa, _⟩ := ho.lens
  refine call_pure rfl rfl rfl (by simp only [AV.noRefs, AV.noRef, noRef_tc, Bool.and_self, Bool.true_and]) ?_
  obtain ⟨t, et⟩ : ∃ t : Tm, t = (.mk 1 i s c nf ns af ar) := ⟨_, rfl⟩
  rw [← et]
  obtain ⟨cs, ec⟩ : ∃ cs, cs = tc t := ⟨_, rfl⟩
  obtain ⟨nv, en⟩ : ∃ nv, nv = slAV nf ns.length (u32s ns) := ⟨_, rfl⟩
  obtain ⟨av, ea⟩ : ∃ av, av = slAV af ar.length (tcs ar) := ⟨_, rfl⟩
  have ec' : cs = [.int .i64 1, .int .i64 i, .str s, .int .u32 c, nv, av] := by rw [ec, et, en, ea]; rfl
  obtain ⟨h1, eh1⟩ : ∃ h1, h1 = Heap.empty.new cs := ⟨_, rfl⟩
  have a1 : h1.at_ Heap.empty.next 0 = some [.int .i64 1, .int .i64 i, .str s, .int .u32 c, nv, av] := by rw [← ec', eh1]; exact at_new _
  rw [← ec]
  have y1 : (AV.agg cs).row = some cs := rfl
  have y2 : cs.length = 6 := by rw [ec']; rfl
  have l0 := ld60 a1
  have l1 := ld61 a1
  have l2 := ld62 a1
  have l4 := ld64 a1
  have l5 := ld65 a1
  have l6 : aLoad h1 true 6 (.ptr Heap.empty.next 0 0) = some ⟨.agg cs, h1, .read⟩ := by rw [ec']; exact ld6 a1
  have we : ∀ bt bn ba h, WC env 139 [.agg cs, .bool bt, .bool bn, .bool ba] h (fun o => o = .ret ⟨.bool (emptyF t bt bn ba), h, .none⟩) := fun bt bn ba h => by rw [ec]; exact empty_spec t bt bn ba h
  have nl : ∀ h, aLenOp false h nv = some ⟨.int .i64 ns.length, h, .none⟩ := fun h => by rw [en]; exact len_sl _ _ _ (fun _ => trivial) h
  have al : ∀ h, aLenOp false h av = some ⟨.int .i64 ar.length, h, .none⟩ := fun h => by rw [ea]; exact len_sl _ _ _ (fun _ => trivial) h
  cases e1 : emptyF t false false false with
  | false =>
    have ef : formF t = some (40, none) := by rw [et, formF, ← et, if_pos (by rw [et, kindOk, ← et]; simp [e1])]
    simp only [a130, a130_0, a130_1, a130_2, a130_3, a130_4, a130_17, Slots.ofList, wpo_u, wpc_draw, s3, reduceIte, Nat.reduceEqDiff, aBin, aInt, negIf, Option.some.injEq, exists_eq_left', Option.map_some, Option.bind_some, y1, y2, ← eh1, aFieldAddr, Nat.zero_add, l0, l6, wc_eq (we _ _ _ _), nl, al, aUn, aPick, Int.reduceBEq, Int.reduceBNe, Int.reduceEq, Nat.reduceBEq, a130_18, Bool.not_false, wc_eq (tfault_nil _ _ _), e1]
    exact fin1 (v := formAV p (formF t)) (by simp only [get_put, reduceIte, Nat.reduceEqDiff]; rw [ef]; rfl) (noRef_form _ _) (form_one _ _) rfl
  | true =>
    have ek : ¬ kindOk t = false := by rw [et, kindOk, ← et]; simp [e1]
    by_cases c1 : i < -576460752303423488
    · have z1 : (i < -576460752303423488) = True := eq_true c1
      have ef : formF t = some (2, none) := by rw [et, formF, ← et, if_neg ek, if_pos rfl, if_pos (.inl c1)]
      simp only [a130, a130_0, a130_1, a130_2, a130_3, a130_4, a130_17, Slots.ofList, wpo_u, wpc_draw, s3, reduceIte, Nat.reduceEqDiff, aBin, aInt, negIf, Option.some.injEq, exists_eq_left', Option.map_some, Option.bind_some, y1, y2, ← eh1, aFieldAddr, Nat.zero_add, l0, l6, wc_eq (we _ _ _ _), nl, al, aUn, aPick, Int.reduceBEq, Int.reduceBNe, Int.reduceEq, Nat.reduceBEq, a130_19, a130_20, Bool.not_true, e1, a130_21, a130_22, a130_23, l1, z1, wc_eq (tfault_nil _ _ _)]
      exact fin1 (v := formAV p (formF t)) (by simp only [get_put, reduceIte, Nat.reduceEqDiff]; rw [ef]; rfl) (noRef_form _ _) (form_one _ _) rfl
    have z1 : (i < -576460752303423488) = False := eq_false c1
    by_cases c2 : i > 576460752303423487
    · have z2 : (i > 576460752303423487) = True := eq_true c2
      have ef : formF t = some (2, none) := by rw [et, formF, ← et, if_neg ek, if_pos rfl, if_pos (.inr c2)]
      simp only [a130, a130_0, a130_1, a130_2, a130_3, a130_4, a130_17, Slots.ofList, wpo_u, wpc_draw, s3, reduceIte, Nat.reduceEqDiff, aBin, aInt, negIf, Option.some.injEq, exists_eq_left', Option.map_some, Option.bind_some, y1, y2, ← eh1, aFieldAddr, Nat.zero_add, l0, l6, wc_eq (we _ _ _ _), nl, al, aUn, aPick, Int.reduceBEq, Int.reduceBNe, Int.reduceEq, Nat.reduceBEq, a130_19, a130_20, Bool.not_true, e1, a130_21, a130_22, a130_23, l1, z1, z2, wc_eq (tfault_nil _ _ _)]
      exact fin1 (v := formAV p (formF t)) (by simp only [get_put, reduceIte, Nat.reduceEqDiff]; rw [ef]; rfl) (noRef_form _ _) (form_one _ _) rfl
    have z2 : (i > 576460752303423487) = False := eq_false c2
    have ef : formF t = none := by rw [et, formF, ← et, if_neg ek, if_pos rfl, if_neg (by rintro (h | h); exact c1 h; exact c2 h)]
    simp only [a130, a130_0, a130_1, a130_2, a130_3, a130_4, a130_17, Slots.ofList, wpo_u, wpc_draw, s3, reduceIte, Nat.reduceEqDiff, aBin, aInt, negIf, Option.some.injEq, exists_eq_left', Option.map_some, Option.bind_some, y1, y2, ← eh1, aFieldAddr, Nat.zero_add, l0, l6, wc_eq (we _ _ _ _), nl, al, aUn, aPick, Int.reduceBEq, Int.reduceBNe, Int.reduceEq, Nat.reduceBEq, a130_19, a130_20, Bool.not_true, e1, a130_21, a130_22, a130_29, a130_31, l1, z1, z2, eq_nil]
    exact fin1 (v := formAV p (formF t)) (by simp only [get_put, reduceIte, Nat.reduceEqDiff]; rw [ef]; rfl) (noRef_form _ _) (form_one _ _) rfl
theorem form_k2 (i : Int) (s : List UInt8) (c : Int) (nf : Option Bool) (ns : List Int) (af : Option Bool) (ar : List Tm) (ho : Tm.Ok (.mk 2 i s c nf ns af ar)) (p : Int) (h : Heap) : WC env 130 [.agg (tc (.mk 2 i s c nf ns af ar)), .int .i64 p] h (fun o => o = .ret ⟨formAV p (formF (.mk 2 i s c nf ns af ar)), h, .none⟩) := by
  obtain ⟨ss, sn, sa, _⟩ := ho.lens
  refine call_pure rfl rfl rfl (by simp only [AV.noRefs, AV.noRef, noRef_tc, Bool.and_self, Bool.true_and]) ?_
  obtain ⟨t, et⟩ : ∃ t : Tm, t = (.mk 2 i s c nf ns af ar) := ⟨_, rfl⟩
  rw [← et]
  obtain ⟨cs, ec⟩ : ∃ cs, cs = tc t := ⟨_, rfl⟩
  obtain ⟨nv, en⟩ : ∃ nv, nv = slAV nf ns.length (u32s ns) := ⟨_, rfl⟩
  obtain ⟨av, ea⟩ : ∃ av, av = slAV af ar.length (tcs ar) := ⟨_, rfl⟩
  have ec' : cs = [.int .i64 2, .int .i64 i, .str s, .int .u32 c, nv, av] := by rw [ec, et, en, ea]; rfl
  obtain ⟨h1, eh1⟩ : ∃ h1, h1 = Heap.empty.new cs := ⟨_, rfl⟩
  have a1 : h1.at_ Heap.empty.next 0 = some [.int .i64 2, .int .i64 i, .str s, .int .u32 c, nv, av] := by rw [← ec', eh1]; exact at_new _
  rw [← ec]
  have y1 : (AV.agg cs).row = some cs := rfl
  have y2 : cs.length = 6 := by rw [ec']; rfl
  have l0 := ld60 a1
  have l1 := ld61 a1
  have l2 := ld62 a1
  have l4 := ld64 a1
  have l5 := ld65 a1
  have l6 : aLoad h1 true 6 (.ptr Heap.empty.next 0 0) = some ⟨.agg cs, h1, .read⟩ := by rw [ec']; exact ld6 a1
  have we : ∀ bt bn ba h, WC env 139 [.agg cs, .bool bt, .bool bn, .bool ba] h (fun o => o = .ret ⟨.bool (emptyF t bt bn ba), h, .none⟩) := fun bt bn ba h => by rw [ec]; exact empty_spec t bt bn ba h
  have nl : ∀ h, aLenOp false h nv = some ⟨.int .i64 ns.length, h, .none⟩ := fun h => by rw [en]; exact len_sl _ _ _ (fun _ => trivial) h
  have al : ∀ h, aLenOp false h av = some ⟨.int .i64 ar.length, h, .none⟩ := fun h => by rw [ea]; exact len_sl _ _ _ (fun _ => trivial) h
  cases e1 : emptyF t true false false with
  | false =>
    have ef : formF t = some (40, none) := by rw [et, formF, ← et, if_pos (by rw [et, kindOk, ← et]; simp [e1])]
    simp only [a130, a130_0, a130_1, a130_2, a130_3, a130_5, a130_6, a130_17, Slots.ofList, wpo_u, wpc_draw, s3, reduceIte, Nat.reduceEqDiff, aBin, aInt, negIf, Option.some.injEq, exists_eq_left', Option.map_some, Option.bind_some, y1, y2, ← eh1, aFieldAddr, Nat.zero_add, l0, l6, wc_eq (we _ _ _ _), nl, al, aUn, aPick, Int.reduceBEq, Int.reduceBNe, Int.reduceEq, Nat.reduceBEq, a130_18, Bool.not_false, wc_eq (tfault_nil _ _ _), e1]
    exact fin1 (v := formAV p (formF t)) (by simp only [get_put, reduceIte, Nat.reduceEqDiff]; rw [ef]; rfl) (noRef_form _ _) (form_one _ _) rfl
  | true =>
    have ek : ¬ kindOk t = false := by rw [et, kindOk, ← et]; simp [e1]
    obtain ⟨q, wq⟩ := wc_ex (quote_spec s h1)
    cases eq : quoteErr s with
    | none =>
      rw [eq] at wq
      have wq : WC env 140 [.str s] h1 (fun o => o = .ret ⟨.tup [.str q, .nili], h1, .none⟩) := wq
      have ef : formF t = none := by rw [et, formF, ← et, if_neg ek, if_neg (by decide), if_pos rfl, eq]
      simp only [a130, a130_0, a130_1, a130_2, a130_3, a130_5, a130_6, a130_17, Slots.ofList, wpo_u, wpc_draw, s3, reduceIte, Nat.reduceEqDiff, aBin, aInt, negIf, Option.some.injEq, exists_eq_left', Option.map_some, Option.bind_some, y1, y2, ← eh1, aFieldAddr, Nat.zero_add, l0, l6, wc_eq (we _ _ _ _), nl, al, aUn, aPick, Int.reduceBEq, Int.reduceBNe, Int.reduceEq, Nat.reduceBEq, a130_19, a130_20, Bool.not_true, e1, a130_21, a130_24, a130_25, a130_29, a130_31, l2, wc_eq wq, aExtract, ex0, ex1, eq_nil]
      exact fin1 (v := formAV p (formF t)) (by simp only [get_put, reduceIte, Nat.reduceEqDiff]; rw [ef]; rfl) (noRef_form _ _) (form_one _ _) rfl
    | some pc =>
      obtain ⟨pp, cc⟩ := pc
      rw [eq] at wq
      have wq : WC env 140 [.str s] h1 (fun o => o = .ret ⟨.tup [.str q, errA pp cc], h1, .none⟩) := wq
      have ef : formF t = some (cc, some (pp, cc)) := by rw [et, formF, ← et, if_neg ek, if_neg (by decide), if_pos rfl, eq]
      simp only [a130, a130_0, a130_1, a130_2, a130_3, a130_5, a130_6, a130_17, Slots.ofList, wpo_u, wpc_draw, s3, reduceIte, Nat.reduceEqDiff, aBin, aInt, negIf, Option.some.injEq, exists_eq_left', Option.map_some, Option.bind_some, y1, y2, ← eh1, aFieldAddr, Nat.zero_add, l0, l6, wc_eq (we _ _ _ _), nl, al, aUn, aPick, Int.reduceBEq, Int.reduceBNe, Int.reduceEq, Nat.reduceBEq, a130_19, a130_20, Bool.not_true, e1, a130_21, a130_24, a130_25, a130_29, a130_30, l2, wc_eq wq, aExtract, ex0, ex1, aEq_errA, Bool.not_false, wc_eq (tcode_err _ _ _), wc_eq (tfault_err _ _ _ _ _)]
      exact fin1 (v := formAV p (formF t)) (by simp only [get_put, reduceIte, Nat.reduceEqDiff]; rw [ef]; rfl) (noRef_form _ _) (form_one _ _) rfl
theorem form_k3 (i : Int) (s : List UInt8) (c : Int) (nf : Option Bool) (ns : List Int) (af : Option Bool) (ar : List Tm) (ho : Tm.Ok (.mk 3 i s c nf ns af ar)) (p : Int) (h : Heap) : WC env 130 [.agg (tc (.mk 3 i s c nf ns af ar)), .int .i64 p] h (fun o => o = .ret ⟨formAV p (formF (.mk 3 i s c nf ns af ar)), h, .none⟩) := by
  obtain ⟨ss, sn, sa, _⟩ := ho.lens
  refine call_pure rfl rfl rfl (by simp only [AV.noRefs, AV.noRef, noRef_tc, Bool.and_self, Bool.true_and]) ?_
  obtain ⟨t, et⟩ : ∃ t : Tm, t = (.mk 3 i s c nf ns af ar) := ⟨_, rfl⟩
  rw [← et]
  obtain ⟨cs, ec⟩ : ∃ cs, cs = tc t := ⟨_, rfl⟩
  obtain ⟨nv, en⟩ : ∃ nv, nv = slAV nf ns.length (u32s ns) := ⟨_, rfl⟩
  obtain ⟨av, ea⟩ : ∃ av, av = slAV af ar.length (tcs ar) := ⟨_, rfl⟩
  have ec' : cs = [.int .i64 3, .int .i64 i, .str s, .int .u32 c, nv, av] := by rw [ec, et, en, ea]; rfl
  obtain ⟨h1, eh1⟩ : ∃ h1, h1 = Heap.empty.new cs := ⟨_, rfl⟩
  have a1 : h1.at_ Heap.empty.next 0 = some [.int .i64 3, .int .i64 i, .str s, .int .u32 c, nv, av] := by rw [← ec', eh1]; exact at_new _
  rw [← ec]
  have y1 : (AV.agg cs).row = some cs := rfl
  have y2 : cs.length = 6 := by rw [ec']; rfl
  have l0 := ld60 a1
  have l1 := ld61 a1
  have l2 := ld62 a1
  have l4 := ld64 a1
  have l5 := ld65 a1
  have l6 : aLoad h1 true 6 (.ptr Heap.empty.next 0 0) = some ⟨.agg cs, h1, .read⟩ := by rw [ec']; exact ld6 a1
  have we : ∀ bt bn ba h, WC env 139 [.agg cs, .bool bt, .bool bn, .bool ba] h (fun o => o = .ret ⟨.bool (emptyF t bt bn ba), h, .none⟩) := fun bt bn ba h => by rw [ec]; exact empty_spec t bt bn ba h
  have nl : ∀ h, aLenOp false h nv = some ⟨.int .i64 ns.length, h, .none⟩ := fun h => by rw [en]; exact len_sl _ _ _ (fun _ => trivial) h
  have al : ∀ h, aLenOp false h av = some ⟨.int .i64 ar.length, h, .none⟩ := fun h => by rw [ea]; exact len_sl _ _ _ (fun _ => trivial) h
  cases e1 : emptyF t true true false with
  | false =>
    have ef : formF t = some (40, none) := by rw [et, formF, ← et, if_pos (by rw [et, kindOk, ← et]; simp [e1])]
    simp only [a130, a130_0, a130_1, a130_2, a130_3, a130_5, a130_7, a130_8, a130_17, Slots.ofList, wpo_u, wpc_draw, s3, reduceIte, Nat.reduceEqDiff, aBin, aInt, negIf, Option.some.injEq, exists_eq_left', Option.map_some, Option.bind_some, y1, y2, ← eh1, aFieldAddr, Nat.zero_add, l0, l6, wc_eq (we _ _ _ _), nl, al, aUn, aPick, Int.reduceBEq, Int.reduceBNe, Int.reduceEq, Nat.reduceBEq, a130_18, Bool.not_false, wc_eq (tfault_nil _ _ _), e1]
    exact fin1 (v := formAV p (formF t)) (by simp only [get_put, reduceIte, Nat.reduceEqDiff]; rw [ef]; rfl) (noRef_form _ _) (form_one _ _) rfl
  | true =>
    cases e2 : (ns.length == 3) with
    | false =>
      have z : ((ns.length : Int) == 3) = false := by simp at e2 ⊢; omega
      have ef : formF t = some (40, none) := by rw [et, formF, ← et, if_pos (by rw [et, kindOk, ← et]; simp [e1, e2])]
      simp only [a130, a130_0, a130_1, a130_2, a130_3, a130_5, a130_7, a130_8, a130_17, Slots.ofList, wpo_u, wpc_draw, s3, reduceIte, Nat.reduceEqDiff, aBin, aInt, negIf, Option.some.injEq, exists_eq_left', Option.map_some, Option.bind_some, y1, y2, ← eh1, aFieldAddr, Nat.zero_add, l0, l6, wc_eq (we _ _ _ _), nl, al, aUn, aPick, Int.reduceBEq, Int.reduceBNe, Int.reduceEq, Nat.reduceBEq, a130_18, Bool.not_false, wc_eq (tfault_nil _ _ _), e1, l4, z]
      exact fin1 (v := formAV p (formF t)) (by simp only [get_put, reduceIte, Nat.reduceEqDiff]; rw [ef]; rfl) (noRef_form _ _) (form_one _ _) rfl
    | true =>
      have z : ((ns.length : Int) == 3) = true := by simp at e2 ⊢; omega
      have ek : ¬ kindOk t = false := by rw [et, kindOk, ← et]; simp [e1, e2]
      obtain ⟨q1, q2, wq⟩ := wc_ex2 (node_spec s ss h1)
      cases eq : nodeF s with
      | true =>
        rw [eq] at wq
        have wq : WC env 141 [.str s] h1 (fun o => o = .ret ⟨.tup [.str q1, .str q2, .nili], h1, .none⟩) := wq
        have ef : formF t = none := by rw [et, formF, ← et, if_neg ek, if_neg (by decide), if_neg (by decide), if_pos (by decide), eq]; rfl
        simp only [a130, a130_0, a130_1, a130_2, a130_3, a130_5, a130_7, a130_8, a130_17, Slots.ofList, wpo_u, wpc_draw, s3, reduceIte, Nat.reduceEqDiff, aBin, aInt, negIf, Option.some.injEq, exists_eq_left', Option.map_some, Option.bind_some, y1, y2, ← eh1, aFieldAddr, Nat.zero_add, l0, l6, wc_eq (we _ _ _ _), nl, al, aUn, aPick, Int.reduceBEq, Int.reduceBNe, Int.reduceEq, Nat.reduceBEq, a130_19, a130_20, Bool.not_true, e1, l4, z, a130_21, a130_24, a130_26, a130_28, a130_29, a130_31, l2, wc_eq wq, aExtract, x30, x31, x32, eq_nil]
        exact fin1 (v := formAV p (formF t)) (by simp only [get_put, reduceIte, Nat.reduceEqDiff]; rw [ef]; rfl) (noRef_form _ _) (form_one _ _) rfl
      | false =>
        rw [eq] at wq
        have wq : WC env 141 [.str s] h1 (fun o => o = .ret ⟨.tup [.str q1, .str q2, errA 0 24], h1, .none⟩) := wq
        have ef : formF t = some (24, some (0, 24)) := by rw [et, formF, ← et, if_neg ek, if_neg (by decide), if_neg (by decide), if_pos (by decide), eq]; rfl
        simp only [a130, a130_0, a130_1, a130_2, a130_3, a130_5, a130_7, a130_8, a130_17, Slots.ofList, wpo_u, wpc_draw, s3, reduceIte, Nat.reduceEqDiff, aBin, aInt, negIf, Option.some.injEq, exists_eq_left', Option.map_some, Option.bind_some, y1, y2, ← eh1, aFieldAddr, Nat.zero_add, l0, l6, wc_eq (we _ _ _ _), nl, al, aUn, aPick, Int.reduceBEq, Int.reduceBNe, Int.reduceEq, Nat.reduceBEq, a130_19, a130_20, Bool.not_true, e1, l4, z, a130_21, a130_24, a130_26, a130_28, a130_29, a130_30, l2, wc_eq wq, aExtract, x30, x31, x32, aEq_errA, Bool.not_false, wc_eq (tcode_err _ _ _), wc_eq (tfault_err _ _ _ _ _)]
        exact fin1 (v := formAV p (formF t)) (by simp only [get_put, reduceIte, Nat.reduceEqDiff]; rw [ef]; rfl) (noRef_form _ _) (form_one _ _) rfl
theorem form_k4 (i : Int) (s : List UInt8) (c : Int) (nf : Option Bool) (ns : List Int) (af : Option Bool) (ar : List Tm) (ho : Tm.Ok (.mk 4 i s c nf ns af ar)) (p : Int) (h : Heap) : WC env 130 [.agg (tc (.mk 4 i s c nf ns af ar)), .int .i64 p] h (fun o => o = .ret ⟨formAV p (formF (.mk 4 i s c nf ns af ar)), h, .none⟩) := by
  obtain ⟨ss, sn, sa, _⟩ := ho.lens
  refine call_pure rfl rfl rfl (by simp only [AV.noRefs, AV.noRef, noRef_tc, Bool.and_self, Bool.true_and]) ?_
  obtain ⟨t, et⟩ : ∃ t : Tm, t = (.mk 4 i s c nf ns af ar) := ⟨_, rfl⟩
  rw [← et]
  obtain ⟨cs, ec⟩ : ∃ cs, cs = tc t := ⟨_, rfl⟩
  obtain ⟨nv, en⟩ : ∃ nv, nv = slAV nf ns.length (u32s ns) := ⟨_, rfl⟩
  obtain ⟨av, ea⟩ : ∃ av, av = slAV af ar.length (tcs ar) := ⟨_, rfl⟩
  have ec' : cs = [.int .i64 4, .int .i64 i, .str s, .int .u32 c, nv, av] := by rw [ec, et, en, ea]; rfl
  obtain ⟨h1, eh1⟩ : ∃ h1, h1 = Heap.empty.new cs := ⟨_, rfl⟩
  have a1 : h1.at_ Heap.empty.next 0 = some [.int .i64 4, .int .i64 i, .str s, .int .u32 c, nv, av] := by rw [← ec', eh1]; exact at_new _
  rw [← ec]
  have y1 : (AV.agg cs).row = some cs := rfl
  have y2 : cs.length = 6 := by rw [ec']; rfl
  have l0 := ld60 a1
  have l1 := ld61 a1
  have l2 := ld62 a1
  have l4 := ld64 a1
  have l5 := ld65 a1
  have l6 : aLoad h1 true 6 (.ptr Heap.empty.next 0 0) = some ⟨.agg cs, h1, .read⟩ := by rw [ec']; exact ld6 a1
  have we : ∀ bt bn ba h, WC env 139 [.agg cs, .bool bt, .bool bn, .bool ba] h (fun o => o = .ret ⟨.bool (emptyF t bt bn ba), h, .none⟩) := fun bt bn ba h => by rw [ec]; exact empty_spec t bt bn ba h
  have nl : ∀ h, aLenOp false h nv = some ⟨.int .i64 ns.length, h, .none⟩ := fun h => by rw [en]; exact len_sl _ _ _ (fun _ => trivial) h
  have al : ∀ h, aLenOp false h av = some ⟨.int .i64 ar.length, h, .none⟩ := fun h => by rw [ea]; exact len_sl _ _ _ (fun _ => trivial) h
  cases e1 : emptyF t true true false with
  | false =>
    have ef : formF t = some (40, none) := by rw [et, formF, ← et, if_pos (by rw [et, kindOk, ← et]; simp [e1])]
    simp only [a130, a130_0, a130_1, a130_2, a130_3, a130_5, a130_7, a130_9, a130_10, a130_17, Slots.ofList, wpo_u, wpc_draw, s3, reduceIte, Nat.reduceEqDiff, aBin, aInt, negIf, Option.some.injEq, exists_eq_left', Option.map_some, Option.bind_some, y1, y2, ← eh1, aFieldAddr, Nat.zero_add, l0, l6, wc_eq (we _ _ _ _), nl, al, aUn, aPick, Int.reduceBEq, Int.reduceBNe, Int.reduceEq, Nat.reduceBEq, a130_18, Bool.not_false, wc_eq (tfault_nil _ _ _), e1]
    exact fin1 (v := formAV p (formF t)) (by simp only [get_put, reduceIte, Nat.reduceEqDiff]; rw [ef]; rfl) (noRef_form _ _) (form_one _ _) rfl
  | true =>
    cases e2 : (ns.length == 2) with
    | false =>
      have z : ((ns.length : Int) == 2) = false := by simp at e2 ⊢; omega
      have ef : formF t = some (40, none) := by rw [et, formF, ← et, if_pos (by rw [et, kindOk, ← et]; simp [e1, e2])]
      simp only [a130, a130_0, a130_1, a130_2, a130_3, a130_5, a130_7, a130_9, a130_10, a130_17, Slots.ofList, wpo_u, wpc_draw, s3, reduceIte, Nat.reduceEqDiff, aBin, aInt, negIf, Option.some.injEq, exists_eq_left', Option.map_some, Option.bind_some, y1, y2, ← eh1, aFieldAddr, Nat.zero_add, l0, l6, wc_eq (we _ _ _ _), nl, al, aUn, aPick, Int.reduceBEq, Int.reduceBNe, Int.reduceEq, Nat.reduceBEq, a130_18, Bool.not_false, wc_eq (tfault_nil _ _ _), e1, l4, z]
      exact fin1 (v := formAV p (formF t)) (by simp only [get_put, reduceIte, Nat.reduceEqDiff]; rw [ef]; rfl) (noRef_form _ _) (form_one _ _) rfl
    | true =>
      have z : ((ns.length : Int) == 2) = true := by simp at e2 ⊢; omega
      have ek : ¬ kindOk t = false := by rw [et, kindOk, ← et]; simp [e1, e2]
      obtain ⟨q1, q2, wq⟩ := wc_ex2 (node_spec s ss h1)
      cases eq : nodeF s with
      | true =>
        rw [eq] at wq
        have wq : WC env 141 [.str s] h1 (fun o => o = .ret ⟨.tup [.str q1, .str q2, .nili], h1, .none⟩) := wq
        have ef : formF t = none := by rw [et, formF, ← et, if_neg ek, if_neg (by decide), if_neg (by decide), if_pos (by decide), eq]; rfl
        simp only [a130, a130_0, a130_1, a130_2, a130_3, a130_5, a130_7, a130_9, a130_10, a130_17, Slots.ofList, wpo_u, wpc_draw, s3, reduceIte, Nat.reduceEqDiff, aBin, aInt, negIf, Option.some.injEq, exists_eq_left', Option.map_some, Option.bind_some, y1, y2, ← eh1, aFieldAddr, Nat.zero_add, l0, l6, wc_eq (we _ _ _ _), nl, al, aUn, aPick, Int.reduceBEq, Int.reduceBNe, Int.reduceEq, Nat.reduceBEq, a130_19, a130_20, Bool.not_true, e1, l4, z, a130_21, a130_24, a130_26, a130_27, a130_28, a130_29, a130_31, l2, wc_eq wq, aExtract, x30, x31, x32, eq_nil]
        exact fin1 (v := formAV p (formF t)) (by simp only [get_put, reduceIte, Nat.reduceEqDiff]; rw [ef]; rfl) (noRef_form _ _) (form_one _ _) rfl
      | false =>
        rw [eq] at wq
        have wq : WC env 141 [.str s] h1 (fun o => o = .ret ⟨.tup [.str q1, .str q2, errA 0 24], h1, .none⟩) := wq
        have ef : formF t = some (24, some (0, 24)) := by rw [et, formF, ← et, if_neg ek, if_neg (by decide), if_neg (by decide), if_pos (by decide), eq]; rfl
        simp only [a130, a130_0, a130_1, a130_2, a130_3, a130_5, a130_7, a130_9, a130_10, a130_17, Slots.ofList, wpo_u, wpc_draw, s3, reduceIte, Nat.reduceEqDiff, aBin, aInt, negIf, Option.some.injEq, exists_eq_left', Option.map_some, Option.bind_some, y1, y2, ← eh1, aFieldAddr, Nat.zero_add, l0, l6, wc_eq (we _ _ _ _), nl, al, aUn, aPick, Int.reduceBEq, Int.reduceBNe, Int.reduceEq, Nat.reduceBEq, a130_19, a130_20, Bool.not_true, e1, l4, z, a130_21, a130_24, a130_26, a130_27, a130_28, a130_29, a130_30, l2, wc_eq wq, aExtract, x30, x31, x32, aEq_errA, Bool.not_false, wc_eq (tcode_err _ _ _), wc_eq (tfault_err _ _ _ _ _)]
        exact fin1 (v := formAV p (formF t)) (by simp only [get_put, reduceIte, Nat.reduceEqDiff]; rw [ef]; rfl) (noRef_form _ _) (form_one _ _) rfl
theorem form_k5 (i : Int) (s : List UInt8) (c : Int) (nf : Option Bool) (ns : List Int) (af : Option Bool) (ar : List Tm) (ho : Tm.Ok (.mk 5 i s c nf ns af ar)) (p : Int) (h : Heap) : WC env 130 [.agg (tc (.mk 5 i s c nf ns af ar)), .int .i64 p] h (fun o => o = .ret ⟨formAV p (formF (.mk 5 i s c nf ns af ar)), h, .none⟩) := by
  obtain ⟨ss, sn, sa, _⟩ := ho.lens
  refine call_pure rfl rfl rfl (by simp only [AV.noRefs, AV.noRef, noRef_tc, Bool.and_self, Bool.true_and]) ?_
  obtain ⟨t, et⟩ : ∃ t : Tm, t = (.mk 5 i s c nf ns af ar) := ⟨_, rfl⟩
  rw [← et]
  obtain ⟨cs, ec⟩ : ∃ cs, cs = tc t := ⟨_, rfl⟩
  obtain ⟨nv, en⟩ : ∃ nv, nv = slAV nf ns.length (u32s ns) := ⟨_, rfl⟩
  obtain ⟨av, ea⟩ : ∃ av, av = slAV af ar.length (tcs ar) := ⟨_, rfl⟩
  have ec' : cs = [.int .i64 5, .int .i64 i, .str s, .int .u32 c, nv, av] := by rw [ec, et, en, ea]; rfl
  obtain ⟨h1, eh1⟩ : ∃ h1, h1 = Heap.empty.new cs := ⟨_, rfl⟩
  have a1 : h1.at_ Heap.empty.next 0 = some [.int .i64 5, .int .i64 i, .str s, .int .u32 c, nv, av] := by rw [← ec', eh1]; exact at_new _
  rw [← ec]
  have y1 : (AV.agg cs).row = some cs := rfl
  have y2 : cs.length = 6 := by rw [ec']; rfl
  have l0 := ld60 a1
  have l1 := ld61 a1
  have l2 := ld62 a1
  have l4 := ld64 a1
  have l5 := ld65 a1
  have l6 : aLoad h1 true 6 (.ptr Heap.empty.next 0 0) = some ⟨.agg cs, h1, .read⟩ := by rw [ec']; exact ld6 a1
  have we : ∀ bt bn ba h, WC env 139 [.agg cs, .bool bt, .bool bn, .bool ba] h (fun o => o = .ret ⟨.bool (emptyF t bt bn ba), h, .none⟩) := fun bt bn ba h => by rw [ec]; exact empty_spec t bt bn ba h
  have nl : ∀ h, aLenOp false h nv = some ⟨.int .i64 ns.length, h, .none⟩ := fun h => by rw [en]; exact len_sl _ _ _ (fun _ => trivial) h
  have al : ∀ h, aLenOp false h av = some ⟨.int .i64 ar.length, h, .none⟩ := fun h => by rw [ea]; exact len_sl _ _ _ (fun _ => trivial) h
  cases e1 : emptyF t false false true with
  | false =>
    have ef : formF t = some (40, none) := by rw [et, formF, ← et, if_pos (by rw [et, kindOk, ← et]; simp [e1])]
    simp only [a130, a130_0, a130_1, a130_2, a130_3, a130_5, a130_7, a130_9, a130_11, a130_12, a130_17, Slots.ofList, wpo_u, wpc_draw, s3, reduceIte, Nat.reduceEqDiff, aBin, aInt, negIf, Option.some.injEq, exists_eq_left', Option.map_some, Option.bind_some, y1, y2, ← eh1, aFieldAddr, Nat.zero_add, l0, l6, wc_eq (we _ _ _ _), nl, al, aUn, aPick, Int.reduceBEq, Int.reduceBNe, Int.reduceEq, Nat.reduceBEq, a130_18, Bool.not_false, wc_eq (tfault_nil _ _ _), e1]
    exact fin1 (v := formAV p (formF t)) (by simp only [get_put, reduceIte, Nat.reduceEqDiff]; rw [ef]; rfl) (noRef_form _ _) (form_one _ _) rfl
  | true =>
    have ek : ¬ kindOk t = false := by rw [et, kindOk, ← et]; simp [e1]
    have ef : formF t = none := by rw [et, formF, ← et, if_neg ek, if_neg (by decide), if_neg (by decide), if_neg (by decide)]
    simp only [a130, a130_0, a130_1, a130_2, a130_3, a130_5, a130_7, a130_9, a130_11, a130_12, a130_17, Slots.ofList, wpo_u, wpc_draw, s3, reduceIte, Nat.reduceEqDiff, aBin, aInt, negIf, Option.some.injEq, exists_eq_left', Option.map_some, Option.bind_some, y1, y2, ← eh1, aFieldAddr, Nat.zero_add, l0, l6, wc_eq (we _ _ _ _), nl, al, aUn, aPick, Int.reduceBEq, Int.reduceBNe, Int.reduceEq, Nat.reduceBEq, a130_19, a130_20, Bool.not_true, e1, a130_21, a130_24, a130_26, a130_27, a130_29, a130_31, eq_nil]
    exact fin1 (v := formAV p (formF t)) (by simp only [get_put, reduceIte, Nat.reduceEqDiff]; rw [ef]; rfl) (noRef_form _ _) (form_one _ _) rfl
theorem form_k6 (i : Int) (s : List UInt8) (c : Int) (nf : Option Bool) (ns : List Int) (af : Option Bool) (ar : List Tm) (ho : Tm.Ok (.mk 6 i s c nf ns af ar)) (p : Int) (h : Heap) : WC env 130 [.agg (tc (.mk 6 i s c nf ns af ar)), .int .i64 p] h (fun o => o = .ret ⟨formAV p (formF (.mk 6 i s c nf ns af ar)), h, .none⟩) := by
  obtain ⟨ss, sn, sa, _⟩ := ho.lens
  refine call_pure rfl rfl rfl (by simp only [AV.noRefs, AV.noRef, noRef_tc, Bool.and_self, Bool.true_and]) ?_
  obtain ⟨t, et⟩ : ∃ t : Tm, t = (.mk 6 i s c nf ns af ar) := ⟨_, rfl⟩
  rw [← et]
  obtain ⟨cs, ec⟩ : ∃ cs, cs = tc t := ⟨_, rfl⟩
  obtain ⟨nv, en⟩ : ∃ nv, nv = slAV nf ns.length (u32s ns) := ⟨_, rfl⟩
  obtain ⟨av, ea⟩ : ∃ av, av = slAV af ar.length (tcs ar) := ⟨_, rfl⟩
  have ec' : cs = [.int .i64 6, .int .i64 i, .str s, .int .u32 c, nv, av] := by rw [ec, et, en, ea]; rfl
  obtain ⟨h1, eh1⟩ : ∃ h1, h1 = Heap.empty.new cs := ⟨_, rfl⟩
  have a1 : h1.at_ Heap.empty.next 0 = some [.int .i64 6, .int .i64 i, .str s, .int .u32 c, nv, av] := by rw [← ec', eh1]; exact at_new _
  rw [← ec]
  have y1 : (AV.agg cs).row = some cs := rfl
  have y2 : cs.length = 6 := by rw [ec']; rfl
  have l0 := ld60 a1
  have l1 := ld61 a1
  have l2 := ld62 a1
  have l4 := ld64 a1
  have l5 := ld65 a1
  have l6 : aLoad h1 true 6 (.ptr Heap.empty.next 0 0) = some ⟨.agg cs, h1, .read⟩ := by rw [ec']; exact ld6 a1
  have we : ∀ bt bn ba h, WC env 139 [.agg cs, .bool bt, .bool bn, .bool ba] h (fun o => o = .ret ⟨.bool (emptyF t bt bn ba), h, .none⟩) := fun bt bn ba h => by rw [ec]; exact empty_spec t bt bn ba h
  have nl : ∀ h, aLenOp false h nv = some ⟨.int .i64 ns.length, h, .none⟩ := fun h => by rw [en]; exact len_sl _ _ _ (fun _ => trivial) h
  have al : ∀ h, aLenOp false h av = some ⟨.int .i64 ar.length, h, .none⟩ := fun h => by rw [ea]; exact len_sl _ _ _ (fun _ => trivial) h
  cases e1 : emptyF t false false false with
  | false =>
    have ef : formF t = some (40, none) := by rw [et, formF, ← et, if_pos (by rw [et, kindOk, ← et]; simp [e1])]
    simp only [a130, a130_0, a130_1, a130_2, a130_3, a130_5, a130_7, a130_9, a130_11, a130_13, a130_14, a130_17, Slots.ofList, wpo_u, wpc_draw, s3, reduceIte, Nat.reduceEqDiff, aBin, aInt, negIf, Option.some.injEq, exists_eq_left', Option.map_some, Option.bind_some, y1, y2, ← eh1, aFieldAddr, Nat.zero_add, l0, l6, wc_eq (we _ _ _ _), nl, al, aUn, aPick, Int.reduceBEq, Int.reduceBNe, Int.reduceEq, Nat.reduceBEq, a130_18, Bool.not_false, wc_eq (tfault_nil _ _ _), e1]
    exact fin1 (v := formAV p (formF t)) (by simp only [get_put, reduceIte, Nat.reduceEqDiff]; rw [ef]; rfl) (noRef_form _ _) (form_one _ _) rfl
  | true =>
    have ek : ¬ kindOk t = false := by rw [et, kindOk, ← et]; simp [e1]
    have ef : formF t = none := by rw [et, formF, ← et, if_neg ek, if_neg (by decide), if_neg (by decide), if_neg (by decide)]
    simp only [a130, a130_0, a130_1, a130_2, a130_3, a130_5, a130_7, a130_9, a130_11, a130_13, a130_14, a130_17, Slots.ofList, wpo_u, wpc_draw, s3, reduceIte, Nat.reduceEqDiff, aBin, aInt, negIf, Option.some.injEq, exists_eq_left', Option.map_some, Option.bind_some, y1, y2, ← eh1, aFieldAddr, Nat.zero_add, l0, l6, wc_eq (we _ _ _ _), nl, al, aUn, aPick, Int.reduceBEq, Int.reduceBNe, Int.reduceEq, Nat.reduceBEq, a130_19, a130_20, Bool.not_true, e1, a130_21, a130_24, a130_26, a130_27, a130_29, a130_31, eq_nil]
    exact fin1 (v := formAV p (formF t)) (by simp only [get_put, reduceIte, Nat.reduceEqDiff]; rw [ef]; rfl) (noRef_form _ _) (form_one _ _) rfl
theorem form_k7 (i : Int) (s : List UInt8) (c : Int) (nf : Option Bool) (ns : List Int) (af : Option Bool) (ar : List Tm) (ho : Tm.Ok (.mk 7 i s c nf ns af ar)) (p : Int) (h : Heap) : WC env 130 [.agg (tc (.mk 7 i s c nf ns af ar)), .int .i64 p] h (fun o => o = .ret ⟨formAV p (formF (.mk 7 i s c nf ns af ar)), h, .none⟩) := by
  obtain ⟨ss, sn, sa, _⟩ := ho.lens
  refine call_pure rfl rfl rfl (by simp only [AV.noRefs, AV.noRef, noRef_tc, Bool.and_self, Bool.true_and]) ?_
  obtain ⟨t, et⟩ : ∃ t : Tm, t = (.mk 7 i s c nf ns af ar) := ⟨_, rfl⟩
  rw [← et]
  obtain ⟨cs, ec⟩ : ∃ cs, cs = tc t := ⟨_, rfl⟩
  obtain ⟨nv, en⟩ : ∃ nv, nv = slAV nf ns.length (u32s ns) := ⟨_, rfl⟩
  obtain ⟨av, ea⟩ : ∃ av, av = slAV af ar.length (tcs ar) := ⟨_, rfl⟩
  have ec' : cs = [.int .i64 7, .int .i64 i, .str s, .int .u32 c, nv, av] := by rw [ec, et, en, ea]; rfl
  obtain ⟨h1, eh1⟩ : ∃ h1, h1 = Heap.empty.new cs := ⟨_, rfl⟩
  have a1 : h1.at_ Heap.empty.next 0 = some [.int .i64 7, .int .i64 i, .str s, .int .u32 c, nv, av] := by rw [← ec', eh1]; exact at_new _
  rw [← ec]
  have y1 : (AV.agg cs).row = some cs := rfl
  have y2 : cs.length = 6 := by rw [ec']; rfl
  have l0 := ld60 a1
  have l1 := ld61 a1
  have l2 := ld62 a1
  have l4 := ld64 a1
  have l5 := ld65 a1
  have l6 : aLoad h1 true 6 (.ptr Heap.empty.next 0 0) = some ⟨.agg cs, h1, .read⟩ := by rw [ec']; exact ld6 a1
  have we : ∀ bt bn ba h, WC env 139 [.agg cs, .bool bt, .bool bn, .bool ba] h (fun o => o = .ret ⟨.bool (emptyF t bt bn ba), h, .none⟩) := fun bt bn ba h => by rw [ec]; exact empty_spec t bt bn ba h
  have nl : ∀ h, aLenOp false h nv = some ⟨.int .i64 ns.length, h, .none⟩ := fun h => by rw [en]; exact len_sl _ _ _ (fun _ => trivial) h
  have al : ∀ h, aLenOp false h av = some ⟨.int .i64 ar.length, h, .none⟩ := fun h => by rw [ea]; exact len_sl _ _ _ (fun _ => trivial) h
  cases e1 : emptyF t false false true with
  | false =>
    have ef : formF t = some (40, none) := by rw [et, formF, ← et, if_pos (by rw [et, kindOk, ← et]; simp [e1])]
    simp only [a130, a130_0, a130_1, a130_2, a130_3, a130_5, a130_7, a130_9, a130_11, a130_13, a130_15, a130_16, a130_17, Slots.ofList, wpo_u, wpc_draw, s3, reduceIte, Nat.reduceEqDiff, aBin, aInt, negIf, Option.some.injEq, exists_eq_left', Option.map_some, Option.bind_some, y1, y2, ← eh1, aFieldAddr, Nat.zero_add, l0, l6, wc_eq (we _ _ _ _), nl, al, aUn, aPick, Int.reduceBEq, Int.reduceBNe, Int.reduceEq, Nat.reduceBEq, a130_18, Bool.not_false, wc_eq (tfault_nil _ _ _), e1]
    exact fin1 (v := formAV p (formF t)) (by simp only [get_put, reduceIte, Nat.reduceEqDiff]; rw [ef]; rfl) (noRef_form _ _) (form_one _ _) rfl
  | true =>
    by_cases c2 : ar.length ≥ 2
    case neg =>
      have z : ((ar.length : Int) ≥ 2) = False := eq_false (by omega)
      have ef : formF t = some (40, none) := by rw [et, formF, ← et, if_pos (by rw [et, kindOk, ← et]; simp [e1, c2])]
      simp only [a130, a130_0, a130_1, a130_2, a130_3, a130_5, a130_7, a130_9, a130_11, a130_13, a130_15, a130_16, a130_17, Slots.ofList, wpo_u, wpc_draw, s3, reduceIte, Nat.reduceEqDiff, aBin, aInt, negIf, Option.some.injEq, exists_eq_left', Option.map_some, Option.bind_some, y1, y2, ← eh1, aFieldAddr, Nat.zero_add, l0, l6, wc_eq (we _ _ _ _), nl, al, aUn, aPick, Int.reduceBEq, Int.reduceBNe, Int.reduceEq, Nat.reduceBEq, a130_18, Bool.not_false, wc_eq (tfault_nil _ _ _), e1, l5, z]
      exact fin1 (v := formAV p (formF t)) (by simp only [get_put, reduceIte, Nat.reduceEqDiff]; rw [ef]; rfl) (noRef_form _ _) (form_one _ _) rfl
    have z : ((ar.length : Int) ≥ 2) = True := eq_true (by omega)
    have zs : IntKind.wrap .i64 ((ar.length : Int) - 1) = ((ar.length - 1 : Nat) : Int) := wrap_nat (by omega) (by omega)
    have hi : ar.length - 1 < ar.length := by omega
    have ix : aIdxAddr 6 av (.int .i64 ((ar.length - 1 : Nat) : Int)) = some (.fp ((tcs ar).drop ((ar.length - 1) * 6))) := by rw [ea]; exact idx_args hi
    have lx : ∀ h, aLoad h false 1 (.fp ((tcs ar).drop ((ar.length - 1) * 6))) = some ⟨.int .i64 (ar[ar.length - 1]).kind, h, .none⟩ := fun h => ld_arg0 hi h
    have ln := lastNot7_get ar hi
    cases e3 : ((ar[ar.length - 1]).kind != 7) with
    | false =>
      rw [e3] at ln
      have e3' : (!((ar[ar.length - 1]).kind == 7)) = false := e3
      have ef : formF t = some (40, none) := by rw [et, formF, ← et, if_pos (by rw [et, kindOk, ← et]; simp [e1, ln])]
      simp only [a130, a130_0, a130_1, a130_2, a130_3, a130_5, a130_7, a130_9, a130_11, a130_13, a130_15, a130_16, a130_17, Slots.ofList, wpo_u, wpc_draw, s3, reduceIte, Nat.reduceEqDiff, aBin, aInt, negIf, Option.some.injEq, exists_eq_left', Option.map_some, Option.bind_some, y1, y2, ← eh1, aFieldAddr, Nat.zero_add, l0, l6, wc_eq (we _ _ _ _), nl, al, aUn, aPick, Int.reduceBEq, Int.reduceBNe, Int.reduceEq, Nat.reduceBEq, a130_18, Bool.not_false, wc_eq (tfault_nil _ _ _), e1, l5, z, zs, ix, lx, e3, fa0, List.drop_zero, e3']
      exact fin1 (v := formAV p (formF t)) (by simp only [get_put, reduceIte, Nat.reduceEqDiff]; rw [ef]; rfl) (noRef_form _ _) (form_one _ _) rfl
    | true =>
      rw [e3] at ln
      have e3' : (!((ar[ar.length - 1]).kind == 7)) = true := e3
      have ek : ¬ kindOk t = false := by rw [et, kindOk, ← et]; simp [e1, ln, c2]
      have ef : formF t = none := by rw [et, formF, ← et, if_neg ek, if_neg (by decide), if_neg (by decide), if_neg (by decide)]
      simp only [a130, a130_0, a130_1, a130_2, a130_3, a130_5, a130_7, a130_9, a130_11, a130_13, a130_15, a130_16, a130_17, Slots.ofList, wpo_u, wpc_draw, s3, reduceIte, Nat.reduceEqDiff, aBin, aInt, negIf, Option.some.injEq, exists_eq_left', Option.map_some, Option.bind_some, y1, y2, ← eh1, aFieldAddr, Nat.zero_add, l0, l6, wc_eq (we _ _ _ _), nl, al, aUn, aPick, Int.reduceBEq, Int.reduceBNe, Int.reduceEq, Nat.reduceBEq, a130_19, a130_20, Bool.not_true, e1, l5, z, zs, ix, lx, e3, fa0, List.drop_zero, e3', a130_21, a130_24, a130_26, a130_27, a130_29, a130_31, eq_nil]
      exact fin1 (v := formAV p (formF t)) (by simp only [get_put, reduceIte, Nat.reduceEqDiff]; rw [ef]; rfl) (noRef_form _ _) (form_one _ _) rfl
theorem form_k0 (k : Int) (i : Int) (s : List UInt8) (c : Int) (nf : Option Bool) (ns : List Int) (af : Option Bool) (ar : List Tm) (ho : Tm.Ok (.mk k i s c nf ns af ar)) (hk : ∀ j : Int, 1 ≤ j → j ≤ 7 → k ≠ j) (p : Int) (h : Heap) : WC env 130 [.agg (tc (.mk k i s c nf ns af ar)), .int .i64 p] h (fun o => o = .ret ⟨formAV p (formF (.mk k i s c nf ns af ar)), h, .none⟩) := by
  obtain ⟨ss, sn, sa, _⟩ := ho.lens
  refine call_pure rfl rfl rfl (by simp only [AV.noRefs, AV.noRef, noRef_tc, Bool.and_self, Bool.true_and]) ?_
  obtain ⟨t, et⟩ : ∃ t : Tm, t = (.mk k i s c nf ns af ar) := ⟨_, rfl⟩
  rw [← et]
  obtain ⟨cs, ec⟩ : ∃ cs, cs = tc t := ⟨_, rfl⟩
  obtain ⟨nv, en⟩ : ∃ nv, nv = slAV nf ns.length (u32s ns) := ⟨_, rfl⟩
  obtain ⟨av, ea⟩ : ∃ av, av = slAV af ar.length (tcs ar) := ⟨_, rfl⟩
  have ec' : cs = [.int .i64 k, .int .i64 i, .str s, .int .u32 c, nv, av] := by rw [ec, et, en, ea]; rfl
  obtain ⟨h1, eh1⟩ : ∃ h1, h1 = Heap.empty.new cs := ⟨_, rfl⟩
  have a1 : h1.at_ Heap.empty.next 0 = some [.int .i64 k, .int .i64 i, .str s, .int .u32 c, nv, av] := by rw [← ec', eh1]; exact at_new _
  rw [← ec]
  have y1 : (AV.agg cs).row = some cs := rfl
  have y2 : cs.length = 6 := by rw [ec']; rfl
  have l0 := ld60 a1
  have l1 := ld61 a1
  have l2 := ld62 a1
  have l4 := ld64 a1
  have l5 := ld65 a1
  have l6 : aLoad h1 true 6 (.ptr Heap.empty.next 0 0) = some ⟨.agg cs, h1, .read⟩ := by rw [ec']; exact ld6 a1
  have we : ∀ bt bn ba h, WC env 139 [.agg cs, .bool bt, .bool bn, .bool ba] h (fun o => o = .ret ⟨.bool (emptyF t bt bn ba), h, .none⟩) := fun bt bn ba h => by rw [ec]; exact empty_spec t bt bn ba h
  have nl : ∀ h, aLenOp false h nv = some ⟨.int .i64 ns.length, h, .none⟩ := fun h => by rw [en]; exact len_sl _ _ _ (fun _ => trivial) h
  have al : ∀ h, aLenOp false h av = some ⟨.int .i64 ar.length, h, .none⟩ := fun h => by rw [ea]; exact len_sl _ _ _ (fun _ => trivial) h
  have k1 : (k == 1) = false := by simpa using hk 1 (by omega) (by omega)
  have k2 : (k == 2) = false := by simpa using hk 2 (by omega) (by omega)
  have k3 : (k == 3) = false := by simpa using hk 3 (by omega) (by omega)
  have k4 : (k == 4) = false := by simpa using hk 4 (by omega) (by omega)
  have k5 : (k == 5) = false := by simpa using hk 5 (by omega) (by omega)
  have k6 : (k == 6) = false := by simpa using hk 6 (by omega) (by omega)
  have k7 : (k == 7) = false := by simpa using hk 7 (by omega) (by omega)
  have ef : formF t = some (40, none) := by rw [et, formF, ← et, if_pos (by rw [et, kindOk]; simp only [hk 1 (by omega) (by omega), hk 2 (by omega) (by omega), hk 3 (by omega) (by omega), hk 4 (by omega) (by omega), hk 5 (by omega) (by omega), hk 6 (by omega) (by omega), hk 7 (by omega) (by omega), if_false])]
  simp only [a130, a130_0, a130_1, a130_2, a130_3, a130_5, a130_7, a130_9, a130_11, a130_13, a130_15, a130_17, Slots.ofList, wpo_u, wpc_draw, s3, reduceIte, Nat.reduceEqDiff, aBin, aInt, negIf, Option.some.injEq, exists_eq_left', Option.map_some, Option.bind_some, y1, y2, ← eh1, aFieldAddr, Nat.zero_add, l0, l6, wc_eq (we _ _ _ _), nl, al, aUn, aPick, Int.reduceBEq, Int.reduceBNe, Int.reduceEq, Nat.reduceBEq, k1, k2, k3, k4, k5, k6, k7, a130_18, Bool.not_false, wc_eq (tfault_nil _ _ _), Bool.not_false]
  exact fin1 (v := formAV p (formF t)) (by simp only [get_put, reduceIte, Nat.reduceEqDiff]; rw [ef]; rfl) (noRef_form _ _) (form_one _ _) rfl
theorem form_spec (t : Tm) (ho : t.Ok) (p : Int) (h : Heap) : WC env 130 [.agg (tc t), .int .i64 p] h (fun o => o = .ret ⟨formAV p (formF t), h, .none⟩) := by
  rcases t with ⟨k, i, s, c, nf, ns, af, ar⟩
  by_cases e1 : k = 1
  · subst e1; exact form_k1 i s c nf ns af ar ho p h
  by_cases e2 : k = 2
  · subst e2; exact form_k2 i s c nf ns af ar ho p h
  by_cases e3 : k = 3
  · subst e3; exact form_k3 i s c nf ns af ar ho p h
  by_cases e4 : k = 4
  · subst e4; exact form_k4 i s c nf ns af ar ho p h
  by_cases e5 : k = 5
  · subst e5; exact form_k5 i s c nf ns af ar ho p h
  by_cases e6 : k = 6
  · subst e6; exact form_k6 i s c nf ns af ar ho p h
  by_cases e7 : k = 7
  · subst e7; exact form_k7 i s c nf ns af ar ho p h
  exact form_k0 k i s c nf ns af ar ho (fun j h1 h2 => by omega) p h
end Go.Bf

set_option linter.unusedVariables false
set_option linter.unusedSimpArgs false
set_option maxRecDepth 20000
namespace Go.Bf
open Go.AM
theorem bare_i_s (k i : Int) (s : List UInt8) (c : Int) {nv av : AV} (b : UInt8) (l : List UInt8) (bb : Bool) (n : Nat) (cs : List AV) (hn : SN nv) (ha : SN av) : ran a83 [.agg [.int .i64 k, .int .i64 i, .str (b :: l), .int .u32 c, nv, av], .str [105]] = some (.bool false) := by
  cases hn <;> cases ha <;> kernel_rfl
theorem bare_i_c (k i : Int) (s : List UInt8) (c : Int) {nv av : AV} (b : UInt8) (l : List UInt8) (bb : Bool) (n : Nat) (cs : List AV) (hn : SN nv) (ha : SN av) (hc : c ≠ 0) : ran a83 [.agg [.int .i64 k, .int .i64 i, .str [], .int .u32 c, nv, av], .str [105]] = some (.bool false) := by
  cases hn <;> cases ha <;> (cases i0 c with
    | z => exact absurd rfl hc
    | p n => kernel_rfl
    | m n => kernel_rfl)
theorem bare_i_n (k i : Int) (s : List UInt8) (c : Int) {nv av : AV} (b : UInt8) (l : List UInt8) (bb : Bool) (n : Nat) (cs : List AV) (ha : SN av) : ran a83 [.agg [.int .i64 k, .int .i64 i, .str [], .int .u32 0, (.fs bb (n + 1) cs), av], .str [105]] = some (.bool false) := by
  cases ha <;> kernel_rfl
theorem bare_i_a (k i : Int) (s : List UInt8) (c : Int) {nv av : AV} (b : UInt8) (l : List UInt8) (bb : Bool) (n : Nat) (cs : List AV) (hn : S0 nv) : ran a83 [.agg [.int .i64 k, .int .i64 i, .str [], .int .u32 0, nv, (.fs bb (n + 1) cs)], .str [105]] = some (.bool false) := by
  cases hn <;> kernel_rfl
theorem bare_i_ok (k i : Int) (s : List UInt8) (c : Int) {nv av : AV} (hn : S0 nv) (ha : S0 av) : ran a83 [.agg [.int .i64 k, .int .i64 i, .str [], .int .u32 0, nv, av], .str [105]] = some (.bool true) := by
  cases hn <;> cases ha <;> kernel_rfl
theorem bare_i (k i : Int) (s : List UInt8) (c : Int) (nf : Option Bool) (ns : List Int) (af : Option Bool) (ar : List Tm) (h : Heap) : WC env 83 [.agg (tc (.mk k i s c nf ns af ar)), .str [105]] h (fun o => o = .ret ⟨.bool (s == [] && c == 0 && ns.length == 0 && ar.length == 0), h, .none⟩) := by
  have hn := slF nf ns.length (u32s ns)
  have ha := slF af ar.length (tcs ar)
  refine pure_run (n := 29) rfl rfl rfl (by simp only [AV.noRefs, AV.noRef, noRef_tc, Bool.and_self, Bool.true_and]) rfl ?_
  show ran a83 [.agg [.int .i64 k, .int .i64 i, .str s, .int .u32 c, slAV nf ns.length (u32s ns), slAV af ar.length (tcs ar)], .str [105]] = _
  generalize slAV nf ns.length (u32s ns) = nv at *
  generalize slAV af ar.length (tcs ar) = av at *
  cases s with
  | cons b l => rw [bare_i_s k i [] c b l false 0 [] hn.any ha.any]; simp
  | nil =>
  by_cases hc : c = 0
  case neg => rw [bare_i_c k i [] c 0 [] false 0 [] hn.any ha.any hc]; simp [hc]
  subst hc
  cases ns with
  | cons x l =>
    obtain ⟨bb, cs, rfl⟩ := SlF.succ (n := l.length) hn
    rw [bare_i_n (nv := .nils) k i [] 0 0 [] bb l.length cs ha.any]; simp
  | nil =>
  cases ar with
  | cons x l =>
    obtain ⟨bb, cs, rfl⟩ := SlF.succ (n := l.length) ha
    rw [bare_i_a (av := .nils) k i [] 0 0 [] bb l.length cs hn.zero]; simp
  | nil =>
  rw [bare_i_ok k i [] 0 hn.zero ha.zero]; simp
theorem bare_s_i (k i : Int) (s : List UInt8) (c : Int) {nv av : AV} (b : UInt8) (l : List UInt8) (bb : Bool) (n : Nat) (cs : List AV) (hn : SN nv) (ha : SN av) (hi : i ≠ 0) : ran a83 [.agg [.int .i64 k, .int .i64 i, .str s, .int .u32 c, nv, av], .str [115]] = some (.bool false) := by
  cases hn <;> cases ha <;> (cases i0 i with
    | z => exact absurd rfl hi
    | p n => kernel_rfl
    | m n => kernel_rfl)
theorem bare_s_c (k i : Int) (s : List UInt8) (c : Int) {nv av : AV} (b : UInt8) (l : List UInt8) (bb : Bool) (n : Nat) (cs : List AV) (hn : SN nv) (ha : SN av) (hc : c ≠ 0) : ran a83 [.agg [.int .i64 k, .int .i64 0, .str s, .int .u32 c, nv, av], .str [115]] = some (.bool false) := by
  cases hn <;> cases ha <;> (cases i0 c with
    | z => exact absurd rfl hc
    | p n => kernel_rfl
    | m n => kernel_rfl)
theorem bare_s_n (k i : Int) (s : List UInt8) (c : Int) {nv av : AV} (b : UInt8) (l : List UInt8) (bb : Bool) (n : Nat) (cs : List AV) (ha : SN av) : ran a83 [.agg [.int .i64 k, .int .i64 0, .str s, .int .u32 0, (.fs bb (n + 1) cs), av], .str [115]] = some (.bool false) := by
  cases ha <;> kernel_rfl
theorem bare_s_a (k i : Int) (s : List UInt8) (c : Int) {nv av : AV} (b : UInt8) (l : List UInt8) (bb : Bool) (n : Nat) (cs : List AV) (hn : S0 nv) : ran a83 [.agg [.int .i64 k, .int .i64 0, .str s, .int .u32 0, nv, (.fs bb (n + 1) cs)], .str [115]] = some (.bool false) := by
  cases hn <;> kernel_rfl
theorem bare_s_ok (k i : Int) (s : List UInt8) (c : Int) {nv av : AV} (hn : S0 nv) (ha : S0 av) : ran a83 [.agg [.int .i64 k, .int .i64 0, .str s, .int .u32 0, nv, av], .str [115]] = some (.bool true) := by
  cases hn <;> cases ha <;> kernel_rfl
theorem bare_s (k i : Int) (s : List UInt8) (c : Int) (nf : Option Bool) (ns : List Int) (af : Option Bool) (ar : List Tm) (h : Heap) : WC env 83 [.agg (tc (.mk k i s c nf ns af ar)), .str [115]] h (fun o => o = .ret ⟨.bool (i == 0 && c == 0 && ns.length == 0 && ar.length == 0), h, .none⟩) := by
  have hn := slF nf ns.length (u32s ns)
  have ha := slF af ar.length (tcs ar)
  refine pure_run (n := 29) rfl rfl rfl (by simp only [AV.noRefs, AV.noRef, noRef_tc, Bool.and_self, Bool.true_and]) rfl ?_
  show ran a83 [.agg [.int .i64 k, .int .i64 i, .str s, .int .u32 c, slAV nf ns.length (u32s ns), slAV af ar.length (tcs ar)], .str [115]] = _
  generalize slAV nf ns.length (u32s ns) = nv at *
  generalize slAV af ar.length (tcs ar) = av at *
  by_cases hi : i = 0
  case neg => rw [bare_s_i k i s c 0 [] false 0 [] hn.any ha.any hi]; simp [hi]
  subst hi
  by_cases hc : c = 0
  case neg => rw [bare_s_c k 0 s c 0 [] false 0 [] hn.any ha.any hc]; simp [hc]
  subst hc
  cases ns with
  | cons x l =>
    obtain ⟨bb, cs, rfl⟩ := SlF.succ (n := l.length) hn
    rw [bare_s_n (nv := .nils) k 0 s 0 0 [] bb l.length cs ha.any]; simp
  | nil =>
  cases ar with
  | cons x l =>
    obtain ⟨bb, cs, rfl⟩ := SlF.succ (n := l.length) ha
    rw [bare_s_a (av := .nils) k 0 s 0 0 [] bb l.length cs hn.zero]; simp
  | nil =>
  rw [bare_s_ok k 0 s 0 hn.zero ha.zero]; simp
theorem bare_scn_i (k i : Int) (s : List UInt8) (c : Int) {nv av : AV} (b : UInt8) (l : List UInt8) (bb : Bool) (n : Nat) (cs : List AV) (hn : SN nv) (ha : SN av) (hi : i ≠ 0) : ran a83 [.agg [.int .i64 k, .int .i64 i, .str s, .int .u32 c, nv, av], .str [115, 99, 110]] = some (.bool false) := by
  cases hn <;> cases ha <;> (cases i0 i with
    | z => exact absurd rfl hi
    | p n => kernel_rfl
    | m n => kernel_rfl)
theorem bare_scn_a (k i : Int) (s : List UInt8) (c : Int) {nv av : AV} (b : UInt8) (l : List UInt8) (bb : Bool) (n : Nat) (cs : List AV) (hn : SN nv) : ran a83 [.agg [.int .i64 k, .int .i64 0, .str s, .int .u32 c, nv, (.fs bb (n + 1) cs)], .str [115, 99, 110]] = some (.bool false) := by
  cases hn <;> kernel_rfl
theorem bare_scn_ok (k i : Int) (s : List UInt8) (c : Int) {nv av : AV} (hn : SN nv) (ha : S0 av) : ran a83 [.agg [.int .i64 k, .int .i64 0, .str s, .int .u32 c, nv, av], .str [115, 99, 110]] = some (.bool true) := by
  cases hn <;> cases ha <;> kernel_rfl
theorem bare_scn (k i : Int) (s : List UInt8) (c : Int) (nf : Option Bool) (ns : List Int) (af : Option Bool) (ar : List Tm) (h : Heap) : WC env 83 [.agg (tc (.mk k i s c nf ns af ar)), .str [115, 99, 110]] h (fun o => o = .ret ⟨.bool (i == 0 && ar.length == 0), h, .none⟩) := by
  have hn := slF nf ns.length (u32s ns)
  have ha := slF af ar.length (tcs ar)
  refine pure_run (n := 29) rfl rfl rfl (by simp only [AV.noRefs, AV.noRef, noRef_tc, Bool.and_self, Bool.true_and]) rfl ?_
  show ran a83 [.agg [.int .i64 k, .int .i64 i, .str s, .int .u32 c, slAV nf ns.length (u32s ns), slAV af ar.length (tcs ar)], .str [115, 99, 110]] = _
  generalize slAV nf ns.length (u32s ns) = nv at *
  generalize slAV af ar.length (tcs ar) = av at *
  by_cases hi : i = 0
  case neg => rw [bare_scn_i k i s c 0 [] false 0 [] hn.any ha.any hi]; simp [hi]
  subst hi
  cases ar with
  | cons x l =>
    obtain ⟨bb, cs, rfl⟩ := SlF.succ (n := l.length) ha
    rw [bare_scn_a (av := .nils) k 0 s c 0 [] bb l.length cs hn.any]; simp
  | nil =>
  rw [bare_scn_ok k 0 s c hn.any ha.zero]; simp
theorem bare_a_i (k i : Int) (s : List UInt8) (c : Int) {nv av : AV} (b : UInt8) (l : List UInt8) (bb : Bool) (n : Nat) (cs : List AV) (hn : SN nv) (ha : SN av) (hi : i ≠ 0) : ran a83 [.agg [.int .i64 k, .int .i64 i, .str s, .int .u32 c, nv, av], .str [97]] = some (.bool false) := by
  cases hn <;> cases ha <;> (cases i0 i with
    | z => exact absurd rfl hi
    | p n => kernel_rfl
    | m n => kernel_rfl)
theorem bare_a_s (k i : Int) (s : List UInt8) (c : Int) {nv av : AV} (b : UInt8) (l : List UInt8) (bb : Bool) (n : Nat) (cs : List AV) (hn : SN nv) (ha : SN av) : ran a83 [.agg [.int .i64 k, .int .i64 0, .str (b :: l), .int .u32 c, nv, av], .str [97]] = some (.bool false) := by
  cases hn <;> cases ha <;> kernel_rfl
theorem bare_a_c (k i : Int) (s : List UInt8) (c : Int) {nv av : AV} (b : UInt8) (l : List UInt8) (bb : Bool) (n : Nat) (cs : List AV) (hn : SN nv) (ha : SN av) (hc : c ≠ 0) : ran a83 [.agg [.int .i64 k, .int .i64 0, .str [], .int .u32 c, nv, av], .str [97]] = some (.bool false) := by
  cases hn <;> cases ha <;> (cases i0 c with
    | z => exact absurd rfl hc
    | p n => kernel_rfl
    | m n => kernel_rfl)
theorem bare_a_n (k i : Int) (s : List UInt8) (c : Int) {nv av : AV} (b : UInt8) (l : List UInt8) (bb : Bool) (n : Nat) (cs : List AV) (ha : SN av) : ran a83 [.agg [.int .i64 k, .int .i64 0, .str [], .int .u32 0, (.fs bb (n + 1) cs), av], .str [97]] = some (.bool false) := by
  cases ha <;> kernel_rfl
theorem bare_a_ok (k i : Int) (s : List UInt8) (c : Int) {nv av : AV} (hn : S0 nv) (ha : SN av) : ran a83 [.agg [.int .i64 k, .int .i64 0, .str [], .int .u32 0, nv, av], .str [97]] = some (.bool true) := by
  cases hn <;> cases ha <;> kernel_rfl
theorem bare_a (k i : Int) (s : List UInt8) (c : Int) (nf : Option Bool) (ns : List Int) (af : Option Bool) (ar : List Tm) (h : Heap) : WC env 83 [.agg (tc (.mk k i s c nf ns af ar)), .str [97]] h (fun o => o = .ret ⟨.bool (i == 0 && s == [] && c == 0 && ns.length == 0), h, .none⟩) := by
  have hn := slF nf ns.length (u32s ns)
  have ha := slF af ar.length (tcs ar)
  refine pure_run (n := 29) rfl rfl rfl (by simp only [AV.noRefs, AV.noRef, noRef_tc, Bool.and_self, Bool.true_and]) rfl ?_
  show ran a83 [.agg [.int .i64 k, .int .i64 i, .str s, .int .u32 c, slAV nf ns.length (u32s ns), slAV af ar.length (tcs ar)], .str [97]] = _
  generalize slAV nf ns.length (u32s ns) = nv at *
  generalize slAV af ar.length (tcs ar) = av at *
  by_cases hi : i = 0
  case neg => rw [bare_a_i k i s c 0 [] false 0 [] hn.any ha.any hi]; simp [hi]
  subst hi
  cases s with
  | cons b l => rw [bare_a_s k 0 [] c b l false 0 [] hn.any ha.any]; simp
  | nil =>
  by_cases hc : c = 0
  case neg => rw [bare_a_c k 0 [] c 0 [] false 0 [] hn.any ha.any hc]; simp [hc]
  subst hc
  cases ns with
  | cons x l =>
    obtain ⟨bb, cs, rfl⟩ := SlF.succ (n := l.length) hn
    rw [bare_a_n (nv := .nils) k 0 [] 0 0 [] bb l.length cs ha.any]; simp
  | nil =>
  rw [bare_a_ok k 0 [] 0 hn.zero ha.any]; simp
theorem bare_z_i (k i : Int) (s : List UInt8) (c : Int) {nv av : AV} (b : UInt8) (l : List UInt8) (bb : Bool) (n : Nat) (cs : List AV) (hn : SN nv) (ha : SN av) (hi : i ≠ 0) : ran a83 [.agg [.int .i64 k, .int .i64 i, .str s, .int .u32 c, nv, av], .str []] = some (.bool false) := by
  cases hn <;> cases ha <;> (cases i0 i with
    | z => exact absurd rfl hi
    | p n => kernel_rfl
    | m n => kernel_rfl)
theorem bare_z_s (k i : Int) (s : List UInt8) (c : Int) {nv av : AV} (b : UInt8) (l : List UInt8) (bb : Bool) (n : Nat) (cs : List AV) (hn : SN nv) (ha : SN av) : ran a83 [.agg [.int .i64 k, .int .i64 0, .str (b :: l), .int .u32 c, nv, av], .str []] = some (.bool false) := by
  cases hn <;> cases ha <;> kernel_rfl
theorem bare_z_c (k i : Int) (s : List UInt8) (c : Int) {nv av : AV} (b : UInt8) (l : List UInt8) (bb : Bool) (n : Nat) (cs : List AV) (hn : SN nv) (ha : SN av) (hc : c ≠ 0) : ran a83 [.agg [.int .i64 k, .int .i64 0, .str [], .int .u32 c, nv, av], .str []] = some (.bool false) := by
  cases hn <;> cases ha <;> (cases i0 c with
    | z => exact absurd rfl hc
    | p n => kernel_rfl
    | m n => kernel_rfl)
theorem bare_z_n (k i : Int) (s : List UInt8) (c : Int) {nv av : AV} (b : UInt8) (l : List UInt8) (bb : Bool) (n : Nat) (cs : List AV) (ha : SN av) : ran a83 [.agg [.int .i64 k, .int .i64 0, .str [], .int .u32 0, (.fs bb (n + 1) cs), av], .str []] = some (.bool false) := by
  cases ha <;> kernel_rfl
theorem bare_z_a (k i : Int) (s : List UInt8) (c : Int) {nv av : AV} (b : UInt8) (l : List UInt8) (bb : Bool) (n : Nat) (cs : List AV) (hn : S0 nv) : ran a83 [.agg [.int .i64 k, .int .i64 0, .str [], .int .u32 0, nv, (.fs bb (n + 1) cs)], .str []] = some (.bool false) := by
  cases hn <;> kernel_rfl
theorem bare_z_ok (k i : Int) (s : List UInt8) (c : Int) {nv av : AV} (hn : S0 nv) (ha : S0 av) : ran a83 [.agg [.int .i64 k, .int .i64 0, .str [], .int .u32 0, nv, av], .str []] = some (.bool true) := by
  cases hn <;> cases ha <;> kernel_rfl
theorem bare_z (k i : Int) (s : List UInt8) (c : Int) (nf : Option Bool) (ns : List Int) (af : Option Bool) (ar : List Tm) (h : Heap) : WC env 83 [.agg (tc (.mk k i s c nf ns af ar)), .str []] h (fun o => o = .ret ⟨.bool (i == 0 && s == [] && c == 0 && ns.length == 0 && ar.length == 0), h, .none⟩) := by
  have hn := slF nf ns.length (u32s ns)
  have ha := slF af ar.length (tcs ar)
  refine pure_run (n := 29) rfl rfl rfl (by simp only [AV.noRefs, AV.noRef, noRef_tc, Bool.and_self, Bool.true_and]) rfl ?_
  show ran a83 [.agg [.int .i64 k, .int .i64 i, .str s, .int .u32 c, slAV nf ns.length (u32s ns), slAV af ar.length (tcs ar)], .str []] = _
  generalize slAV nf ns.length (u32s ns) = nv at *
  generalize slAV af ar.length (tcs ar) = av at *
  by_cases hi : i = 0
  case neg => rw [bare_z_i k i s c 0 [] false 0 [] hn.any ha.any hi]; simp [hi]
  subst hi
  cases s with
  | cons b l => rw [bare_z_s k 0 [] c b l false 0 [] hn.any ha.any]; simp
  | nil =>
  by_cases hc : c = 0
  case neg => rw [bare_z_c k 0 [] c 0 [] false 0 [] hn.any ha.any hc]; simp [hc]
  subst hc
  cases ns with
  | cons x l =>
    obtain ⟨bb, cs, rfl⟩ := SlF.succ (n := l.length) hn
    rw [bare_z_n (nv := .nils) k 0 [] 0 0 [] bb l.length cs ha.any]; simp
  | nil =>
  cases ar with
  | cons x l =>
    obtain ⟨bb, cs, rfl⟩ := SlF.succ (n := l.length) ha
    rw [bare_z_a (av := .nils) k 0 [] 0 0 [] bb l.length cs hn.zero]; simp
  | nil =>
  rw [bare_z_ok k 0 [] 0 hn.zero ha.zero]; simp
theorem rform_k1 (i : Int) (s : List UInt8) (c : Int) (nf : Option Bool) (ns : List Int) (af : Option Bool) (ar : List Tm) (ho : Tm.Ok (.mk 1 i s c nf ns af ar)) (h : Heap) : WC env 49 [.agg (tc (.mk 1 i s c nf ns af ar))] h (fun o => o = .ret ⟨.bool (kindOk (.mk 1 i s c nf ns af ar)), h, .none⟩) := by
  obtain ⟨ss, sn, sa, _⟩ := ho.lens
  refine call_pure rfl rfl rfl (by simp only [AV.noRefs, AV.noRef, noRef_tc, Bool.and_self]) ?_
  obtain ⟨t, et⟩ : ∃ t : Tm, t = (.mk 1 i s c nf ns af ar) := ⟨_, rfl⟩
  obtain ⟨cs, ec⟩ : ∃ cs, cs = tc t := ⟨_, rfl⟩
  obtain ⟨nv, en⟩ : ∃ nv, nv = slAV nf ns.length (u32s ns) := ⟨_, rfl⟩
  obtain ⟨av, ea⟩ : ∃ av, av = slAV af ar.length (tcs ar) := ⟨_, rfl⟩
  have ec' : cs = [.int .i64 1, .int .i64 i, .str s, .int .u32 c, nv, av] := by rw [ec, et, en, ea]; rfl
  obtain ⟨h1, eh1⟩ : ∃ h1, h1 = Heap.empty.new cs := ⟨_, rfl⟩
  have a1 : h1.at_ Heap.empty.next 0 = some [.int .i64 1, .int .i64 i, .str s, .int .u32 c, nv, av] := by rw [← ec', eh1]; exact at_new _
  rw [← et, ← ec]
  have y1 : (AV.agg cs).row = some cs := rfl
  have y2 : cs.length = 6 := by rw [ec']; rfl
  have l0 := ld60 a1
  have l4 := ld64 a1
  have l5 := ld65 a1
  have l6 : aLoad h1 true 6 (.ptr Heap.empty.next 0 0) = some ⟨.agg cs, h1, .read⟩ := by rw [ec']; exact ld6 a1
  have nl : ∀ h, aLenOp false h nv = some ⟨.int .i64 ns.length, h, .none⟩ := fun h => by rw [en]; exact len_sl _ _ _ (fun _ => trivial) h
  have al : ∀ h, aLenOp false h av = some ⟨.int .i64 ar.length, h, .none⟩ := fun h => by rw [ea]; exact len_sl _ _ _ (fun _ => trivial) h
  obtain ⟨x, ex⟩ : ∃ x : Bool, x = (s == [] && c == 0 && ns.length == 0 && ar.length == 0) := ⟨_, rfl⟩
  have wb : ∀ h, WC env 83 [.agg cs, .str [105]] h (fun o => o = .ret ⟨.bool x, h, .none⟩) := fun h => by rw [ec, et, ex]; exact bare_i 1 i s c nf ns af ar h
  have xe : emptyF t false false false = x := by
    rw [et, emptyF, ex]
    cases h1 : (i == 0) <;> cases h2 : (s == []) <;> cases h3 : (c == 0) <;> cases h4 : (ns.length == 0) <;> cases h5 : (ar.length == 0) <;> simp
  have ek : kindOk t = x := by rw [et, kindOk, ← et]; simp [xe]
  simp only [a49, a49_0, a49_1, a49_2, Slots.ofList, wpo_u, wpc_draw, s3, reduceIte, Nat.reduceEqDiff, aBin, aInt, negIf, Option.some.injEq, exists_eq_left', Option.map_some, Option.bind_some, y1, y2, ← eh1, aFieldAddr, Nat.zero_add, l0, l6, nl, al, aPick, Int.reduceBEq, Int.reduceBNe, a49_3, wc_eq (wb _)]
  exact pureB (by simp only [get_put, reduceIte, Nat.reduceEqDiff]; rw [ek]) rfl
theorem rform_k2 (i : Int) (s : List UInt8) (c : Int) (nf : Option Bool) (ns : List Int) (af : Option Bool) (ar : List Tm) (ho : Tm.Ok (.mk 2 i s c nf ns af ar)) (h : Heap) : WC env 49 [.agg (tc (.mk 2 i s c nf ns af ar))] h (fun o => o = .ret ⟨.bool (kindOk (.mk 2 i s c nf ns af ar)), h, .none⟩) := by
  obtain ⟨ss, sn, sa, _⟩ := ho.lens
  refine call_pure rfl rfl rfl (by simp only [AV.noRefs, AV.noRef, noRef_tc, Bool.and_self]) ?_
  obtain ⟨t, et⟩ : ∃ t : Tm, t = (.mk 2 i s c nf ns af ar) := ⟨_, rfl⟩
  obtain ⟨cs, ec⟩ : ∃ cs, cs = tc t := ⟨_, rfl⟩
  obtain ⟨nv, en⟩ : ∃ nv, nv = slAV nf ns.length (u32s ns) := ⟨_, rfl⟩
  obtain ⟨av, ea⟩ : ∃ av, av = slAV af ar.length (tcs ar) := ⟨_, rfl⟩
  have ec' : cs = [.int .i64 2, .int .i64 i, .str s, .int .u32 c, nv, av] := by rw [ec, et, en, ea]; rfl
  obtain ⟨h1, eh1⟩ : ∃ h1, h1 = Heap.empty.new cs := ⟨_, rfl⟩
  have a1 : h1.at_ Heap.empty.next 0 = some [.int .i64 2, .int .i64 i, .str s, .int .u32 c, nv, av] := by rw [← ec', eh1]; exact at_new _
  rw [← et, ← ec]
  have y1 : (AV.agg cs).row = some cs := rfl
  have y2 : cs.length = 6 := by rw [ec']; rfl
  have l0 := ld60 a1
  have l4 := ld64 a1
  have l5 := ld65 a1
  have l6 : aLoad h1 true 6 (.ptr Heap.empty.next 0 0) = some ⟨.agg cs, h1, .read⟩ := by rw [ec']; exact ld6 a1
  have nl : ∀ h, aLenOp false h nv = some ⟨.int .i64 ns.length, h, .none⟩ := fun h => by rw [en]; exact len_sl _ _ _ (fun _ => trivial) h
  have al : ∀ h, aLenOp false h av = some ⟨.int .i64 ar.length, h, .none⟩ := fun h => by rw [ea]; exact len_sl _ _ _ (fun _ => trivial) h
  obtain ⟨x, ex⟩ : ∃ x : Bool, x = (i == 0 && c == 0 && ns.length == 0 && ar.length == 0) := ⟨_, rfl⟩
  have wb : ∀ h, WC env 83 [.agg cs, .str [115]] h (fun o => o = .ret ⟨.bool x, h, .none⟩) := fun h => by rw [ec, et, ex]; exact bare_s 2 i s c nf ns af ar h
  have xe : emptyF t true false false = x := by
    rw [et, emptyF, ex]
    cases h1 : (i == 0) <;> cases h2 : (s == []) <;> cases h3 : (c == 0) <;> cases h4 : (ns.length == 0) <;> cases h5 : (ar.length == 0) <;> simp
  have ek : kindOk t = x := by rw [et, kindOk, ← et]; simp [xe]
  simp only [a49, a49_0, a49_1, a49_2, a49_4, Slots.ofList, wpo_u, wpc_draw, s3, reduceIte, Nat.reduceEqDiff, aBin, aInt, negIf, Option.some.injEq, exists_eq_left', Option.map_some, Option.bind_some, y1, y2, ← eh1, aFieldAddr, Nat.zero_add, l0, l6, nl, al, aPick, Int.reduceBEq, Int.reduceBNe, a49_5, wc_eq (wb _)]
  exact pureB (by simp only [get_put, reduceIte, Nat.reduceEqDiff]; rw [ek]) rfl
theorem rform_k3 (i : Int) (s : List UInt8) (c : Int) (nf : Option Bool) (ns : List Int) (af : Option Bool) (ar : List Tm) (ho : Tm.Ok (.mk 3 i s c nf ns af ar)) (h : Heap) : WC env 49 [.agg (tc (.mk 3 i s c nf ns af ar))] h (fun o => o = .ret ⟨.bool (kindOk (.mk 3 i s c nf ns af ar)), h, .none⟩) := by
  obtain ⟨ss, sn, sa, _⟩ := ho.lens
  refine call_pure rfl rfl rfl (by simp only [AV.noRefs, AV.noRef, noRef_tc, Bool.and_self]) ?_
  obtain ⟨t, et⟩ : ∃ t : Tm, t = (.mk 3 i s c nf ns af ar) := ⟨_, rfl⟩
  obtain ⟨cs, ec⟩ : ∃ cs, cs = tc t := ⟨_, rfl⟩
  obtain ⟨nv, en⟩ : ∃ nv, nv = slAV nf ns.length (u32s ns) := ⟨_, rfl⟩
  obtain ⟨av, ea⟩ : ∃ av, av = slAV af ar.length (tcs ar) := ⟨_, rfl⟩
  have ec' : cs = [.int .i64 3, .int .i64 i, .str s, .int .u32 c, nv, av] := by rw [ec, et, en, ea]; rfl
  obtain ⟨h1, eh1⟩ : ∃ h1, h1 = Heap.empty.new cs := ⟨_, rfl⟩
  have a1 : h1.at_ Heap.empty.next 0 = some [.int .i64 3, .int .i64 i, .str s, .int .u32 c, nv, av] := by rw [← ec', eh1]; exact at_new _
  rw [← et, ← ec]
  have y1 : (AV.agg cs).row = some cs := rfl
  have y2 : cs.length = 6 := by rw [ec']; rfl
  have l0 := ld60 a1
  have l4 := ld64 a1
  have l5 := ld65 a1
  have l6 : aLoad h1 true 6 (.ptr Heap.empty.next 0 0) = some ⟨.agg cs, h1, .read⟩ := by rw [ec']; exact ld6 a1
  have nl : ∀ h, aLenOp false h nv = some ⟨.int .i64 ns.length, h, .none⟩ := fun h => by rw [en]; exact len_sl _ _ _ (fun _ => trivial) h
  have al : ∀ h, aLenOp false h av = some ⟨.int .i64 ar.length, h, .none⟩ := fun h => by rw [ea]; exact len_sl _ _ _ (fun _ => trivial) h
  obtain ⟨x, ex⟩ : ∃ x : Bool, x = (i == 0 && ar.length == 0) := ⟨_, rfl⟩
  have wb : ∀ h, WC env 83 [.agg cs, .str [115, 99, 110]] h (fun o => o = .ret ⟨.bool x, h, .none⟩) := fun h => by rw [ec, et, ex]; exact bare_scn 3 i s c nf ns af ar h
  have xe : emptyF t true true false = x := by
    rw [et, emptyF, ex]
    cases h1 : (i == 0) <;> cases h2 : (s == []) <;> cases h3 : (c == 0) <;> cases h4 : (ns.length == 0) <;> cases h5 : (ar.length == 0) <;> simp
  have ek : kindOk t = (x && ns.length == 3) := by rw [et, kindOk, ← et]; simp [xe]
  cases x with
  | false =>
    simp only [a49, a49_0, a49_1, a49_2, a49_4, a49_6, Slots.ofList, wpo_u, wpc_draw, s3, reduceIte, Nat.reduceEqDiff, aBin, aInt, negIf, Option.some.injEq, exists_eq_left', Option.map_some, Option.bind_some, y1, y2, ← eh1, aFieldAddr, Nat.zero_add, l0, l6, nl, al, aPick, Int.reduceBEq, Int.reduceBNe, a49_7, wc_eq (wb _)]
    exact pureB (by simp only [get_put, reduceIte, Nat.reduceEqDiff]; rw [ek]; rfl) rfl
  | true =>
    have z : ((ns.length : Int) == 3) = (ns.length == 3) := by
      cases e2 : (ns.length == 3) with
      | true => have := eq_of_beq e2; simp [this]
      | false => simp at e2; simp; omega
    simp only [a49, a49_0, a49_1, a49_2, a49_4, a49_6, Slots.ofList, wpo_u, wpc_draw, s3, reduceIte, Nat.reduceEqDiff, aBin, aInt, negIf, Option.some.injEq, exists_eq_left', Option.map_some, Option.bind_some, y1, y2, ← eh1, aFieldAddr, Nat.zero_add, l0, l6, nl, al, aPick, Int.reduceBEq, Int.reduceBNe, a49_7, wc_eq (wb _), l4, z]
    exact pureB (by simp only [get_put, reduceIte, Nat.reduceEqDiff]; rw [ek]; rfl) rfl
theorem rform_k4 (i : Int) (s : List UInt8) (c : Int) (nf : Option Bool) (ns : List Int) (af : Option Bool) (ar : List Tm) (ho : Tm.Ok (.mk 4 i s c nf ns af ar)) (h : Heap) : WC env 49 [.agg (tc (.mk 4 i s c nf ns af ar))] h (fun o => o = .ret ⟨.bool (kindOk (.mk 4 i s c nf ns af ar)), h, .none⟩) := by
  obtain ⟨ss, sn, sa, _⟩ := ho.lens
  refine call_pure rfl rfl rfl (by simp only [AV.noRefs, AV.noRef, noRef_tc, Bool.and_self]) ?_
  obtain ⟨t, et⟩ : ∃ t : Tm, t = (.mk 4 i s c nf ns af ar) := ⟨_, rfl⟩
  obtain ⟨cs, ec⟩ : ∃ cs, cs = tc t := ⟨_, rfl⟩
  obtain ⟨nv, en⟩ : ∃ nv, nv = slAV nf ns.length (u32s ns) := ⟨_, rfl⟩
  obtain ⟨av, ea⟩ : ∃ av, av = slAV af ar.length (tcs ar) := ⟨_, rfl⟩
  have ec' : cs = [.int .i64 4, .int .i64 i, .str s, .int .u32 c, nv, av] := by rw [ec, et, en, ea]; rfl
  obtain ⟨h1, eh1⟩ : ∃ h1, h1 = Heap.empty.new cs := ⟨_, rfl⟩
  have a1 : h1.at_ Heap.empty.next 0 = some [.int .i64 4, .int .i64 i, .str s, .int .u32 c, nv, av] := by rw [← ec', eh1]; exact at_new _
  rw [← et, ← ec]
  have y1 : (AV.agg cs).row = some cs := rfl
  have y2 : cs.length = 6 := by rw [ec']; rfl
  have l0 := ld60 a1
  have l4 := ld64 a1
  have l5 := ld65 a1
  have l6 : aLoad h1 true 6 (.ptr Heap.empty.next 0 0) = some ⟨.agg cs, h1, .read⟩ := by rw [ec']; exact ld6 a1
  have nl : ∀ h, aLenOp false h nv = some ⟨.int .i64 ns.length, h, .none⟩ := fun h => by rw [en]; exact len_sl _ _ _ (fun _ => trivial) h
  have al : ∀ h, aLenOp false h av = some ⟨.int .i64 ar.length, h, .none⟩ := fun h => by rw [ea]; exact len_sl _ _ _ (fun _ => trivial) h
  obtain ⟨x, ex⟩ : ∃ x : Bool, x = (i == 0 && ar.length == 0) := ⟨_, rfl⟩
  have wb : ∀ h, WC env 83 [.agg cs, .str [115, 99, 110]] h (fun o => o = .ret ⟨.bool x, h, .none⟩) := fun h => by rw [ec, et, ex]; exact bare_scn 4 i s c nf ns af ar h
  have xe : emptyF t true true false = x := by
    rw [et, emptyF, ex]
    cases h1 : (i == 0) <;> cases h2 : (s == []) <;> cases h3 : (c == 0) <;> cases h4 : (ns.length == 0) <;> cases h5 : (ar.length == 0) <;> simp
  have ek : kindOk t = (x && ns.length == 2) := by rw [et, kindOk, ← et]; simp [xe]
  cases x with
  | false =>
    simp only [a49, a49_0, a49_1, a49_2, a49_4, a49_6, a49_8, Slots.ofList, wpo_u, wpc_draw, s3, reduceIte, Nat.reduceEqDiff, aBin, aInt, negIf, Option.some.injEq, exists_eq_left', Option.map_some, Option.bind_some, y1, y2, ← eh1, aFieldAddr, Nat.zero_add, l0, l6, nl, al, aPick, Int.reduceBEq, Int.reduceBNe, a49_9, wc_eq (wb _)]
    exact pureB (by simp only [get_put, reduceIte, Nat.reduceEqDiff]; rw [ek]; rfl) rfl
  | true =>
    have z : ((ns.length : Int) == 2) = (ns.length == 2) := by
      cases e2 : (ns.length == 2) with
      | true => have := eq_of_beq e2; simp [this]
      | false => simp at e2; simp; omega
    simp only [a49, a49_0, a49_1, a49_2, a49_4, a49_6, a49_8, Slots.ofList, wpo_u, wpc_draw, s3, reduceIte, Nat.reduceEqDiff, aBin, aInt, negIf, Option.some.injEq, exists_eq_left', Option.map_some, Option.bind_some, y1, y2, ← eh1, aFieldAddr, Nat.zero_add, l0, l6, nl, al, aPick, Int.reduceBEq, Int.reduceBNe, a49_9, wc_eq (wb _), l4, z]
    exact pureB (by simp only [get_put, reduceIte, Nat.reduceEqDiff]; rw [ek]; rfl) rfl
theorem rform_k5 (i : Int) (s : List UInt8) (c : Int) (nf : Option Bool) (ns : List Int) (af : Option Bool) (ar : List Tm) (ho : Tm.Ok (.mk 5 i s c nf ns af ar)) (h : Heap) : WC env 49 [.agg (tc (.mk 5 i s c nf ns af ar))] h (fun o => o = .ret ⟨.bool (kindOk (.mk 5 i s c nf ns af ar)), h, .none⟩) := by
  obtain ⟨ss, sn, sa, _⟩ := ho.lens
  refine call_pure rfl rfl rfl (by simp only [AV.noRefs, AV.noRef, noRef_tc, Bool.and_self]) ?_
  obtain ⟨t, et⟩ : ∃ t : Tm, t = (.mk 5 i s c nf ns af ar) := ⟨_, rfl⟩
  obtain ⟨cs, ec⟩ : ∃ cs, cs = tc t := ⟨_, rfl⟩
  obtain ⟨nv, en⟩ : ∃ nv, nv = slAV nf ns.length (u32s ns) := ⟨_, rfl⟩
  obtain ⟨av, ea⟩ : ∃ av, av = slAV af ar.length (tcs ar) := ⟨_, rfl⟩
  have ec' : cs = [.int .i64 5, .int .i64 i, .str s, .int .u32 c, nv, av] := by rw [ec, et, en, ea]; rfl
  obtain ⟨h1, eh1⟩ : ∃ h1, h1 = Heap.empty.new cs := ⟨_, rfl⟩
  have a1 : h1.at_ Heap.empty.next 0 = some [.int .i64 5, .int .i64 i, .str s, .int .u32 c, nv, av] := by rw [← ec', eh1]; exact at_new _
  rw [← et, ← ec]
  have y1 : (AV.agg cs).row = some cs := rfl
  have y2 : cs.length = 6 := by rw [ec']; rfl
  have l0 := ld60 a1
  have l4 := ld64 a1
  have l5 := ld65 a1
  have l6 : aLoad h1 true 6 (.ptr Heap.empty.next 0 0) = some ⟨.agg cs, h1, .read⟩ := by rw [ec']; exact ld6 a1
  have nl : ∀ h, aLenOp false h nv = some ⟨.int .i64 ns.length, h, .none⟩ := fun h => by rw [en]; exact len_sl _ _ _ (fun _ => trivial) h
  have al : ∀ h, aLenOp false h av = some ⟨.int .i64 ar.length, h, .none⟩ := fun h => by rw [ea]; exact len_sl _ _ _ (fun _ => trivial) h
  obtain ⟨x, ex⟩ : ∃ x : Bool, x = (i == 0 && s == [] && c == 0 && ns.length == 0) := ⟨_, rfl⟩
  have wb : ∀ h, WC env 83 [.agg cs, .str [97]] h (fun o => o = .ret ⟨.bool x, h, .none⟩) := fun h => by rw [ec, et, ex]; exact bare_a 5 i s c nf ns af ar h
  have xe : emptyF t false false true = x := by
    rw [et, emptyF, ex]
    cases h1 : (i == 0) <;> cases h2 : (s == []) <;> cases h3 : (c == 0) <;> cases h4 : (ns.length == 0) <;> cases h5 : (ar.length == 0) <;> simp
  have ek : kindOk t = x := by rw [et, kindOk, ← et]; simp [xe]
  simp only [a49, a49_0, a49_1, a49_2, a49_4, a49_6, a49_8, a49_10, Slots.ofList, wpo_u, wpc_draw, s3, reduceIte, Nat.reduceEqDiff, aBin, aInt, negIf, Option.some.injEq, exists_eq_left', Option.map_some, Option.bind_some, y1, y2, ← eh1, aFieldAddr, Nat.zero_add, l0, l6, nl, al, aPick, Int.reduceBEq, Int.reduceBNe, a49_11, wc_eq (wb _)]
  exact pureB (by simp only [get_put, reduceIte, Nat.reduceEqDiff]; rw [ek]) rfl
theorem rform_k6 (i : Int) (s : List UInt8) (c : Int) (nf : Option Bool) (ns : List Int) (af : Option Bool) (ar : List Tm) (ho : Tm.Ok (.mk 6 i s c nf ns af ar)) (h : Heap) : WC env 49 [.agg (tc (.mk 6 i s c nf ns af ar))] h (fun o => o = .ret ⟨.bool (kindOk (.mk 6 i s c nf ns af ar)), h, .none⟩) := by
  obtain ⟨ss, sn, sa, _⟩ := ho.lens
  refine call_pure rfl rfl rfl (by simp only [AV.noRefs, AV.noRef, noRef_tc, Bool.and_self]) ?_
  obtain ⟨t, et⟩ : ∃ t : Tm, t = (.mk 6 i s c nf ns af ar) := ⟨_, rfl⟩
  obtain ⟨cs, ec⟩ : ∃ cs, cs = tc t := ⟨_, rfl⟩
  obtain ⟨nv, en⟩ : ∃ nv, nv = slAV nf ns.length (u32s ns) := ⟨_, rfl⟩
  obtain ⟨av, ea⟩ : ∃ av, av = slAV af ar.length (tcs ar) := ⟨_, rfl⟩
  have ec' : cs = [.int .i64 6, .int .i64 i, .str s, .int .u32 c, nv, av] := by rw [ec, et, en, ea]; rfl
  obtain ⟨h1, eh1⟩ : ∃ h1, h1 = Heap.empty.new cs := ⟨_, rfl⟩
  have a1 : h1.at_ Heap.empty.next 0 = some [.int .i64 6, .int .i64 i, .str s, .int .u32 c, nv, av] := by rw [← ec', eh1]; exact at_new _
  rw [← et, ← ec]
  have y1 : (AV.agg cs).row = some cs := rfl
  have y2 : cs.length = 6 := by rw [ec']; rfl
  have l0 := ld60 a1
  have l4 := ld64 a1
  have l5 := ld65 a1
  have l6 : aLoad h1 true 6 (.ptr Heap.empty.next 0 0) = some ⟨.agg cs, h1, .read⟩ := by rw [ec']; exact ld6 a1
  have nl : ∀ h, aLenOp false h nv = some ⟨.int .i64 ns.length, h, .none⟩ := fun h => by rw [en]; exact len_sl _ _ _ (fun _ => trivial) h
  have al : ∀ h, aLenOp false h av = some ⟨.int .i64 ar.length, h, .none⟩ := fun h => by rw [ea]; exact len_sl _ _ _ (fun _ => trivial) h
  obtain ⟨x, ex⟩ : ∃ x : Bool, x = (i == 0 && s == [] && c == 0 && ns.length == 0 && ar.length == 0) := ⟨_, rfl⟩
  have wb : ∀ h, WC env 83 [.agg cs, .str []] h (fun o => o = .ret ⟨.bool x, h, .none⟩) := fun h => by rw [ec, et, ex]; exact bare_z 6 i s c nf ns af ar h
  have xe : emptyF t false false false = x := by
    rw [et, emptyF, ex]
    cases h1 : (i == 0) <;> cases h2 : (s == []) <;> cases h3 : (c == 0) <;> cases h4 : (ns.length == 0) <;> cases h5 : (ar.length == 0) <;> simp
  have ek : kindOk t = x := by rw [et, kindOk, ← et]; simp [xe]
  simp only [a49, a49_0, a49_1, a49_2, a49_4, a49_6, a49_8, a49_10, a49_12, Slots.ofList, wpo_u, wpc_draw, s3, reduceIte, Nat.reduceEqDiff, aBin, aInt, negIf, Option.some.injEq, exists_eq_left', Option.map_some, Option.bind_some, y1, y2, ← eh1, aFieldAddr, Nat.zero_add, l0, l6, nl, al, aPick, Int.reduceBEq, Int.reduceBNe, a49_13, wc_eq (wb _)]
  exact pureB (by simp only [get_put, reduceIte, Nat.reduceEqDiff]; rw [ek]) rfl
theorem rform_k7 (i : Int) (s : List UInt8) (c : Int) (nf : Option Bool) (ns : List Int) (af : Option Bool) (ar : List Tm) (ho : Tm.Ok (.mk 7 i s c nf ns af ar)) (h : Heap) : WC env 49 [.agg (tc (.mk 7 i s c nf ns af ar))] h (fun o => o = .ret ⟨.bool (kindOk (.mk 7 i s c nf ns af ar)), h, .none⟩) := by
  obtain ⟨ss, sn, sa, _⟩ := ho.lens
  refine call_pure rfl rfl rfl (by simp only [AV.noRefs, AV.noRef, noRef_tc, Bool.and_self]) ?_
  obtain ⟨t, et⟩ : ∃ t : Tm, t = (.mk 7 i s c nf ns af ar) := ⟨_, rfl⟩
  obtain ⟨cs, ec⟩ : ∃ cs, cs = tc t := ⟨_, rfl⟩
  obtain ⟨nv, en⟩ : ∃ nv, nv = slAV nf ns.length (u32s ns) := ⟨_, rfl⟩
  obtain ⟨av, ea⟩ : ∃ av, av = slAV af ar.length (tcs ar) := ⟨_, rfl⟩
  have ec' : cs = [.int .i64 7, .int .i64 i, .str s, .int .u32 c, nv, av] := by rw [ec, et, en, ea]; rfl
  obtain ⟨h1, eh1⟩ : ∃ h1, h1 = Heap.empty.new cs := ⟨_, rfl⟩
  have a1 : h1.at_ Heap.empty.next 0 = some [.int .i64 7, .int .i64 i, .str s, .int .u32 c, nv, av] := by rw [← ec', eh1]; exact at_new _
  rw [← et, ← ec]
  have y1 : (AV.agg cs).row = some cs := rfl
  have y2 : cs.length = 6 := by rw [ec']; rfl
  have l0 := ld60 a1
  have l4 := ld64 a1
  have l5 := ld65 a1
  have l6 : aLoad h1 true 6 (.ptr Heap.empty.next 0 0) = some ⟨.agg cs, h1, .read⟩ := by rw [ec']; exact ld6 a1
  have nl : ∀ h, aLenOp false h nv = some ⟨.int .i64 ns.length, h, .none⟩ := fun h => by rw [en]; exact len_sl _ _ _ (fun _ => trivial) h
  have al : ∀ h, aLenOp false h av = some ⟨.int .i64 ar.length, h, .none⟩ := fun h => by rw [ea]; exact len_sl _ _ _ (fun _ => trivial) h
  obtain ⟨x, ex⟩ : ∃ x : Bool, x = (i == 0 && s == [] && c == 0 && ns.length == 0) := ⟨_, rfl⟩
  have wb : ∀ h, WC env 83 [.agg cs, .str [97]] h (fun o => o = .ret ⟨.bool x, h, .none⟩) := fun h => by rw [ec, et, ex]; exact bare_a 7 i s c nf ns af ar h
  have xe : emptyF t false false true = x := by
    rw [et, emptyF, ex]
    cases h1 : (i == 0) <;> cases h2 : (s == []) <;> cases h3 : (c == 0) <;> cases h4 : (ns.length == 0) <;> cases h5 : (ar.length == 0) <;> simp
  have ek : kindOk t = (x && decide (ar.length ≥ 2) && lastNot7 ar) := by rw [et, kindOk, ← et]; simp [xe]
  cases x with
  | false =>
    simp only [a49, a49_0, a49_1, a49_2, a49_4, a49_6, a49_8, a49_10, a49_12, a49_14, Slots.ofList, wpo_u, wpc_draw, s3, reduceIte, Nat.reduceEqDiff, aBin, aInt, negIf, Option.some.injEq, exists_eq_left', Option.map_some, Option.bind_some, y1, y2, ← eh1, aFieldAddr, Nat.zero_add, l0, l6, nl, al, aPick, Int.reduceBEq, Int.reduceBNe, a49_15, a49_16, wc_eq (wb _), l5]
    exact pureB (by simp only [get_put, reduceIte, Nat.reduceEqDiff]; rw [ek]; rfl) rfl
  | true =>
  by_cases c2 : ar.length ≥ 2
  case neg =>
    have z : ((ar.length : Int) ≥ 2) = False := eq_false (by omega)
    simp only [a49, a49_0, a49_1, a49_2, a49_4, a49_6, a49_8, a49_10, a49_12, a49_14, Slots.ofList, wpo_u, wpc_draw, s3, reduceIte, Nat.reduceEqDiff, aBin, aInt, negIf, Option.some.injEq, exists_eq_left', Option.map_some, Option.bind_some, y1, y2, ← eh1, aFieldAddr, Nat.zero_add, l0, l6, nl, al, aPick, Int.reduceBEq, Int.reduceBNe, a49_15, a49_16, wc_eq (wb _), l5, z]
    exact pureB (by simp only [get_put, reduceIte, Nat.reduceEqDiff]; rw [ek, decide_eq_false c2]; rfl) rfl
  have z : ((ar.length : Int) ≥ 2) = True := eq_true (by omega)
  have zs : IntKind.wrap .i64 ((ar.length : Int) - 1) = ((ar.length - 1 : Nat) : Int) := wrap_nat (by omega) (by omega)
  have hi : ar.length - 1 < ar.length := by omega
  have ix : aIdxAddr 6 av (.int .i64 ((ar.length - 1 : Nat) : Int)) = some (.fp ((tcs ar).drop ((ar.length - 1) * 6))) := by rw [ea]; exact idx_args hi
  have lx : ∀ h, aLoad h false 1 (.fp ((tcs ar).drop ((ar.length - 1) * 6))) = some ⟨.int .i64 (ar[ar.length - 1]).kind, h, .none⟩ := fun h => ld_arg0 hi h
  have ln := lastNot7_get ar hi
  simp only [a49, a49_0, a49_1, a49_2, a49_4, a49_6, a49_8, a49_10, a49_12, a49_14, Slots.ofList, wpo_u, wpc_draw, s3, reduceIte, Nat.reduceEqDiff, aBin, aInt, negIf, Option.some.injEq, exists_eq_left', Option.map_some, Option.bind_some, y1, y2, ← eh1, aFieldAddr, Nat.zero_add, l0, l6, nl, al, aPick, Int.reduceBEq, Int.reduceBNe, a49_15, a49_16, wc_eq (wb _), l5, z, zs, ix, fa0, List.drop_zero, lx]
  exact pureB (by simp only [get_put, reduceIte, Nat.reduceEqDiff]; rw [ek, decide_eq_true c2, ln]; rfl) rfl
theorem rform_k0 (k : Int) (i : Int) (s : List UInt8) (c : Int) (nf : Option Bool) (ns : List Int) (af : Option Bool) (ar : List Tm) (ho : Tm.Ok (.mk k i s c nf ns af ar)) (hk : ∀ j : Int, 1 ≤ j → j ≤ 7 → k ≠ j) (h : Heap) : WC env 49 [.agg (tc (.mk k i s c nf ns af ar))] h (fun o => o = .ret ⟨.bool (kindOk (.mk k i s c nf ns af ar)), h, .none⟩) := by
  obtain ⟨ss, sn, sa, _⟩ := ho.lens
  refine call_pure rfl rfl rfl (by simp only [AV.noRefs, AV.noRef, noRef_tc, Bool.and_self]) ?_
  obtain ⟨t, et⟩ : ∃ t : Tm, t = (.mk k i s c nf ns af ar) := ⟨_, rfl⟩
  obtain ⟨cs, ec⟩ : ∃ cs, cs = tc t := ⟨_, rfl⟩
  obtain ⟨nv, en⟩ : ∃ nv, nv = slAV nf ns.length (u32s ns) := ⟨_, rfl⟩
  obtain ⟨av, ea⟩ : ∃ av, av = slAV af ar.length (tcs ar) := ⟨_, rfl⟩
  have ec' : cs = [.int .i64 k, .int .i64 i, .str s, .int .u32 c, nv, av] := by rw [ec, et, en, ea]; rfl
  obtain ⟨h1, eh1⟩ : ∃ h1, h1 = Heap.empty.new cs := ⟨_, rfl⟩
  have a1 : h1.at_ Heap.empty.next 0 = some [.int .i64 k, .int .i64 i, .str s, .int .u32 c, nv, av] := by rw [← ec', eh1]; exact at_new _
  rw [← et, ← ec]
  have y1 : (AV.agg cs).row = some cs := rfl
  have y2 : cs.length = 6 := by rw [ec']; rfl
  have l0 := ld60 a1
  have l4 := ld64 a1
  have l5 := ld65 a1
  have l6 : aLoad h1 true 6 (.ptr Heap.empty.next 0 0) = some ⟨.agg cs, h1, .read⟩ := by rw [ec']; exact ld6 a1
  have nl : ∀ h, aLenOp false h nv = some ⟨.int .i64 ns.length, h, .none⟩ := fun h => by rw [en]; exact len_sl _ _ _ (fun _ => trivial) h
  have al : ∀ h, aLenOp false h av = some ⟨.int .i64 ar.length, h, .none⟩ := fun h => by rw [ea]; exact len_sl _ _ _ (fun _ => trivial) h
  have q1 : (k == 1) = false := by simpa using hk 1 (by omega) (by omega)
  have q2 : (k == 2) = false := by simpa using hk 2 (by omega) (by omega)
  have q3 : (k == 3) = false := by simpa using hk 3 (by omega) (by omega)
  have q4 : (k == 4) = false := by simpa using hk 4 (by omega) (by omega)
  have q5 : (k == 5) = false := by simpa using hk 5 (by omega) (by omega)
  have q6 : (k == 6) = false := by simpa using hk 6 (by omega) (by omega)
  have q7 : (k == 7) = false := by simpa using hk 7 (by omega) (by omega)
  have ek : kindOk t = false := by rw [et, kindOk]; simp only [hk 1 (by omega) (by omega), hk 2 (by omega) (by omega), hk 3 (by omega) (by omega), hk 4 (by omega) (by omega), hk 5 (by omega) (by omega), hk 6 (by omega) (by omega), hk 7 (by omega) (by omega), if_false]
  simp only [a49, a49_0, a49_1, a49_2, a49_4, a49_6, a49_8, a49_10, a49_12, a49_14, Slots.ofList, wpo_u, wpc_draw, s3, reduceIte, Nat.reduceEqDiff, aBin, aInt, negIf, Option.some.injEq, exists_eq_left', Option.map_some, Option.bind_some, y1, y2, ← eh1, aFieldAddr, Nat.zero_add, l0, l6, nl, al, aPick, Int.reduceBEq, Int.reduceBNe, q1, q2, q3, q4, q5, q6, q7, a49_17]
  exact pureB (by simp only [get_put, reduceIte, Nat.reduceEqDiff]; rw [ek]) rfl
theorem rform_spec (t : Tm) (ho : t.Ok) (h : Heap) : WC env 49 [.agg (tc t)] h (fun o => o = .ret ⟨.bool (kindOk t), h, .none⟩) := by
  rcases t with ⟨k, i, s, c, nf, ns, af, ar⟩
  by_cases e1 : k = 1
  · subst e1; exact rform_k1 i s c nf ns af ar ho h
  by_cases e2 : k = 2
  · subst e2; exact rform_k2 i s c nf ns af ar ho h
  by_cases e3 : k = 3
  · subst e3; exact rform_k3 i s c nf ns af ar ho h
  by_cases e4 : k = 4
  · subst e4; exact rform_k4 i s c nf ns af ar ho h
  by_cases e5 : k = 5
  · subst e5; exact rform_k5 i s c nf ns af ar ho h
  by_cases e6 : k = 6
  · subst e6; exact rform_k6 i s c nf ns af ar ho h
  by_cases e7 : k = 7
  · subst e7; exact rform_k7 i s c nf ns af ar ho h
  exact rform_k0 k i s c nf ns af ar ho (fun j h1 h2 => by omega) h
end Go.Bf

set_option linter.unusedVariables false
set_option linter.unusedSimpArgs false
set_option maxRecDepth 20000
namespace Go.Bf
open Go.AM
theorem tm_ind {P : Tm → Prop} (h : ∀ k i s c nf ns af ar, (∀ t, t ∈ ar → P t) → P (.mk k i s c nf ns af ar)) : ∀ t, P t := by
  have go : ∀ (n : Nat) (t : Tm), SizeOf.sizeOf t ≤ n → P t := by
    intro n
    induction n with
    | zero => intro t ht; cases t; simp at ht
    | succ n ih =>
      intro t ht
      cases t with
      | mk k i s c nf ns af ar =>
        refine h k i s c nf ns af ar fun t m => ih t ?_
        have := List.sizeOf_lt_of_mem m
        simp at ht
        omega
  exact fun t => go _ t (Nat.le_refl _)
/-- a part's fault: which part, its number, what is under it -/
abbrev WFlt := Option (Int × Int × Und)
def walkAV : WFlt → AV
  | none => .nili
  | some (a, c, u) => errT a c u
theorem noRef_walk (x : WFlt) : (walkAV x).noRef = true := by
  rcases x with _ | ⟨a, c, _ | ⟨p, d⟩⟩ <;> rfl
theorem one_walk (x : WFlt) : (walkAV x).one = true := by
  rcases x with _ | ⟨a, c, u⟩ <;> rfl
mutual
def walkF : Tm → Nat → Nat → Nat → WFlt × Nat × Nat
  | .mk k i s c nf ns af ar, deep, n, d =>
    if n = 4096 then (some ((n : Int), 5, none), n, d)
    else if deep > 256 then (some ((n : Int), 9, none), n, d)
    else match formF (.mk k i s c nf ns af ar) with
      | some (c, u) => (some ((n : Int), c, u), n, d)
      | none => walkFs ar (deep + 1) (n + 1) (max d deep)
def walkFs : List Tm → Nat → Nat → Nat → WFlt × Nat × Nat
  | [], _, n, d => (none, n, d)
  | t :: l, deep, n, d => match walkF t deep n d with
    | (none, n', d') => walkFs l deep n' d'
    | (some e, n', d') => (some e, n', d')
end
theorem walk_le : ∀ t deep n d, n ≤ 4096 → d ≤ 256 → (walkF t deep n d).2.1 ≤ 4096 ∧ (walkF t deep n d).2.2 ≤ 256 := by
  refine tm_ind fun k i s c nf ns af ar ih deep n d hn hd => ?_
  have go : ∀ (l : List Tm), (∀ t, t ∈ l → t ∈ ar) → ∀ deep n d, n ≤ 4096 → d ≤ 256 → (walkFs l deep n d).2.1 ≤ 4096 ∧ (walkFs l deep n d).2.2 ≤ 256 := by
    intro l
    induction l with
    | nil => intro _ deep n d hn hd; exact ⟨hn, hd⟩
    | cons t l ihl =>
      intro hl deep n d hn hd
      have h1 := ih t (hl t (by simp)) deep n d hn hd
      rw [walkFs]
      split
      · rename_i n' d' e
        rw [e] at h1
        exact ihl (fun t m => hl t (by simp [m])) deep n' d' h1.1 h1.2
      · rename_i n' d' e
        rw [e] at h1
        exact h1
  rw [walkF]
  split
  · exact ⟨hn, hd⟩
  split
  · exact ⟨hn, hd⟩
  split
  · exact ⟨hn, hd⟩
  · exact go ar (fun _ m => m) _ _ _ (by omega) (by omega)
def w2 (n d : Nat) : List AV := [.int .i64 n, .int .i64 d]
def WalkOk (t : Tm) : Prop := ∀ (deep n d w : Nat) (h : Heap), HeapOk h → h.at_ w 0 = some (w2 n d) → n ≤ 4096 → deep ≤ 257 → d ≤ 256 →
  ∃ h', HeapOk h' ∧ Chg (fun i => i = w) h h' ∧ h'.at_ w 0 = some (w2 (walkF t deep n d).2.1 (walkF t deep n d).2.2) ∧
    WC env 97 [.ptr w 0 0, .agg (tc t), .int .i64 deep] h (fun o => o = .ret ⟨walkAV (walkF t deep n d).1, h', .write⟩)
theorem box_t {h : Heap} (ho : HeapOk h) (t : Tm) : ∃ h', aStore (h.new [.int .i64 0, .int .i64 0, .str [], .int .u32 0, .nils, .nils]) 6 (.ptr h.next 0 0) (.agg (tc t)) = some ⟨.undef, h', .write⟩ ∧ HeapOk h' ∧ h.le h' ∧ h'.at_ h.next 0 = some (tc t) := by
  cases t with
  | mk k i s c nf ns af ar => exact box6 ho _ _ _ _ _ _
theorem ld_t {h : Heap} {i : Nat} {t : Tm} (hat : h.at_ i 0 = some (tc t)) : aLoad h true 6 (.ptr i 0 0) = some ⟨.agg (tc t), h, .read⟩ := by
  cases t with
  | mk k i s c nf ns af ar => exact ld6 hat
theorem aEq_walk (f : Int × Int × Und) : aEq (.iface true) (walkAV (some f)) .nili = some false := rfl
theorem walk_loop {ar : List Tm} (hP : ∀ t, t ∈ ar → WalkOk t) (hlen : ar.length < 9223372036854775808) {af : Option Bool} {w deep : Nat} (hdeep : deep ≤ 256) {Q : AExit → St → Prop} :
    ∀ (f i : Nat) (σ : Slots) (h : Heap) (n d : Nat), ar.length - i < f → i ≤ ar.length → HeapOk h → h.at_ w 0 = some (w2 n d) → n ≤ 4096 → d ≤ 256 →
    σ.get 0 = .ptr w 0 0 → σ.get 2 = .int .i64 deep → σ.get 49 = slAV af ar.length (tcs ar) → σ.get 50 = .int .i64 ar.length → σ.get 51 = .int .i64 i →
    (∀ σ' h', HeapOk h' → Chg (fun i => i = w) h h' → h'.at_ w 0 = some (w2 (walkFs (ar.drop i) (deep + 1) n d).2.1 (walkFs (ar.drop i) (deep + 1) n d).2.2) →
      ((walkFs (ar.drop i) (deep + 1) n d).1 = none → Q (.exit 1) ⟨σ', h'⟩) ∧ (∀ e, (walkFs (ar.drop i) (deep + 1) n d).1 = some e → σ'.get 6 = walkAV (some e) → Q .ret ⟨σ', h'⟩)) →
    WPr env a97_l18 ⟨σ, h⟩ Q := by
  intro f
  induction f with
  | zero => intro i σ h n d h1; omega
  | succ f ih =>
    intro i σ h n d hf hi ho hw hn hd g0 g2 g49 g50 g51 hQ
    refine wpr_round' fun b hb => ?_
    by_cases c1 : i < ar.length
    · have z0 : ((i : Int) < (ar.length : Int)) = True := eq_true (by omega)
      have zi : IntKind.wrap .i64 ((i : Int) + 1) = ((i + 1 : Nat) : Int) := wrap_nat (by omega) (by omega)
      have zd : IntKind.wrap .i64 ((deep : Int) + 1) = ((deep + 1 : Nat) : Int) := wrap_nat (by omega) (by omega)
      have lx := idx_args (f := af) c1
      have ld := ld_args c1 h
      obtain ⟨t, et⟩ : ∃ t, t = ar[i] := ⟨_, rfl⟩
      have hd' : ar.drop i = t :: ar.drop (i + 1) := by rw [et]; exact List.drop_eq_getElem_cons c1
      rw [← et] at ld
      obtain ⟨h2, st2, ho2, le2, at2⟩ := box_t ho t
      have lt2 := ld_t at2
      have hw2 := le2.2 _ _ _ hw
      obtain ⟨h3, ho3, ch3, hw3, wc3⟩ := hP t (by rw [et]; exact List.getElem_mem c1) (deep + 1) n d w h2 ho2 hw2 hn (by omega) hd
      have bd := walk_le t (deep + 1) n d hn hd
      rw [hd', walkFs] at hQ
      have ec : Chg (fun i => i = w) h h3 := le2.chg.trans ch3
      cases e : (walkF t (deep + 1) n d) with
      | mk r nd =>
        obtain ⟨n', d'⟩ := nd
        rw [e] at hQ hw3 wc3 bd
        cases r with
        | none =>
          have wc3' : WC env 97 [.ptr w 0 0, .agg (tc t), .int .i64 ((deep + 1 : Nat) : Int)] h2 (fun o => o = .ret ⟨.nili, h3, .write⟩) := wc3
          simp only [a97_l18, a97_12, a97_13, a97_14, a97_15, a97_17, wpc_draw, s3, reduceIte, Nat.reduceEqDiff, aBin, aInt, negIf, Option.some.injEq, exists_eq_left', Option.map_some, Option.bind_some, g0, g2, g49, g50, g51, z0, zi, zd, lx, ld, st2, lt2, wc_eq wc3', eq_nil, Bool.not_true]
          subst hb
          refine ih (i + 1) _ h3 n' d' (by omega) (by omega) ho3 hw3 bd.1 bd.2 ?_ ?_ ?_ ?_ ?_ fun σ' h' q1 q2 q3 => hQ σ' h' q1 (ec.trans q2) q3
          · simp only [get_put, reduceIte, Nat.reduceEqDiff, g0]
          · simp only [get_put, reduceIte, Nat.reduceEqDiff, g2]
          · simp only [get_put, reduceIte, Nat.reduceEqDiff, g49]
          · simp only [get_put, reduceIte, Nat.reduceEqDiff, g50]
          · simp only [get_put, reduceIte, Nat.reduceEqDiff]
        | some er =>
          have wc3' : WC env 97 [.ptr w 0 0, .agg (tc t), .int .i64 ((deep + 1 : Nat) : Int)] h2 (fun o => o = .ret ⟨walkAV (some er), h3, .write⟩) := wc3
          simp only [a97_l18, a97_12, a97_13, a97_14, a97_15, a97_16, wpc_draw, s3, reduceIte, Nat.reduceEqDiff, aBin, aInt, negIf, Option.some.injEq, exists_eq_left', Option.map_some, Option.bind_some, g0, g2, g49, g50, g51, z0, zi, zd, lx, ld, st2, lt2, wc_eq wc3', aEq_walk, Bool.not_false]
          exact (hQ _ h3 ho3 ec hw3).2 er rfl (by simp only [get_put, reduceIte, Nat.reduceEqDiff])
    · have z0 : ((i : Int) < (ar.length : Int)) = False := eq_false (by omega)
      have hd' : ar.drop i = [] := List.drop_of_length_le (by omega)
      rw [hd'] at hQ
      simp only [a97_l18, a97_12, wpc_draw, s3, reduceIte, Nat.reduceEqDiff, aBin, aInt, negIf, Option.some.injEq, exists_eq_left', Option.map_some, Option.bind_some, g50, g51, z0]
      exact (hQ _ h ho Chg.refl hw).1 rfl
theorem walk_ok : ∀ t : Tm, t.Ok → WalkOk t := by
  refine tm_ind fun k i s c nf ns af ar ih ok deep n d w h ho hw hn hdeep hd => ?_
  obtain ⟨ss, sn, sa, sr⟩ := ok.lens
  have hP : ∀ t, t ∈ ar → WalkOk t := fun t m => ih t m (sr.get m)
  obtain ⟨t, et⟩ : ∃ t : Tm, t = .mk k i s c nf ns af ar := ⟨_, rfl⟩
  rw [← et] at ok ⊢
  obtain ⟨cs, ec⟩ : ∃ cs, cs = tc t := ⟨_, rfl⟩
  obtain ⟨av, ea⟩ : ∃ av, av = slAV af ar.length (tcs ar) := ⟨_, rfl⟩
  have ec' : cs = [.int .i64 k, .int .i64 i, .str s, .int .u32 c, slAV nf ns.length (u32s ns), av] := by rw [ec, et, ea]; rfl
  have iw := ho.lt hw
  obtain ⟨h1, eh1⟩ : ∃ h1, h1 = h.new cs := ⟨_, rfl⟩
  have ho1 : HeapOk h1 := by rw [eh1]; exact ho.new _
  have le1 : h.le h1 := by rw [eh1]; exact le_new ho _
  have a1 : h1.at_ h.next 0 = some [.int .i64 k, .int .i64 i, .str s, .int .u32 c, slAV nf ns.length (u32s ns), av] := by rw [← ec', eh1]; exact at_new _
  have aw1 : h1.at_ w 0 = some [.int .i64 n, .int .i64 d] := le1.2 _ _ _ hw
  have y1 : (AV.agg cs).row = some cs := rfl
  have y2 : cs.length = 6 := by rw [ec']; rfl
  have l0 := ld20 aw1
  have l6 : aLoad h1 true 6 (.ptr h.next 0 0) = some ⟨.agg cs, h1, .read⟩ := by rw [ec']; exact ld6 a1
  rw [← ec]
  have ef : walkF t deep n d = if n = 4096 then (some ((n : Int), 5, none), n, d)
    else if deep > 256 then (some ((n : Int), 9, none), n, d)
    else match formF t with
      | some (c, u) => (some ((n : Int), c, u), n, d)
      | none => walkFs ar (deep + 1) (n + 1) (max d deep) := by rw [et, walkF]
  by_cases c1 : n = 4096
  · have z : ((n : Int) == 4096) = true := by simp; omega
    have er : walkF t deep n d = (some ((n : Int), 5, none), n, d) := by rw [ef, if_pos c1]
    rw [er]
    refine ⟨h1, ho1, le1.chg, aw1, call_body rfl rfl (.inr (by simp only [AV.noRefs, AV.noRef, Bool.false_and])) ?_⟩
    simp only [a97, a97_0, a97_1, a97_2, a97_3, Slots.ofList, wpc_draw, s3, reduceIte, Nat.reduceEqDiff, aBin, aInt, negIf, Option.some.injEq, exists_eq_left', Option.map_some, Option.bind_some, y1, y2, ← eh1, aNil_ptr, aFieldAddr, Nat.zero_add, l0, z, wc_eq (tfault_nil _ _ _)]
    exact ⟨[errT n 5 none], by simp only [Env.results, Option.map_some, get_put, reduceIte, Nat.reduceEqDiff], rfl⟩
  have z : ((n : Int) == 4096) = false := by simp; omega
  by_cases c2 : deep > 256
  · have z2 : ((deep : Int) > 256) = True := eq_true (by omega)
    have er : walkF t deep n d = (some ((n : Int), 9, none), n, d) := by rw [ef, if_neg c1, if_pos c2]
    rw [er]
    refine ⟨h1, ho1, le1.chg, aw1, call_body rfl rfl (.inr (by simp only [AV.noRefs, AV.noRef, Bool.false_and])) ?_⟩
    simp only [a97, a97_0, a97_1, a97_2, a97_4, a97_5, Slots.ofList, wpc_draw, s3, reduceIte, Nat.reduceEqDiff, aBin, aInt, negIf, Option.some.injEq, exists_eq_left', Option.map_some, Option.bind_some, y1, y2, ← eh1, aNil_ptr, aFieldAddr, Nat.zero_add, l0, z, z2, wc_eq (tfault_nil _ _ _)]
    exact ⟨[errT n 9 none], by simp only [Env.results, Option.map_some, get_put, reduceIte, Nat.reduceEqDiff], rfl⟩
  have z2 : ((deep : Int) > 256) = False := eq_false (by omega)
  have wf : ∀ h, WC env 130 [.agg cs, .int .i64 (n : Int)] h (fun o => o = .ret ⟨formAV n (formF t), h, .none⟩) := fun h => by rw [ec]; exact form_spec t ok n h
  cases e1 : formF t with
  | some cu =>
    obtain ⟨cd, u⟩ := cu
    have er : walkF t deep n d = (some ((n : Int), cd, u), n, d) := by rw [ef, if_neg c1, if_neg c2, e1]
    rw [er]
    have wf : ∀ h, WC env 130 [.agg cs, .int .i64 (n : Int)] h (fun o => o = .ret ⟨errT n cd u, h, .none⟩) := fun h => by have := wf h; rw [e1] at this; exact this
    have aq : aEq (.iface true) (errT n cd u) .nili = some false := rfl
    refine ⟨h1, ho1, le1.chg, aw1, call_body rfl rfl (.inr (by simp only [AV.noRefs, AV.noRef, Bool.false_and])) ?_⟩
    simp only [a97, a97_0, a97_1, a97_2, a97_4, a97_6, a97_7, a97_8, Slots.ofList, wpc_draw, s3, reduceIte, Nat.reduceEqDiff, aBin, aInt, negIf, Option.some.injEq, exists_eq_left', Option.map_some, Option.bind_some, y1, y2, ← eh1, aNil_ptr, aFieldAddr, Nat.zero_add, l0, l6, z, z2, wc_eq (wf _), aq, Bool.not_false]
    exact ⟨[errT n cd u], by simp only [Env.results, Option.map_some, get_put, reduceIte, Nat.reduceEqDiff], rfl⟩
  | none =>
    have er : walkF t deep n d = walkFs ar (deep + 1) (n + 1) (max d deep) := by rw [ef, if_neg c1, if_neg c2, e1]
    rw [er]
    have wf : ∀ h, WC env 130 [.agg cs, .int .i64 (n : Int)] h (fun o => o = .ret ⟨.nili, h, .none⟩) := fun h => by have := wf h; rw [e1] at this; exact this
    obtain ⟨h2, eh2⟩ : ∃ h2, h2 = h1.upd w 0 [.int .i64 ((n + 1 : Nat) : Int), .int .i64 d] := ⟨_, rfl⟩
    have ho2 : HeapOk h2 := by rw [eh2]; exact ho1.upd (at_look.1 aw1) _ _
    have aw2 : h2.at_ w 0 = some [.int .i64 ((n + 1 : Nat) : Int), .int .i64 d] := by rw [eh2]; exact at_upd
    have a2 : h2.at_ h.next 0 = some [.int .i64 k, .int .i64 i, .str s, .int .u32 c, slAV nf ns.length (u32s ns), av] := by rw [eh2, at_upd_ne (by omega)]; exact a1
    obtain ⟨h3, eh3⟩ : ∃ h3, h3 = h2.upd w 0 [.int .i64 ((n + 1 : Nat) : Int), .int .i64 ((max d deep : Nat) : Int)] := ⟨_, rfl⟩
    have ho3 : HeapOk h3 := by rw [eh3]; exact ho2.upd (at_look.1 aw2) _ _
    have aw3 : h3.at_ w 0 = some [.int .i64 ((n + 1 : Nat) : Int), .int .i64 ((max d deep : Nat) : Int)] := by rw [eh3]; exact at_upd
    have a3 : h3.at_ h.next 0 = some [.int .i64 k, .int .i64 i, .str s, .int .u32 c, slAV nf ns.length (u32s ns), av] := by rw [eh3, at_upd_ne (by omega)]; exact a2
    have s1 : aStore h1 1 (.ptr w 0 0) (.int .i64 ((n + 1 : Nat) : Int)) = some ⟨.undef, h2, .write⟩ := by rw [eh2]; exact st20 aw1
    have l1 := ld21 aw2
    have s2 : aStore h2 1 (.ptr w 0 1) (.int .i64 ((max d deep : Nat) : Int)) = some ⟨.undef, h3, .write⟩ := by rw [eh3]; exact st21 aw2
    have l5 := ld65 a3
    have zn : IntKind.wrap .i64 ((n : Int) + 1) = ((n + 1 : Nat) : Int) := wrap_nat (by omega) (by omega)
    have zm : aMinMax true (.int .i64 d) (.int .i64 deep) = some (.int .i64 ((max d deep : Nat) : Int)) := by
      show some (AV.int .i64 (if (d : Int) < deep then (deep : Int) else d)) = _
      split
      · rw [Nat.max_eq_right (by omega)]
      · rw [Nat.max_eq_left (by omega)]
    have al : ∀ h, aLenOp false h av = some ⟨.int .i64 ar.length, h, .none⟩ := fun h => by rw [ea]; exact len_sl _ _ _ (fun _ => trivial) h
    have ch : Chg (fun i => i = w) h h3 := by
      refine (le1.chg (S := fun i => i = w)).trans ?_
      rw [eh3, eh2]
      exact (upd_chg (S := fun i => i = w) rfl).trans (upd_chg (S := fun i => i = w) rfl)
    -- the end of the parts is known ahead: the walk of each is
    obtain ⟨h4, hh4⟩ : ∃ h4 : Heap, True := ⟨h, trivial⟩
    clear hh4 h4
    have hrun : WC env 97 [.ptr w 0 0, .agg cs, .int .i64 deep] h (fun o => ∃ h', o = .ret ⟨walkAV (walkFs ar (deep + 1) (n + 1) (max d deep)).1, h', .write⟩ ∧ HeapOk h' ∧ Chg (fun i => i = w) h h' ∧ h'.at_ w 0 = some (w2 (walkFs ar (deep + 1) (n + 1) (max d deep)).2.1 (walkFs ar (deep + 1) (n + 1) (max d deep)).2.2)) := by
      refine call_body rfl rfl (.inr (by simp only [AV.noRefs, AV.noRef, Bool.false_and])) ?_
      simp only [a97, a97_0, a97_1, a97_2, a97_4, a97_6, a97_7, a97_9, a97_10, a97_11, Slots.ofList, wpc_draw, s3, reduceIte, Nat.reduceEqDiff, aBin, aInt, negIf, Option.some.injEq, exists_eq_left', Option.map_some, Option.bind_some, wp1_minmax, op_minmax, y1, y2, ← eh1, aNil_ptr, aFieldAddr, Nat.zero_add, l0, l6, z, z2, wc_eq (wf _), eq_nil, Bool.not_true, zn, s1, l1, zm, s2, l5, al]
      refine walk_loop (ar := ar) hP sa (af := af) (w := w) (deep := deep) (by omega) (ar.length + 1) 0 _ h3 (n + 1) (max d deep) (by omega) (by omega) ho3 aw3 (by omega) (by omega) ?_ ?_ ?_ ?_ ?_ fun σ' h' q1 q2 q3 => ?_
      · simp only [get_put, reduceIte, Nat.reduceEqDiff]
      · simp only [get_put, reduceIte, Nat.reduceEqDiff]
      · simp only [get_put, reduceIte, Nat.reduceEqDiff, ea]
      · simp only [get_put, reduceIte, Nat.reduceEqDiff]
      · simp only [get_put, reduceIte, Nat.reduceEqDiff]; rfl
      · rw [List.drop_zero] at q3 ⊢
        refine ⟨fun e => ?_, fun e he g => ?_⟩
        · simp only [a97_19, wpc_draw, s3, reduceIte, Nat.reduceEqDiff, aBin, aInt, negIf, Option.some.injEq, exists_eq_left', Option.map_some, Option.bind_some]
          exact ⟨[.nili], by simp only [Env.results, Option.map_some, get_put, reduceIte, Nat.reduceEqDiff], h', by rw [e]; rfl, q1, ch.trans q2, q3⟩
        · simp only [wpc_draw, s3, reduceIte, Nat.reduceEqDiff, aBin, aInt, negIf, Option.some.injEq, exists_eq_left', Option.map_some, Option.bind_some]
          exact ⟨[walkAV (some e)], by simp only [Env.results, Option.map_some, g], h', by rw [he]; rfl, q1, ch.trans q2, q3⟩
    obtain ⟨o, hr, h', ho', p1, p2, p3⟩ := hrun
    exact ⟨h', p1, p2, p3, o, hr, ho'⟩
theorem measure_spec (t : Tm) (ok : t.Ok) (h : Heap) : WC env 54 [.agg (tc t)] h (fun o => o = .ret ⟨match walkF t 1 0 0 with
    | (none, n, d) => .tup [.int .i64 n, .int .i64 d, .nili]
    | (some e, _, _) => .tup [.int .i64 0, .int .i64 0, walkAV (some e)], h, .none⟩) := by
  refine call_pure rfl rfl rfl (by simp only [AV.noRefs, AV.noRef, noRef_tc, Bool.and_self, Bool.true_and]) ?_
  obtain ⟨h1, eh1⟩ : ∃ h1, h1 = Heap.empty.new (tc t) := ⟨_, rfl⟩
  have ho1 : HeapOk h1 := by rw [eh1]; exact HeapOk.empty.new _
  have a1 : h1.at_ Heap.empty.next 0 = some (tc t) := by rw [eh1]; exact at_new _
  obtain ⟨h2, eh2⟩ : ∃ h2, h2 = h1.new [.int .i64 0, .int .i64 0] := ⟨_, rfl⟩
  have ho2 : HeapOk h2 := by rw [eh2]; exact ho1.new _
  have a2 : h2.at_ Heap.empty.next 0 = some (tc t) := by rw [eh2]; exact (le_new ho1 _).2 _ _ _ a1
  have aw2 : h2.at_ h1.next 0 = some (w2 0 0) := by rw [eh2]; exact at_new _
  obtain ⟨h3, ho3, ch3, aw3, w3⟩ := walk_ok t ok 1 0 0 _ h2 ho2 aw2 (by omega) (by omega) (by omega)
  have y1 : (AV.agg (tc t)).row = some (tc t) := rfl
  have y2 : (tc t).length = 6 := tc_length t
  have l6 := ld_t a2
  cases e : walkF t 1 0 0 with
  | mk r nd =>
    obtain ⟨n, d⟩ := nd
    rw [e] at aw3 w3
    cases r with
    | none =>
      have w3' : WC env 97 [.ptr h1.next 0 0, .agg (tc t), .int .i64 1] h2 (fun o => o = .ret ⟨.nili, h3, .write⟩) := w3
      have l0 := ld20 aw3
      have l1 := ld21 aw3
      simp only [a54, a54_0, a54_1, a54_2, a54_3, a54_5, Slots.ofList, s3, reduceIte, Nat.reduceEqDiff, aBin, aInt, negIf, Option.some.injEq, exists_eq_left', Option.map_some, Option.bind_some, y1, y2, ← eh1, ← eh2, l6, wc_eq w3', eq_nil, Bool.not_true]
      refine wpc_draw_k ?_
      simp only [s3, reduceIte, Nat.reduceEqDiff, aBin, aInt, negIf, Option.some.injEq, exists_eq_left', Option.map_some, Option.bind_some, k3, aFieldAddr, Nat.zero_add, l0, l1]
      refine ⟨rfl, ?_⟩
      exact ⟨[.int .i64 n, .int .i64 d, .nili], _, by simp only [Env.results, Option.map_some, get_put, reduceIte, Nat.reduceEqDiff], (frz_noRef (v := .tup [.int .i64 n, .int .i64 d, .nili]) rfl).2 rfl, rfl⟩
    | some er =>
      have w3' : WC env 97 [.ptr h1.next 0 0, .agg (tc t), .int .i64 1] h2 (fun o => o = .ret ⟨walkAV (some er), h3, .write⟩) := w3
      simp only [a54, a54_0, a54_1, a54_2, a54_3, a54_4, Slots.ofList, wpc_draw, s3, reduceIte, Nat.reduceEqDiff, aBin, aInt, negIf, Option.some.injEq, exists_eq_left', Option.map_some, Option.bind_some, y1, y2, ← eh1, ← eh2, l6, wc_eq w3', aEq_walk, Bool.not_false]
      exact ⟨[.int .i64 0, .int .i64 0, walkAV (some er)], .tup [.int .i64 0, .int .i64 0, walkAV (some er)], by simp only [Env.results, Option.map_some, get_put, reduceIte, Nat.reduceEqDiff], (frz_noRef (v := .tup [.int .i64 0, .int .i64 0, walkAV (some er)]) (by simp only [AV.noRef, AV.noRefs, noRef_walk, Bool.and_self])).2 rfl, rfl⟩
/-- the fault that Check finds -/
def chkF (t : Tm) : WFlt := (walkF t 1 0 0).1
theorem check_spec (t : Tm) (ok : t.Ok) (h : Heap) : WC env 36 [.agg (tc t)] h (fun o => o = .ret ⟨walkAV (chkF t), h, .none⟩) := by
  refine call_pure rfl rfl rfl (by simp only [AV.noRefs, AV.noRef, noRef_tc, Bool.and_self, Bool.true_and]) ?_
  obtain ⟨h1, eh1⟩ : ∃ h1, h1 = Heap.empty.new (tc t) := ⟨_, rfl⟩
  have a1 : h1.at_ Heap.empty.next 0 = some (tc t) := by rw [eh1]; exact at_new _
  have y1 : (AV.agg (tc t)).row = some (tc t) := rfl
  have y2 : (tc t).length = 6 := tc_length t
  have l6 := ld_t a1
  obtain ⟨n, d, wm⟩ : ∃ n d : Int, ∀ h, WC env 54 [.agg (tc t)] h (fun o => o = .ret ⟨.tup [.int .i64 n, .int .i64 d, walkAV (chkF t)], h, .none⟩) := by
    have wm := measure_spec t ok
    cases e : walkF t 1 0 0 with
    | mk r nd =>
      obtain ⟨n, d⟩ := nd
      have ec : chkF t = r := by rw [chkF, e]
      rw [e] at wm
      rw [ec]
      cases r with
      | none => exact ⟨n, d, fun h => wm h⟩
      | some er => exact ⟨0, 0, fun h => wm h⟩
  simp only [a36, a36_0, a36_1, a36_2, Slots.ofList, wpc_draw, s3, reduceIte, Nat.reduceEqDiff, aBin, aInt, negIf, Option.some.injEq, exists_eq_left', Option.map_some, Option.bind_some, y1, y2, ← eh1, l6, wc_eq (wm _), aExtract, x30, x31, x32]
  exact fin1 (by simp only [get_put, reduceIte, Nat.reduceEqDiff] <;> rfl) (noRef_walk _) (one_walk _) rfl
end Go.Bf

set_option linter.unusedVariables false
set_option linter.unusedSimpArgs false
set_option maxRecDepth 20000
namespace Go.Bf
open Go.AM
def rlinkAV : WFlt → AV
  | none => .nils
  | some (a, c, none) => .fs true 1 [.str [116, 101, 114, 109], .int .i64 a, .int .i64 c]
  | some (a, c, some (p, d)) => .fs false 2 [.str [116, 101, 114, 109], .int .i64 a, .int .i64 c, .str [97, 116, 111, 109], .int .i64 p, .int .i64 d]
theorem rno_spec (a c : Int) (h : Heap) : WC env 48 [.int .i64 a, .int .i64 c] h (fun o => o = .ret ⟨rlinkAV (some (a, c, none)), h, .none⟩) := wc_run (n := 30) (by kernel_rfl)
theorem rover_spec (a p d : Int) (h : Heap) : WC env 51 [.int .i64 a, rerrAV (some (p, d))] h (fun o => o = .ret ⟨rlinkAV (some (a, d, some (p, d))), h, .none⟩) := wc_run (n := 30) (by kernel_rfl)
theorem eqs_nil : aEq .slice .nils .nils = some true := rfl
theorem eqs_err (e : Int × Int) : aEq .slice (rerrAV (some e)) .nils = some false := rfl
theorem eqs_link (e : Int × Int × Und) : aEq .slice (rlinkAV (some e)) .nils = some false := by
  rcases e with ⟨a, c, _ | ⟨p, d⟩⟩ <;> rfl
theorem row_link (e : Int × Int × Und) : (rlinkAV (some e)).row = some [rlinkAV (some e)] := by
  rcases e with ⟨a, c, _ | ⟨p, d⟩⟩ <;> rfl
theorem noRef_link (x : WFlt) : (rlinkAV x).noRef = true := by
  rcases x with _ | ⟨a, c, _ | ⟨p, d⟩⟩ <;> rfl
section
variable {h : Heap} {i : Nat} {a b c : AV} (hat : h.at_ i 0 = some [a, b, c])
include hat
theorem ld30 : aLoad h false 1 (.ptr i 0 0) = some ⟨a, h, .read⟩ := by simp only [aLoad, hat, Option.bind_some]; rfl
theorem ld31 : aLoad h false 1 (.ptr i 0 1) = some ⟨b, h, .read⟩ := by simp only [aLoad, hat, Option.bind_some]; rfl
theorem ld32 : aLoad h false 1 (.ptr i 0 2) = some ⟨c, h, .read⟩ := by simp only [aLoad, hat, Option.bind_some]; rfl
theorem st30 {k : IntKind} {n : Int} : aStore h 1 (.ptr i 0 0) (.int k n) = some ⟨.undef, h.upd i 0 [.int k n, b, c], .write⟩ := by
  simp only [aStore, hat, Option.bind_some]; rfl
theorem st31 {k : IntKind} {n : Int} : aStore h 1 (.ptr i 0 1) (.int k n) = some ⟨.undef, h.upd i 0 [a, .int k n, c], .write⟩ := by
  simp only [aStore, hat, Option.bind_some]; rfl
theorem st32 (e : Int × Int × Und) : aStore h 1 (.ptr i 0 2) (rlinkAV (some e)) = some ⟨.undef, h.upd i 0 [a, b, rlinkAV (some e)], .write⟩ := by
  simp only [aStore, hat, Option.bind_some, row_link]; rfl
end
def PartEnd (h : Heap) (w : Nat) : WFlt × Nat × Nat → Prop
  | (none, n, d) => h.at_ w 0 = some [.int .i64 n, .int .i64 d, .nils]
  | (some e, _, _) => ∃ N D : AV, h.at_ w 0 = some [N, D, rlinkAV (some e)]
def PartOk (t : Tm) : Prop := ∀ (deep n d w : Nat) (h : Heap), HeapOk h → h.at_ w 0 = some [.int .i64 n, .int .i64 d, .nils] → n ≤ 4096 → deep ≤ 257 → d ≤ 256 →
  ∃ h', HeapOk h' ∧ Chg (fun i => i = w) h h' ∧ PartEnd h' w (walkF t deep n d) ∧ WC env 32 [.ptr w 0 0, .agg (tc t), .int .i64 deep] h (fun o => o = .ret ⟨.tup [], h', .write⟩)
/-- a fault is there: the loop over the parts ends -/
theorem part_stop {ar : List Tm} {af : Option Bool} {w i4 i : Nat} {e : Int × Int × Und} {h : Heap} {N D : AV} (hw : h.at_ w 0 = some [N, D, rlinkAV (some e)]) (l5 : aLoad h false 1 (.ptr i4 0 5) = some ⟨slAV af ar.length (tcs ar), h, .read⟩)
    {σ : Slots} (g0 : σ.get 0 = .ptr w 0 0) (g4 : σ.get 4 = .ptr i4 0 0) (g12 : σ.get 12 = .int .i64 i) {Q : AExit → St → Prop} (hQ : ∀ σ', Q (.exit 1) ⟨σ', h⟩) : WPr env a32_l25 ⟨σ, h⟩ Q := by
  refine wpr_round' fun b hb => ?_
  have nl : ∀ h, aLenOp false h (slAV af ar.length (tcs ar)) = some ⟨.int .i64 ar.length, h, .none⟩ := fun h => len_sl _ _ _ (fun _ => trivial) h
  have l2 := ld32 hw
  by_cases c1 : (i : Int) < (ar.length : Int)
  · have z0 := eq_true c1
    simp only [a32_l25, a32_22, wpo_u, wpc_draw, s3, reduceIte, Nat.reduceEqDiff, aBin, aInt, negIf, Option.some.injEq, exists_eq_left', Option.map_some, Option.bind_some, g0, g4, g12, aFieldAddr, Nat.zero_add, aNil_ptr, l5, l2, nl, z0, eqs_link, aPick]
    exact hQ _
  · have z0 := eq_false c1
    simp only [a32_l25, a32_22, wpo_u, wpc_draw, s3, reduceIte, Nat.reduceEqDiff, aBin, aInt, negIf, Option.some.injEq, exists_eq_left', Option.map_some, Option.bind_some, g0, g4, g12, aFieldAddr, Nat.zero_add, aNil_ptr, l5, l2, nl, z0, eqs_link, aPick]
    exact hQ _
theorem part_loop {ar : List Tm} (hP : ∀ t, t ∈ ar → PartOk t) (hlen : ar.length < 9223372036854775808) {af : Option Bool} {w i4 deep : Nat} (hne : i4 ≠ w) {k0 k1 k2 k3 k4 : AV} (hdeep : deep ≤ 256) {Q : AExit → St → Prop} :
    ∀ (f i : Nat) (σ : Slots) (h : Heap) (n d : Nat), ar.length - i < f → i ≤ ar.length → HeapOk h → h.at_ w 0 = some [.int .i64 n, .int .i64 d, .nils] → h.at_ i4 0 = some [k0, k1, k2, k3, k4, slAV af ar.length (tcs ar)] → n ≤ 4096 → d ≤ 256 →
    σ.get 0 = .ptr w 0 0 → σ.get 2 = .int .i64 deep → σ.get 4 = .ptr i4 0 0 → σ.get 12 = .int .i64 i →
    (∀ σ' h', HeapOk h' → Chg (fun i => i = w) h h' → PartEnd h' w (walkFs (ar.drop i) (deep + 1) n d) → Q (.exit 1) ⟨σ', h'⟩) →
    WPr env a32_l25 ⟨σ, h⟩ Q := by
  intro f
  induction f with
  | zero => intro i σ h n d h1; omega
  | succ f ih =>
    intro i σ h n d hf hi ho hw h4 hn hd g0 g2 g4 g12 hQ
    refine wpr_round' fun b hb => ?_
    have nl : ∀ h, aLenOp false h (slAV af ar.length (tcs ar)) = some ⟨.int .i64 ar.length, h, .none⟩ := fun h => len_sl _ _ _ (fun _ => trivial) h
    have l2 := ld32 hw
    have l5 := ld65 h4
    by_cases c1 : i < ar.length
    · have z0 : ((i : Int) < (ar.length : Int)) = True := eq_true (by omega)
      have zi : IntKind.wrap .i64 ((i : Int) + 1) = ((i + 1 : Nat) : Int) := wrap_nat (by omega) (by omega)
      have zd : IntKind.wrap .i64 ((deep : Int) + 1) = ((deep + 1 : Nat) : Int) := wrap_nat (by omega) (by omega)
      have lx := idx_args (f := af) c1
      have ld := ld_args c1 h
      obtain ⟨t, et⟩ : ∃ t, t = ar[i] := ⟨_, rfl⟩
      have hd' : ar.drop i = t :: ar.drop (i + 1) := by rw [et]; exact List.drop_eq_getElem_cons c1
      rw [← et] at ld
      obtain ⟨h3, ho3, ch3, hw3, wc3⟩ := hP t (by rw [et]; exact List.getElem_mem c1) (deep + 1) n d w h ho hw hn (by omega) hd
      have bd := walk_le t (deep + 1) n d hn hd
      rw [hd', walkFs] at hQ
      have h43 := ch3.2 _ _ _ hne h4
      simp only [a32_l25, a32_22, a32_23, a32_24, wpo_u, wpc_draw, s3, reduceIte, Nat.reduceEqDiff, aBin, aInt, negIf, Option.some.injEq, exists_eq_left', Option.map_some, Option.bind_some, g0, g2, g4, g12, aFieldAddr, Nat.zero_add, aNil_ptr, l5, l2, nl, z0, eqs_nil, aPick, lx, ld, zd, wc_eq wc3, zi]
      cases e : (walkF t (deep + 1) n d) with
      | mk r nd =>
        obtain ⟨n', d'⟩ := nd
        rw [e] at hQ hw3 bd
        subst hb
        cases r with
        | none =>
          refine ih (i + 1) _ h3 n' d' (by omega) (by omega) ho3 hw3 h43 bd.1 bd.2 ?_ ?_ ?_ ?_ fun σ' h' q1 q2 q3 => hQ σ' h' q1 (ch3.trans q2) q3
          · simp only [get_put, reduceIte, Nat.reduceEqDiff, g0]
          · simp only [get_put, reduceIte, Nat.reduceEqDiff, g2]
          · simp only [get_put, reduceIte, Nat.reduceEqDiff, g4]
          · simp only [get_put, reduceIte, Nat.reduceEqDiff]
        | some er =>
          obtain ⟨N, D, hw3'⟩ := hw3
          refine part_stop (ar := ar) (af := af) (i := i + 1) (e := er) hw3' (ld65 h43) ?_ ?_ ?_ fun σ' => hQ σ' h3 ho3 ch3 ⟨N, D, hw3'⟩
          · simp only [get_put, reduceIte, Nat.reduceEqDiff, g0]
          · simp only [get_put, reduceIte, Nat.reduceEqDiff, g4]
          · simp only [get_put, reduceIte, Nat.reduceEqDiff]
    · have z0 : ((i : Int) < (ar.length : Int)) = False := eq_false (by omega)
      rw [List.drop_of_length_le (show ar.length ≤ i by omega), walkFs] at hQ
      simp only [a32_l25, a32_22, wpo_u, wpc_draw, s3, reduceIte, Nat.reduceEqDiff, aBin, aInt, negIf, Option.some.injEq, exists_eq_left', Option.map_some, Option.bind_some, g0, g4, g12, aFieldAddr, Nat.zero_add, aNil_ptr, l5, l2, nl, z0, aPick]
      exact hQ _ h ho Chg.refl hw
set_option maxHeartbeats 4000000 in
theorem part_ok : ∀ t : Tm, t.Ok → PartOk t := by
  refine tm_ind fun k i s c nf ns af ar ih ok deep n d w h ho hw hn hdeep hd => ?_
  obtain ⟨ss, sn, sa, sr⟩ := ok.lens
  have hP : ∀ t, t ∈ ar → PartOk t := fun t m => ih t m (sr.get m)
  obtain ⟨t, et⟩ : ∃ t : Tm, t = .mk k i s c nf ns af ar := ⟨_, rfl⟩
  rw [← et] at ok ⊢
  obtain ⟨cs, ec⟩ : ∃ cs, cs = tc t := ⟨_, rfl⟩
  have ec' : cs = [.int .i64 k, .int .i64 i, .str s, .int .u32 c, slAV nf ns.length (u32s ns), slAV af ar.length (tcs ar)] := by rw [ec, et]; rfl
  have iw := ho.lt hw
  obtain ⟨i4, e4⟩ : ∃ i4, i4 = h.next := ⟨_, rfl⟩
  have hne : i4 ≠ w := by omega
  obtain ⟨h1, eh1⟩ : ∃ h1, h1 = h.new cs := ⟨_, rfl⟩
  have ho1 : HeapOk h1 := by rw [eh1]; exact ho.new _
  have le1 : h.le h1 := by rw [eh1]; exact le_new ho _
  have a1 : h1.at_ i4 0 = some cs := by rw [eh1, e4]; exact at_new _
  rw [ec'] at a1
  have aw1 := le1.2 _ _ _ hw
  have y1 : (AV.agg cs).row = some cs := rfl
  have y2 : cs.length = 6 := by rw [ec']; rfl
  have l0 := ld30 aw1
  have l2 := ld32 aw1
  rw [← ec]
  have ef : walkF t deep n d = if n = 4096 then (some ((n : Int), 5, none), n, d)
    else if deep > 256 then (some ((n : Int), 9, none), n, d)
    else match formF t with
      | some (c, u) => (some ((n : Int), c, u), n, d)
      | none => walkFs ar (deep + 1) (n + 1) (max d deep) := by rw [et, walkF]; try rfl
  obtain ⟨h2, eh2⟩ : ∃ h2, h2 = h1.upd w 0 [.int .i64 ((n + 1 : Nat) : Int), .int .i64 d, .nils] := ⟨_, rfl⟩
  have ho2 : HeapOk h2 := by rw [eh2]; exact ho1.upd (at_look.1 aw1) _ _
  have aw2 : h2.at_ w 0 = some [.int .i64 ((n + 1 : Nat) : Int), .int .i64 d, .nils] := by rw [eh2]; exact at_upd
  have a2 : h2.at_ i4 0 = some [.int .i64 k, .int .i64 i, .str s, .int .u32 c, slAV nf ns.length (u32s ns), slAV af ar.length (tcs ar)] := by rw [eh2, at_upd_ne hne]; exact a1
  obtain ⟨h3, eh3⟩ : ∃ h3, h3 = h2.upd w 0 [.int .i64 ((n + 1 : Nat) : Int), .int .i64 ((max d deep : Nat) : Int), .nils] := ⟨_, rfl⟩
  have ho3 : HeapOk h3 := by rw [eh3]; exact ho2.upd (at_look.1 aw2) _ _
  have aw3 : h3.at_ w 0 = some [.int .i64 ((n + 1 : Nat) : Int), .int .i64 ((max d deep : Nat) : Int), .nils] := by rw [eh3]; exact at_upd
  have a3 : h3.at_ i4 0 = some [.int .i64 k, .int .i64 i, .str s, .int .u32 c, slAV nf ns.length (u32s ns), slAV af ar.length (tcs ar)] := by rw [eh3, at_upd_ne hne]; exact a2
  have s1 : aStore h1 1 (.ptr w 0 0) (.int .i64 ((n + 1 : Nat) : Int)) = some ⟨.undef, h2, .write⟩ := by rw [eh2]; exact st30 aw1
  have l1 := ld31 aw2
  have s2 : aStore h2 1 (.ptr w 0 1) (.int .i64 ((max d deep : Nat) : Int)) = some ⟨.undef, h3, .write⟩ := by rw [eh3]; exact st31 aw2
  have q0 := ld60 a3
  have q1 := ld61 a3
  have q2 := ld62 a3
  have q6 : aLoad h3 true 6 (.ptr i4 0 0) = some ⟨.agg cs, h3, .read⟩ := by rw [ec']; exact ld6 a3
  have zn : IntKind.wrap .i64 ((n : Int) + 1) = ((n + 1 : Nat) : Int) := wrap_nat (by omega) (by omega)
  have zm : aMinMax true (.int .i64 d) (.int .i64 deep) = some (.int .i64 ((max d deep : Nat) : Int)) := by
    show some (AV.int .i64 (if (d : Int) < deep then (deep : Int) else d)) = _
    split
    · rw [Nat.max_eq_right (by omega)]
    · rw [Nat.max_eq_left (by omega)]
  have ch : Chg (fun i => i = w) h h3 := by
    refine (le1.chg (S := fun i => i = w)).trans ?_
    rw [eh3, eh2]
    exact (upd_chg (S := fun i => i = w) rfl).trans (upd_chg (S := fun i => i = w) rfl)
  have hrun : WC env 32 [.ptr w 0 0, .agg cs, .int .i64 deep] h (fun o => ∃ h', o = .ret ⟨.tup [], h', .write⟩ ∧ HeapOk h' ∧ Chg (fun i => i = w) h h' ∧ PartEnd h' w (walkF t deep n d)) := by
    refine call_body rfl rfl (.inr (by simp only [AV.noRefs, AV.noRef, Bool.false_and])) ?_
    -- a fault is set: the end
    have stop : ∀ (e : Int × Int × Und) (n' d' : Nat), walkF t deep n d = (some e, n', d') → ∀ σ : Slots, σ.get 0 = .ptr w 0 0 → σ.get 4 = .ptr i4 0 0 → wpo env a32_21 ⟨σ, h3.upd w 0 [.int .i64 ((n + 1 : Nat) : Int), .int .i64 ((max d deep : Nat) : Int), rlinkAV (some e)]⟩ (seqQ env (.block 1 (.loop a32_l25)) (retQ env [] (fun o => ∃ h', o = .ret ⟨.tup [], h', .write⟩ ∧ HeapOk h' ∧ Chg (fun i => i = w) h h' ∧ PartEnd h' w (walkF t deep n d)))) := by
      intro e n' d' he σ g0 g4
      have a4 : (h3.upd w 0 [.int .i64 ((n + 1 : Nat) : Int), .int .i64 ((max d deep : Nat) : Int), rlinkAV (some e)]).at_ i4 0 = some [.int .i64 k, .int .i64 i, .str s, .int .u32 c, slAV nf ns.length (u32s ns), slAV af ar.length (tcs ar)] := by rw [at_upd_ne hne]; exact a3
      simp only [a32_21, wpc_draw, s3, reduceIte, Nat.reduceEqDiff, aBin, aInt, negIf, Option.some.injEq, exists_eq_left', Option.map_some, Option.bind_some]
      refine part_stop (ar := ar) (af := af) (i := 0) (e := e) at_upd (ld65 a4) ?_ ?_ ?_ fun σ' => ?_
      · simp only [get_put, reduceIte, Nat.reduceEqDiff, g0]
      · simp only [get_put, reduceIte, Nat.reduceEqDiff, g4]
      · simp only [get_put, reduceIte, Nat.reduceEqDiff]; rfl
      simp only [wpc_draw, s3, reduceIte, Nat.reduceEqDiff, aBin, aInt, negIf, Option.some.injEq, exists_eq_left', Option.map_some, Option.bind_some]
      exact ⟨[], rfl, _, rfl, ho3.upd (at_look.1 aw3) _ _, ch.trans (upd_chg (S := fun i => i = w) rfl), by rw [he]; exact ⟨_, _, at_upd⟩⟩
    have eb : a32.body = (.seq (.ops a32_0) (.seq (.seq (.ops a32_1) (.cond (.t 17) .ret .skip)) (.seq (.ops a32_2) (.seq (.ops a32_3) (.seq (.ops a32_4) (.seq (.block 0 (.seq (.ops a32_5) (.cond (.t 38) (.ops a32_6) (.seq (.ops a32_7) (.cond (.t 46) (.ops a32_8) (.seq (.ops a32_9) (.cond (.t 54) (.ops a32_10) (.seq (.ops a32_11) (.cond (.t 63) (.ops a32_12) (.seq (.ops a32_13) (.cond (.t 82) (.seq (.ops a32_14) (.seq (.ops a32_15) (.cond (.t 93) (.ops a32_16) .skip))) (.seq (.ops a32_17) (.cond (.t 100) (.seq (.ops a32_18) (.seq (.ops a32_19) (.cond (.t 117) (.ops a32_20) .skip))) .skip))))))))))))) (.seq (.ops a32_21) (.block 1 (.loop a32_l25))))))))) := rfl
    have er : a32.results = [] := rfl
    obtain ⟨L, eL⟩ : ∃ L, L = AC.block 1 (.loop a32_l25) := ⟨_, rfl⟩
    rw [← eL] at stop eb
    rw [eb, er]
    have s3' : ∀ e, aStore h3 1 (.ptr w 0 2) (rlinkAV (some e)) = some ⟨.undef, h3.upd w 0 [.int .i64 ((n + 1 : Nat) : Int), .int .i64 ((max d deep : Nat) : Int), rlinkAV (some e)], .write⟩ := fun e => st32 aw3 e
    have none_set : ∀ (x y : Int), True := fun _ _ => trivial
    by_cases c1 : n = 4096
    · have z : ((n : Int) ≥ 4096) = True := eq_true (by omega)
      have e1 : walkF t deep n d = (some ((n : Int), 5, none), n, d) := by rw [ef, if_pos c1]
      simp only [a32_0, a32_1, a32_2, a32_3, a32_4, a32_5, a32_6, Slots.ofList, wpc_draw, s3, reduceIte, Nat.reduceEqDiff, aBin, aInt, negIf, Option.some.injEq, exists_eq_left', Option.map_some, Option.bind_some, wp1_minmax, op_minmax, y1, y2, ← eh1, ← e4, aNil_ptr, aFieldAddr, Nat.zero_add, l0, l2, eqs_nil, Bool.not_true, zn, s1, l1, zm, s2, z, wc_eq (rno_spec _ _ _), s3']
      exact stop _ _ _ e1 _ (by simp only [get_put, reduceIte, Nat.reduceEqDiff]) (by simp only [get_put, reduceIte, Nat.reduceEqDiff])
    have z : ((n : Int) ≥ 4096) = False := eq_false (by omega)
    by_cases c2 : deep > 256
    · have z2 : ((deep : Int) > 256) = True := eq_true (by omega)
      have e1 : walkF t deep n d = (some ((n : Int), 9, none), n, d) := by rw [ef, if_neg c1, if_pos c2]
      simp only [a32_0, a32_1, a32_2, a32_3, a32_4, a32_5, a32_7, a32_8, Slots.ofList, wpc_draw, s3, reduceIte, Nat.reduceEqDiff, aBin, aInt, negIf, Option.some.injEq, exists_eq_left', Option.map_some, Option.bind_some, wp1_minmax, op_minmax, y1, y2, ← eh1, ← e4, aNil_ptr, aFieldAddr, Nat.zero_add, l0, l2, eqs_nil, Bool.not_true, zn, s1, l1, zm, s2, z, z2, wc_eq (rno_spec _ _ _), s3']
      exact stop _ _ _ e1 _ (by simp only [get_put, reduceIte, Nat.reduceEqDiff]) (by simp only [get_put, reduceIte, Nat.reduceEqDiff])
    have z2 : ((deep : Int) > 256) = False := eq_false (by omega)
    have wf : ∀ h, WC env 49 [.agg cs] h (fun o => o = .ret ⟨.bool (kindOk t), h, .none⟩) := fun h => by rw [ec]; exact rform_spec t ok h
    have ff : formF t = if kindOk t = false then some (40, none) else if k = 1 then if i < -576460752303423488 ∨ i > 576460752303423487 then some (2, none) else none else if k = 2 then (match quoteErr s with | some (p, c) => some (c, some (p, c)) | none => none) else if k = 3 ∨ k = 4 then if nodeF s then none else some (24, some (0, 24)) else none := by rw [et, formF]; rfl
    have eo : ∀ cd u, formF t = some (cd, u) → walkF t deep n d = (some ((n : Int), cd, u), n, d) := fun cd u e => by rw [ef, if_neg c1, if_neg c2, e]
    cases c3 : kindOk t with
    | false =>
      have wf : ∀ h, WC env 49 [.agg cs] h (fun o => o = .ret ⟨.bool false, h, .none⟩) := fun h => by have := wf h; rw [c3] at this; exact this
      have e1 := eo 40 none (by rw [ff, if_pos c3])
      simp only [a32_0, a32_1, a32_2, a32_3, a32_4, a32_5, a32_7, a32_9, a32_10, Slots.ofList, wpc_draw, s3, reduceIte, Nat.reduceEqDiff, aBin, aInt, negIf, Option.some.injEq, exists_eq_left', Option.map_some, Option.bind_some, wp1_minmax, op_minmax, y1, y2, ← eh1, ← e4, aNil_ptr, aFieldAddr, Nat.zero_add, l0, l2, eqs_nil, Bool.not_true, zn, s1, l1, zm, s2, z, z2, q6, wc_eq (wf _), aUn, Bool.not_false, wc_eq (rno_spec _ _ _), s3']
      exact stop _ _ _ e1 _ (by simp only [get_put, reduceIte, Nat.reduceEqDiff]) (by simp only [get_put, reduceIte, Nat.reduceEqDiff])
    | true =>
    have wf : ∀ h, WC env 49 [.agg cs] h (fun o => o = .ret ⟨.bool true, h, .none⟩) := fun h => by have := wf h; rw [c3] at this; exact this
    rw [if_neg (by rw [c3]; decide)] at ff
    -- no fault here: on to the parts
    have goon : formF t = none → ∀ σ : Slots, σ.get 0 = .ptr w 0 0 → σ.get 2 = .int .i64 deep → σ.get 4 = .ptr i4 0 0 → wpo env a32_21 ⟨σ, h3⟩ (seqQ env L (retQ env [] (fun o => ∃ h', o = .ret ⟨.tup [], h', .write⟩ ∧ HeapOk h' ∧ Chg (fun i => i = w) h h' ∧ PartEnd h' w (walkF t deep n d)))) := by
      intro e σ g0 g2 g4
      have e1 : walkF t deep n d = walkFs ar (deep + 1) (n + 1) (max d deep) := by rw [ef, if_neg c1, if_neg c2, e]
      rw [e1, eL]
      simp only [a32_21, wpc_draw, s3, reduceIte, Nat.reduceEqDiff, aBin, aInt, negIf, Option.some.injEq, exists_eq_left', Option.map_some, Option.bind_some]
      refine part_loop (ar := ar) hP sa (af := af) (w := w) (i4 := i4) (deep := deep) hne (by omega) (ar.length + 1) 0 _ h3 (n + 1) (max d deep) (by omega) (by omega) ho3 aw3 a3 (by omega) (by omega) ?_ ?_ ?_ ?_ fun σ' h' p1 p2 p3 => ?_
      · simp only [get_put, reduceIte, Nat.reduceEqDiff, g0]
      · simp only [get_put, reduceIte, Nat.reduceEqDiff, g2]
      · simp only [get_put, reduceIte, Nat.reduceEqDiff, g4]
      · simp only [get_put, reduceIte, Nat.reduceEqDiff]; rfl
      rw [List.drop_zero] at p3
      simp only [wpc_draw, s3, reduceIte, Nat.reduceEqDiff, aBin, aInt, negIf, Option.some.injEq, exists_eq_left', Option.map_some, Option.bind_some]
      exact ⟨[], rfl, h', rfl, p1, ch.trans p2, p3⟩
    by_cases k1 : k = 1
    · have y5 : (k == 1) = true := by simp [k1]
      rw [if_pos k1] at ff
      by_cases b1 : i < -576460752303423488
      · have z3 : (i < -576460752303423488) = True := eq_true b1
        have e1 := eo 2 none (by rw [ff, if_pos (.inl b1)])
        simp only [a32_0, a32_1, a32_2, a32_3, a32_4, a32_5, a32_7, a32_9, a32_11, a32_12, Slots.ofList, wpo_u, wpc_draw, s3, reduceIte, Nat.reduceEqDiff, aBin, aInt, negIf, Option.some.injEq, exists_eq_left', Option.map_some, Option.bind_some, wp1_minmax, op_minmax, y1, y2, ← eh1, ← e4, aNil_ptr, aFieldAddr, Nat.zero_add, l0, l2, eqs_nil, Bool.not_true, zn, s1, l1, zm, s2, z, z2, q0, q1, q6, wc_eq (wf _), aUn, aPick, y5, z3, wc_eq (rno_spec _ _ _), s3']
        exact stop _ _ _ e1 _ (by simp only [get_put, reduceIte, Nat.reduceEqDiff]) (by simp only [get_put, reduceIte, Nat.reduceEqDiff])
      have z3 : (i < -576460752303423488) = False := eq_false b1
      by_cases b2 : i > 576460752303423487
      · have z4 : (i > 576460752303423487) = True := eq_true b2
        have e1 := eo 2 none (by rw [ff, if_pos (.inr b2)])
        simp only [a32_0, a32_1, a32_2, a32_3, a32_4, a32_5, a32_7, a32_9, a32_11, a32_12, Slots.ofList, wpo_u, wpc_draw, s3, reduceIte, Nat.reduceEqDiff, aBin, aInt, negIf, Option.some.injEq, exists_eq_left', Option.map_some, Option.bind_some, wp1_minmax, op_minmax, y1, y2, ← eh1, ← e4, aNil_ptr, aFieldAddr, Nat.zero_add, l0, l2, eqs_nil, Bool.not_true, zn, s1, l1, zm, s2, z, z2, q0, q1, q6, wc_eq (wf _), aUn, aPick, y5, z3, z4, wc_eq (rno_spec _ _ _), s3']
        exact stop _ _ _ e1 _ (by simp only [get_put, reduceIte, Nat.reduceEqDiff]) (by simp only [get_put, reduceIte, Nat.reduceEqDiff])
      have z4 : (i > 576460752303423487) = False := eq_false b2
      rw [if_neg (by rintro (h | h); exact b1 h; exact b2 h)] at ff
      have y6 : (k == 2) = false := by simp; omega
      have y7 : (k == 3) = false := by simp; omega
      have y8 : (k == 4) = false := by simp; omega
      simp only [a32_0, a32_1, a32_2, a32_3, a32_4, a32_5, a32_7, a32_9, a32_11, a32_13, a32_17, Slots.ofList, wpo_u, wpc_draw, s3, reduceIte, Nat.reduceEqDiff, aBin, aInt, negIf, Option.some.injEq, exists_eq_left', Option.map_some, Option.bind_some, wp1_minmax, op_minmax, y1, y2, ← eh1, ← e4, aNil_ptr, aFieldAddr, Nat.zero_add, l0, l2, eqs_nil, Bool.not_true, zn, s1, l1, zm, s2, z, z2, q0, q1, q6, wc_eq (wf _), aUn, aPick, y5, y6, y7, y8, z3, z4]
      exact goon ff _ (by simp only [get_put, reduceIte, Nat.reduceEqDiff]) (by simp only [get_put, reduceIte, Nat.reduceEqDiff]) (by simp only [get_put, reduceIte, Nat.reduceEqDiff])
    have y5 : (k == 1) = false := by simpa using k1
    rw [if_neg k1] at ff
    by_cases k2 : k = 2
    · have y6 : (k == 2) = true := by simp [k2]
      have y7 : (k == 3) = false := by simp; omega
      have y8 : (k == 4) = false := by simp; omega
      rw [if_pos k2] at ff
      obtain ⟨q, wq⟩ := wc_ex (rquote_spec s h3)
      cases eq : quoteErr s with
      | some pc =>
        obtain ⟨pp, cc⟩ := pc
        rw [eq] at wq ff
        have e1 := eo cc (some (pp, cc)) ff
        simp only [a32_0, a32_1, a32_2, a32_3, a32_4, a32_5, a32_7, a32_9, a32_11, a32_13, a32_14, a32_15, a32_16, Slots.ofList, wpo_u, wpc_draw, s3, reduceIte, Nat.reduceEqDiff, aBin, aInt, negIf, Option.some.injEq, exists_eq_left', Option.map_some, Option.bind_some, wp1_minmax, op_minmax, y1, y2, ← eh1, ← e4, aNil_ptr, aFieldAddr, Nat.zero_add, l0, l2, eqs_nil, Bool.not_true, zn, s1, l1, zm, s2, z, z2, q0, q1, q2, q6, wc_eq (wf _), aUn, aPick, y5, y6, wc_eq wq, aExtract, ex0, ex1, eqs_err, Bool.not_false, wc_eq (rover_spec _ _ _ _), s3']
        exact stop _ _ _ e1 _ (by simp only [get_put, reduceIte, Nat.reduceEqDiff]) (by simp only [get_put, reduceIte, Nat.reduceEqDiff])
      | none =>
        rw [eq] at wq ff
        have wq : WC env 50 [.str s] h3 (fun o => o = .ret ⟨.tup [.str q, .nils], h3, .none⟩) := wq
        simp only [a32_0, a32_1, a32_2, a32_3, a32_4, a32_5, a32_7, a32_9, a32_11, a32_13, a32_14, a32_15, Slots.ofList, wpo_u, wpc_draw, s3, reduceIte, Nat.reduceEqDiff, aBin, aInt, negIf, Option.some.injEq, exists_eq_left', Option.map_some, Option.bind_some, wp1_minmax, op_minmax, y1, y2, ← eh1, ← e4, aNil_ptr, aFieldAddr, Nat.zero_add, l0, l2, eqs_nil, Bool.not_true, zn, s1, l1, zm, s2, z, z2, q0, q1, q2, q6, wc_eq (wf _), aUn, aPick, y5, y6, wc_eq wq, aExtract, ex0, ex1]
        exact goon ff _ (by simp only [get_put, reduceIte, Nat.reduceEqDiff]) (by simp only [get_put, reduceIte, Nat.reduceEqDiff]) (by simp only [get_put, reduceIte, Nat.reduceEqDiff])
    have y6 : (k == 2) = false := by simpa using k2
    rw [if_neg k2] at ff
    by_cases k34 : k = 3 ∨ k = 4
    case neg =>
      have y7 : (k == 3) = false := by simp; omega
      have y8 : (k == 4) = false := by simp; omega
      rw [if_neg k34] at ff
      simp only [a32_0, a32_1, a32_2, a32_3, a32_4, a32_5, a32_7, a32_9, a32_11, a32_13, a32_17, Slots.ofList, wpo_u, wpc_draw, s3, reduceIte, Nat.reduceEqDiff, aBin, aInt, negIf, Option.some.injEq, exists_eq_left', Option.map_some, Option.bind_some, wp1_minmax, op_minmax, y1, y2, ← eh1, ← e4, aNil_ptr, aFieldAddr, Nat.zero_add, l0, l2, eqs_nil, Bool.not_true, zn, s1, l1, zm, s2, z, z2, q0, q1, q6, wc_eq (wf _), aUn, aPick, y5, y6, y7, y8]
      exact goon ff _ (by simp only [get_put, reduceIte, Nat.reduceEqDiff]) (by simp only [get_put, reduceIte, Nat.reduceEqDiff]) (by simp only [get_put, reduceIte, Nat.reduceEqDiff])
    rw [if_pos k34] at ff
    obtain ⟨n1, n2, wq⟩ := wc_ex2 (rnode_spec s ss h3)
    have last : ∀ (σ : Slots), σ.get 0 = .ptr w 0 0 → σ.get 2 = .int .i64 deep → σ.get 4 = .ptr i4 0 0 → σ.get 6 = .int .i64 n → wpo env a32_18 ⟨σ, h3⟩ (seqQ env (.seq (.ops a32_19) (.cond (.t 117) (.ops a32_20) .skip)) (blockQ' 0 (seqQ env (.seq (.ops a32_21) L) (retQ env [] (fun o => ∃ h', o = .ret ⟨.tup [], h', .write⟩ ∧ HeapOk h' ∧ Chg (fun i => i = w) h h' ∧ PartEnd h' w (walkF t deep n d)))))) := by
      intro σ g0 g2 g4 g6
      cases eq : nodeF s with
      | true =>
        rw [eq, if_pos rfl] at wq ff
        have wq : WC env 52 [.str s] h3 (fun o => o = .ret ⟨.tup [.str n1, .str n2, .nils], h3, .none⟩) := wq
        simp only [a32_18, a32_19, wpc_draw, s3, reduceIte, Nat.reduceEqDiff, aBin, aInt, negIf, Option.some.injEq, exists_eq_left', Option.map_some, Option.bind_some, g0, g4, aFieldAddr, Nat.zero_add, q2, wc_eq wq, aExtract, x30, x31, x32, eqs_nil, Bool.not_true]
        exact goon ff _ (by simp only [get_put, reduceIte, Nat.reduceEqDiff, g0]) (by simp only [get_put, reduceIte, Nat.reduceEqDiff, g2]) (by simp only [get_put, reduceIte, Nat.reduceEqDiff, g4])
      | false =>
        rw [eq, if_neg (by decide)] at wq ff
        have e1 := eo 24 (some (0, 24)) ff
        simp only [a32_18, a32_19, a32_20, wpc_draw, s3, reduceIte, Nat.reduceEqDiff, aBin, aInt, negIf, Option.some.injEq, exists_eq_left', Option.map_some, Option.bind_some, g0, g4, g6, aNil_ptr, aFieldAddr, Nat.zero_add, q2, wc_eq wq, aExtract, x30, x31, x32, eqs_err, Bool.not_false, wc_eq (rover_spec _ _ _ _), s3']
        exact stop _ _ _ e1 _ (by simp only [get_put, reduceIte, Nat.reduceEqDiff, g0]) (by simp only [get_put, reduceIte, Nat.reduceEqDiff, g4])
    by_cases kk3 : k = 3
    · have y7 : (k == 3) = true := by simp [kk3]
      simp only [a32_0, a32_1, a32_2, a32_3, a32_4, a32_5, a32_7, a32_9, a32_11, a32_13, a32_17, Slots.ofList, wpo_u, wpc_draw, s3, reduceIte, Nat.reduceEqDiff, aBin, aInt, negIf, Option.some.injEq, exists_eq_left', Option.map_some, Option.bind_some, wp1_minmax, op_minmax, y1, y2, ← eh1, ← e4, aNil_ptr, aFieldAddr, Nat.zero_add, l0, l2, eqs_nil, Bool.not_true, zn, s1, l1, zm, s2, z, z2, q0, q1, q6, wc_eq (wf _), aUn, aPick, y5, y6, y7]
      exact last _ (by simp only [get_put, reduceIte, Nat.reduceEqDiff]) (by simp only [get_put, reduceIte, Nat.reduceEqDiff]) (by simp only [get_put, reduceIte, Nat.reduceEqDiff]) (by simp only [get_put, reduceIte, Nat.reduceEqDiff])
    · have y7 : (k == 3) = false := by simpa using kk3
      have y8 : (k == 4) = true := by simp; omega
      simp only [a32_0, a32_1, a32_2, a32_3, a32_4, a32_5, a32_7, a32_9, a32_11, a32_13, a32_17, Slots.ofList, wpo_u, wpc_draw, s3, reduceIte, Nat.reduceEqDiff, aBin, aInt, negIf, Option.some.injEq, exists_eq_left', Option.map_some, Option.bind_some, wp1_minmax, op_minmax, y1, y2, ← eh1, ← e4, aNil_ptr, aFieldAddr, Nat.zero_add, l0, l2, eqs_nil, Bool.not_true, zn, s1, l1, zm, s2, z, z2, q0, q1, q6, wc_eq (wf _), aUn, aPick, y5, y6, y7, y8]
      exact last _ (by simp only [get_put, reduceIte, Nat.reduceEqDiff]) (by simp only [get_put, reduceIte, Nat.reduceEqDiff]) (by simp only [get_put, reduceIte, Nat.reduceEqDiff]) (by simp only [get_put, reduceIte, Nat.reduceEqDiff])
  obtain ⟨o, hr, h', ho', p1, p2, p3⟩ := hrun
  exact ⟨h', p1, p2, p3, o, hr, ho'⟩
theorem rcheck_spec (t : Tm) (ok : t.Ok) (h : Heap) : WC env 16 [.agg (tc t)] h (fun o => o = .ret ⟨rlinkAV (chkF t), h, .none⟩) := by
  refine call_pure rfl rfl rfl (by simp only [AV.noRefs, AV.noRef, noRef_tc, Bool.and_self]) ?_
  obtain ⟨h1, eh1⟩ : ∃ h1, h1 = Heap.empty.new (tc t) := ⟨_, rfl⟩
  have ho1 : HeapOk h1 := by rw [eh1]; exact HeapOk.empty.new _
  have a1 : h1.at_ Heap.empty.next 0 = some (tc t) := by rw [eh1]; exact at_new _
  obtain ⟨h2, eh2⟩ : ∃ h2, h2 = h1.new [.int .i64 0, .int .i64 0, .nils] := ⟨_, rfl⟩
  have ho2 : HeapOk h2 := by rw [eh2]; exact ho1.new _
  have a2 : h2.at_ Heap.empty.next 0 = some (tc t) := by rw [eh2]; exact (le_new ho1 _).2 _ _ _ a1
  have aw2 : h2.at_ h1.next 0 = some [.int .i64 ((0 : Nat) : Int), .int .i64 ((0 : Nat) : Int), .nils] := by rw [eh2]; exact at_new _
  obtain ⟨h3, ho3, ch3, aw3, w3⟩ := part_ok t ok 1 0 0 _ h2 ho2 aw2 (by omega) (by omega) (by omega)
  have w3 : WC env 32 [.ptr h1.next 0 0, .agg (tc t), .int .i64 1] h2 (fun o => o = .ret ⟨.tup [], h3, .write⟩) := w3
  have y1 : (AV.agg (tc t)).row = some (tc t) := rfl
  have y2 : (tc t).length = 6 := tc_length t
  have y3 : aFill [.int .i64 0, .int .i64 0, .nils] [] = some [.int .i64 0, .int .i64 0, .nils] := rfl
  have y4 : (AV.agg [.int .i64 0, .int .i64 0, .nils]).row = some [.int .i64 0, .int .i64 0, .nils] := rfl
  have y5 : ([AV.int .i64 0, .int .i64 0, .nils] : List AV).length = 3 := rfl
  have l6 := ld_t a2
  have l2 : aLoad h3 false 1 (.ptr h1.next 0 2) = some ⟨rlinkAV (chkF t), h3, .read⟩ := by
    rw [chkF]
    cases e : walkF t 1 0 0 with
    | mk r nd =>
      obtain ⟨n, d⟩ := nd
      rw [e] at aw3
      cases r with
      | none => exact ld32 aw3
      | some er => obtain ⟨N, D, aw3⟩ := aw3; exact ld32 aw3
  simp only [a16, a16_0, a16_1, a16_2, a16_3, Slots.ofList, wpc_draw, s3, reduceIte, Nat.reduceEqDiff, aBin, aInt, negIf, Option.some.injEq, exists_eq_left', Option.map_some, Option.bind_some, y1, y2, y3, y4, y5, ← eh1, ← eh2, l6, wc_eq w3, aNil_ptr, aFieldAddr, Nat.zero_add, l2]
  exact ⟨[rlinkAV (chkF t)], rlinkAV (chkF t), by simp only [Env.results, Option.map_some, get_put, reduceIte, Nat.reduceEqDiff], (frz_noRef (v := rlinkAV (chkF t)) (noRef_link _)).2 rfl, rfl⟩
end Go.Bf
