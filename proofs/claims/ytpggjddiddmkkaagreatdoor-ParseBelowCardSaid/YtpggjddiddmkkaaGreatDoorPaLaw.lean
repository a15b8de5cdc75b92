/-
  ParseBelow: both answer the same.
-/
import Derived.Test.YtpggjddiddmkkaaGreatDoorPaFunc
import Derived.Test.YtpggjddiddmkkaaGreatDoorAmD
import Derived.Lib.Index
import Derived.KernelRfl
set_option linter.unusedVariables false
namespace Go.Pa
open Go.AM
/-- the place of a text in a text, counted on from n -/
def subAt (t : List UInt8) : List UInt8 → Nat → Int
  | [], n => if t.isEmpty then n else -1
  | b :: l, n => if t.isPrefixOf (b :: l) then n else subAt t l (n + 1)
theorem subAt_eq (t : List UInt8) : ∀ (s : List UInt8) (n : Nat), subAt t s n = if Lib.index s t = -1 then -1 else Lib.index s t + n
  | [], n => by
    rw [subAt, Lib.index]
    split
    · rw [if_neg (by decide)]; omega
    · rw [if_pos rfl]
  | b :: l, n => by
    rw [subAt, Lib.index]
    split
    · rw [if_neg (by decide)]; omega
    · rw [subAt_eq t l (n + 1)]
      have hge := Lib.index_ge l t
      by_cases e : Lib.index l t = -1
      · simp [e]
      · have e2 : (Lib.index l t == -1) = false := by simpa using e
        have e3 : Lib.index l t + 1 ≠ -1 := by omega
        simp only [e2, Bool.false_eq_true, if_false, if_neg e, if_neg e3]
        omega
theorem subAt_index (t s : List UInt8) : subAt t s 0 = Lib.index s t := by
  rw [subAt_eq]
  split
  · rename_i h; exact h.symm
  · omega
def indexP : List AV → Heap → Option (AV × Heap)
  | [.str s, .str t], h => if s.length < 4294967281 then some (.int .i64 (subAt t s 0), h) else none
  | _, _ => none
/-- errors.As of no error -/
def asP : List AV → Heap → Option (AV × Heap)
  | [.nili, .ifc 80 (.ptr id gen off)], h => some (.bool false, h)
  | _, _ => none
def prims : Nat → Option (List AV → Heap → Option (AV × Heap))
  | 37 => some asP
  | 196 => some indexP
  | _ => none
/-- the number of internal/bytealg.MaxLen -/
def maxLenG : Nat := 5
/-- internal/bytealg.MaxLen holds some number -/
def start (B : Nat) (w : World) : Prop := 5 < B ∧ ∃ m, w.cell? ⟨maxLenG, 0, none⟩ = some (.int .i64 m)
def env : Env := { func := func, glob := fun _ => none, pure_ := fun n => [10, 11, 12].elem n, prim := prims, ok := start, dfunc := dfunc, rfunc := rfunc }
end Go.Pa

set_option linter.unusedVariables false
set_option linter.unusedSimpArgs false
set_option maxRecDepth 20000
namespace Go.Pa
open Go.AM
theorem wrap_id {v : Int} (h : -9223372036854775808 ≤ v ∧ v < 9223372036854775808) : IntKind.wrap .i64 v = v := by
  show (if (true && decide (v % 18446744073709551616 ≥ 9223372036854775808)) = true then v % 18446744073709551616 - 18446744073709551616 else v % 18446744073709551616) = v
  split
  · rename_i c
    simp only [Bool.true_and, decide_eq_true_eq] at c
    omega
  · rename_i c
    simp only [Bool.true_and, decide_eq_true_eq] at c
    omega
/-- a slice of numbers that is read -/
structure IS (v : AV) (l : List Int) : Prop where
  len : ∀ h, aLenOp false h v = some ⟨.int .i64 l.length, h, .none⟩
  at_ : ∀ (i : Nat) (hi : i < l.length), ∃ C, aIdxAddr 1 v (.int .i64 i) = some (.fp C) ∧ ldCells false 1 C = some (.int .i64 l[i])
  ok : v.noRef = true
/-- a slice of nodes that is read: their kids -/
structure NS (v : AV) (L : List (List Int)) : Prop where
  len : ∀ h, aLenOp false h v = some ⟨.int .i64 L.length, h, .none⟩
  at_ : ∀ (i : Nat) (hi : i < L.length), ∃ C kv, aIdxAddr 6 v (.int .i64 i) = some (.fp C) ∧ ldCells false 1 (C.drop 4) = some kv ∧ IS kv L[i]
  ok : v.noRef = true
def mark (lim : Int) (bs : List Bool) (k : Int) : List Bool := if 0 ≤ k ∧ k < lim then bs.set k.toNat true else bs
def marks (lim : Int) (bs : List Bool) (ks : List Int) : List Bool := ks.foldl (mark lim) bs
theorem mark_len {lim : Int} {bs : List Bool} {k : Int} : (mark lim bs k).length = bs.length := by
  rw [mark]; split <;> simp
theorem marks_len {lim : Int} : ∀ {ks : List Int} {bs : List Bool}, (marks lim bs ks).length = bs.length
  | [], bs => rfl
  | k :: ks, bs => by
    show (marks lim (mark lim bs k) ks).length = _
    rw [marks_len, mark_len]
/-- marks below a limit leave the others -/
theorem mark_above {lim : Int} {bs : List Bool} {k : Int} {j : Nat} (h : lim ≤ j) : (mark lim bs k)[j]? = bs[j]? := by
  rw [mark]; split
  · rw [List.getElem?_set_ne (by omega)]
  · rfl
theorem marks_above {lim : Int} {j : Nat} (h : lim ≤ j) : ∀ {ks : List Int} {bs : List Bool}, (marks lim bs ks)[j]? = bs[j]?
  | [], bs => rfl
  | k :: ks, bs => by
    show (marks lim (mark lim bs k) ks)[j]? = _
    rw [marks_above h, mark_above h]
def step (L : List (List Int)) (i : Nat) (bs : List Bool) : List Bool := if bs.getD i false = true then marks i bs (L.getD i []) else bs
theorem step_len {L : List (List Int)} {i : Nat} {bs : List Bool} : (step L i bs).length = bs.length := by
  rw [step]; split
  · exact marks_len
  · rfl
theorem step_above {L : List (List Int)} {i j : Nat} {bs : List Bool} (h : i ≤ j) : (step L i bs)[j]? = bs[j]? := by
  rw [step]; split
  · exact marks_above (by omega)
  · rfl
def down (L : List (List Int)) : Nat → List Bool → List Bool
  | 0, bs => bs
  | i + 1, bs => down L i (step L i bs)
theorem down_len {L : List (List Int)} : ∀ {i : Nat} {bs : List Bool}, (down L i bs).length = bs.length
  | 0, bs => rfl
  | i + 1, bs => by rw [down, down_len, step_len]
theorem down_above {L : List (List Int)} {j : Nat} : ∀ {i : Nat} {bs : List Bool}, i ≤ j → (down L i bs)[j]? = bs[j]?
  | 0, bs, _ => rfl
  | i + 1, bs, h => by rw [down, down_above (by omega), step_above (by omega)]
def downAcc (L : List (List Int)) : Nat → List Bool → List Nat → List Nat
  | 0, bs, acc => acc
  | i + 1, bs, acc => downAcc L i (step L i bs) (if bs.getD i false = true then acc ++ [i] else acc)
/-- those that are marked in the end, the greatest first -/
theorem downAcc_eq (L : List (List Int)) (G : Nat → Bool) : ∀ (i : Nat) (bs : List Bool) (acc : List Nat), (∀ j, j < i → (down L i bs).getD j false = G j) → downAcc L i bs acc = acc ++ ((List.range i).reverse.filter G)
  | 0, bs, acc, _ => by simp [downAcc]
  | i + 1, bs, acc, h => by
    have h0 : bs.getD i false = G i := by
      have := h i (by omega)
      rw [down] at this
      rw [← this, List.getD_eq_getElem?_getD, List.getD_eq_getElem?_getD, down_above (Nat.le_refl i), step_above (Nat.le_refl i)]
    rw [downAcc, downAcc_eq L G i _ _ fun j hj => by have := h j (by omega); rwa [down] at this, List.range_succ, List.reverse_append, List.reverse_cons, List.reverse_nil, List.nil_append, List.cons_append, List.nil_append, h0]
    cases hg : G i with
    | true => simp [List.filter_cons, hg]
    | false => simp [List.filter_cons, hg]
def bAV (bs : List Bool) : List AV := bs.map AV.bool
theorem bAV_len {bs : List Bool} : (bAV bs).length = bs.length := by simp [bAV]
theorem bAV_new (n : Nat) : (List.replicate n [AV.bool false]).flatten = bAV (List.replicate n false) := by
  induction n with
  | zero => rfl
  | succ n ih => rw [List.replicate_succ, List.flatten_cons, ih]; rfl
theorem aIndex_nat {kd : IntKind} {n i : Nat} (hi : i < n) : aIndex n (.int kd i) = some i := by
  simp only [aIndex]
  rw [if_pos ⟨by omega, by omega⟩]; rfl
theorem idx_sl {id gen n : Nat} {c : Option Nat} {k : Nat} (hk : k < n) : aIdxAddr 1 (.sl id gen 0 1 n c) (.int .i64 k) = some (.ptr id gen k) := by
  simp only [aIdxAddr, if_true, aIndex_nat (kd := .i64) hk, Option.map_some, Nat.zero_add, Nat.mul_one]
theorem mark_load {h : Heap} {m : Nat} {bs : List Bool} (a : h.at_ m 0 = some (bAV bs)) {k : Nat} (hk : k < bs.length) : aLoad h false 1 (.ptr m 0 k) = some ⟨.bool (bs.getD k false), h, .read⟩ := by
  rw [aLoad_ptr, a, Option.bind_some, bAV, List.drop_eq_getElem_cons (by simpa using hk), List.getElem_map, List.getD_eq_getElem?_getD, List.getElem?_eq_getElem hk]
  rfl
theorem mark_store {h : Heap} {m : Nat} {bs : List Bool} (a : h.at_ m 0 = some (bAV bs)) {k : Nat} (hk : k < bs.length) : aStore h 1 (.ptr m 0 k) (.bool true) = some ⟨.undef, h.upd m 0 (bAV (bs.set k true)), .write⟩ := by
  rw [aStore_1 rfl, a, Option.bind_some, if_pos (by rw [bAV_len]; exact hk), bAV, bAV, List.map_set]
end Go.Pa

set_option linter.unusedVariables false
set_option linter.unusedSimpArgs false
set_option maxRecDepth 20000
namespace Go.Pa
open Go.AM
theorem append_facts {h : Heap} {sz bt : Nat} {x y : AV} {r : OpRes} (e : aAppend h sz bt x y = some r) : r.h.its = h.its ∧ (∀ n, aLen y = some n → n ≠ 0 → r.v.noRef = false) := by
  simp only [aAppend, Option.bind_eq_some_iff] at e
  obtain ⟨n, hn, len, hlen, e⟩ := e
  split at e
  case isFalse => cases e
  split at e
  · rename_i h0
    have ne : ∀ m, aLen y = some m → m ≠ 0 → False := fun m hm h1 => by rw [hn] at hm; cases hm; exact h1 h0
    split at e
    · cases e
    · cases e; exact ⟨rfl, fun m hm h1 => (ne m hm h1).elim⟩
  simp only [Option.bind_eq_some_iff] at e
  obtain ⟨⟨new, c⟩, hc, e⟩ := e
  have grown : ∀ {r : OpRes}, ((sliceCells h sz len x).map fun (old, _) => (⟨.sl h.next 0 0 sz (len + n) none, h.new (old ++ new), .write⟩ : OpRes)) = some r → r.h.its = h.its ∧ (∀ n, aLen y = some n → n ≠ 0 → r.v.noRef = false) := by
    intro r e
    simp only [Option.map_eq_some_iff] at e
    obtain ⟨⟨old, c⟩, _, rfl⟩ := e
    exact ⟨rfl, fun _ _ _ => rfl⟩
  split at e
  · exact grown e
  · exact grown e
  · split at e
    · split at e
      · simp only [Option.bind_eq_some_iff] at e
        obtain ⟨cs, _, e⟩ := e
        split at e
        · cases e; exact ⟨rfl, fun _ _ _ => rfl⟩
        · cases e
      · exact grown e
    · cases e
  · split at e
    · simp only [Option.bind_eq_some_iff] at e
      obtain ⟨cs, _, e⟩ := e
      split at e
      · cases e; exact ⟨rfl, fun _ _ _ => rfl⟩
      · split at e
        · cases e; exact ⟨rfl, fun _ _ _ => rfl⟩
        · cases e
    · cases e
  · cases e
def nAV (k : Nat) : AV := .int .i64 k
/-- one more number behind what was appended -/
theorem app_num {h : Heap} {w : AV} {l : List Nat} (ho : HeapOk h) (k : Acc h 1 w (l.map nAV)) (na : aLen w = some l.length) (hn : l.length < 8000000000000) (c : Nat) :
    ∃ w' h' c', aAppend h 1 8 w (.fs true 1 [.int .i64 c]) = some ⟨w', h', c'⟩ ∧ Acc h' 1 w' ((l ++ [c]).map nAV) ∧ aLen w' = some (l ++ [c]).length ∧ HeapOk h' ∧ Heap.leBut w.own h h' ∧ (∀ id, w'.own = some id → w.own = some id ∨ h.next ≤ id) ∧ w'.noRef = false := by
  obtain ⟨w', h', c', e, k', lb, ho', ow, n'⟩ := Acc.append (bt := 8) ho (by omega : 0 < 1) k na (y := .fs true 1 [.int .i64 c]) (n := 1) rfl (show sliceCells h 1 1 (.fs true 1 [.int .i64 c]) = some ([.int .i64 c], .none) from rfl) rfl (by omega) (by omega)
  obtain ⟨f1, f2⟩ := append_facts e
  refine ⟨w', h', c', e, ?_, by rw [List.length_append]; exact n', ho', lb, ow, f2 1 rfl (by decide)⟩
  rw [List.map_append]; exact k'
/-- turned round from both ends, up to place i -/
def Turned (o c : List AV) (i : Nat) : Prop := c.length = o.length ∧ ∀ k, c[k]? = if k < i ∨ (o.length ≤ k + i ∧ k < o.length) then o[o.length - 1 - k]? else o[k]?
theorem turned_0 (o : List AV) : Turned o o 0 := ⟨rfl, fun k => by
  rw [if_neg (by omega)]⟩
theorem turned_end {o c : List AV} {i : Nat} (t : Turned o c i) (hi : o.length ≤ 2 * i + 1) (h2 : 2 * i ≤ o.length) : c = o.reverse := by
  refine List.ext_getElem? fun k => ?_
  rw [t.2 k]
  by_cases hk : k < o.length
  · rw [List.getElem?_reverse hk]
    split
    · rfl
    · rename_i h
      have : k = o.length - 1 - k := by omega
      rw [← this]
  · rw [if_neg (by omega), List.getElem?_eq_none (by omega), List.getElem?_eq_none (by simp; omega)]
theorem turned_step {o c : List AV} {i j : Nat} (t : Turned o c i) (hj : i + j + 1 = o.length) (hi : i < j) (hc : i < c.length) (hd : j < c.length) : Turned o ((c.set i c[j]).set j c[i]) (i + 1) := by
  obtain ⟨hl, t⟩ := t
  refine ⟨by simp only [List.length_set]; exact hl, fun k => ?_⟩
  have ei : some c[i] = o[i]? := by
    have := t i
    rw [List.getElem?_eq_getElem hc, if_neg (by omega)] at this
    exact this
  have ej : some c[j] = o[j]? := by
    have := t j
    rw [List.getElem?_eq_getElem hd, if_neg (by omega)] at this
    exact this
  by_cases k1 : j = k
  · subst k1
    rw [List.getElem?_set_self (by simpa using hd), if_pos (by omega), ei]
    congr 1; omega
  · rw [List.getElem?_set_ne k1]
    by_cases k2 : i = k
    · subst k2
      rw [List.getElem?_set_self hc, if_pos (by omega), ej]
      congr 1; omega
    · rw [List.getElem?_set_ne k2, t k]
      by_cases q : k < i ∨ (o.length ≤ k + i ∧ k < o.length)
      · rw [if_pos q, if_pos (by omega)]
      · rw [if_neg q, if_neg (by omega)]
theorem idx_acc {id gen n : Nat} {k : Nat} (hk : k < n) : aIdxAddr 1 (.sl id gen 0 1 n none) (.int .i64 k) = some (.ptr id gen k) := by
  simp only [aIdxAddr, if_true, aIndex_nat (kd := .i64) hk, Option.map_some, Nat.zero_add, Nat.mul_one]
theorem load_at {h : Heap} {id gen : Nat} {cs : List AV} (a : h.at_ id gen = some cs) {k : Nat} (hk : k < cs.length) : aLoad h false 1 (.ptr id gen k) = some ⟨cs[k], h, .read⟩ := by
  rw [aLoad_ptr, a, Option.bind_some, List.drop_eq_getElem_cons hk]
  rfl
theorem store_at {h : Heap} {id gen : Nat} {cs : List AV} {v : AV} (a : h.at_ id gen = some cs) {k : Nat} (hk : k < cs.length) (hv : v.row = some [v]) : aStore h 1 (.ptr id gen k) v = some ⟨.undef, h.upd id gen (cs.set k v), .write⟩ := by
  rw [aStore_1 hv, a, Option.bind_some, if_pos hk]
theorem lenOp_nils (h : Heap) : aLenOp false h .nils = some ⟨.int .i64 0, h, .none⟩ := rfl
theorem lenOp_sl {a b c d e : Nat} {f : Option Nat} (h : Heap) : aLenOp false h (.sl a b c d e f) = some ⟨.int .i64 e, h, .none⟩ := rfl
theorem rev_loop {id gen : Nat} {o : List AV} (hr : ∀ v, v ∈ o → v.row = some [v]) (hN : o.length < 8000000000000) {Q : AExit → St → Prop} :
    ∀ (f i j : Nat) (σ : Slots) (h : Heap) (c : List AV), o.length - i < f → i + j + 1 = o.length → 2 * i ≤ o.length → HeapOk h → h.at_ id gen = some c → Turned o c i →
    σ.get 0 = .sl id gen 0 1 o.length none → σ.get 2 = .int .i64 i → σ.get 3 = .int .i64 j →
    (∀ σ' h', HeapOk h' → h'.at_ id gen = some o.reverse → Q (.exit 0) ⟨σ', h'⟩) → WPr env a27_l4 ⟨σ, h⟩ Q := by
  intro f
  induction f with
  | zero => intro i j σ h c q1; omega
  | succ f ih =>
    intro i j σ h c hf hij hi ho at_ tu g0 g2 g3 hQ
    refine wpr_round' fun b hb => ?_
    have hcl := tu.1
    by_cases c1 : i < j
    · have z0 : ((i : Int) < j) = True := eq_true (by omega)
      have li := load_at at_ (k := i) (by omega)
      have lj := load_at at_ (k := j) (by omega)
      have hm : ∀ (k : Nat) (hk : k < c.length), c[k].row = some [c[k]] := fun k hk => by
        have e := tu.2 k
        rw [List.getElem?_eq_getElem hk] at e
        split at e
        · exact hr _ (List.mem_of_getElem? e.symm)
        · exact hr _ (List.mem_of_getElem? e.symm)
      have si := store_at (v := c[j]) at_ (k := i) (by omega) (hm j (by omega))
      have sj := store_at (h := h.upd id gen (c.set i c[j])) (v := c[i]) at_upd (k := j) (by rw [List.length_set]; omega) (hm i (by omega))
      have w1 : IntKind.wrap .i64 ((i : Int) + 1) = ((i + 1 : Nat) : Int) := wrap_nat (by omega) (by omega)
      have w2 : IntKind.wrap .i64 ((j : Int) - 1) = ((j - 1 : Nat) : Int) := wrap_nat (by omega) (by omega)
      simp only [a27_l4, a27_1, s3, reduceIte, Nat.reduceEqDiff, aBin, aInt, negIf, Option.some.injEq, exists_eq_left', Option.map_some, Option.bind_some, g0, g2, g3, z0]
      refine wpc_draw_k ?_
      simp only [a27_2, a27_3, s3, k3, reduceIte, Nat.reduceEqDiff, aBin, aInt, negIf, Option.some.injEq, exists_eq_left', Option.map_some, Option.bind_some, g0, g2, g3, idx_acc (show i < o.length by omega), idx_acc (show j < o.length by omega), li, lj, si, sj, w1, w2]
      refine ⟨rfl, ?_⟩
      subst hb
      refine ih (i + 1) (j - 1) _ _ ((c.set i c[j]).set j c[i]) (by omega) (by omega) (by omega) ?_ at_upd (turned_step tu hij c1 (by omega) (by omega)) ?_ ?_ ?_ hQ
      · exact (ho.upd (at_look.1 at_) _ _).upd (at_look.1 at_upd) _ _
      all_goals simp only [get_put, reduceIte, Nat.reduceEqDiff, g0]
    · have z0 : ((i : Int) < j) = False := eq_false (by omega)
      simp only [a27_l4, a27_1, s3, reduceIte, Nat.reduceEqDiff, aBin, aInt, negIf, Option.some.injEq, exists_eq_left', Option.map_some, Option.bind_some, g0, g2, g3, z0]
      have := turned_end tu (by omega) (by omega)
      subst this
      exact hQ _ h ho at_
theorem rev_spec {h : Heap} {v : AV} {l : List Nat} (ho : HeapOk h) (k : Acc h 1 v (l.map nAV)) (na : aLen v = some l.length) (hn : l.length < 8000000000000) (hv : v = .nils ∨ v.noRef = false) :
    WC env 27 [v] h (fun o => ∃ h', o = .ret ⟨.tup [], h', .write⟩ ∧ HeapOk h' ∧ Acc h' 1 v (l.reverse.map nAV)) := by
  refine call_body (af := a27) rfl rfl (.inl rfl) ?_
  generalize hc : l.map nAV = cells at k
  have hcl : cells.length = l.length := by rw [← hc, List.length_map]
  cases k with
  | nils =>
    have hl : l = [] := by
      rcases l with _ | ⟨a, l⟩
      · rfl
      · simp at hc
    subst hl
    have w0 : IntKind.wrap .i64 ((0 : Int) - 1) = -1 := by decide
    have z0 : ((0 : Int) < -1) = False := eq_false (by decide)
    simp only [a27, a27_0, Slots.ofList, s3, reduceIte, Nat.reduceEqDiff, aBin, aInt, negIf, Option.some.injEq, exists_eq_left', Option.map_some, Option.bind_some, lenOp_nils, w0]
    refine wpr_round' fun b hb => ?_
    simp only [a27_l4, a27_1, s3, reduceIte, Nat.reduceEqDiff, aBin, aInt, negIf, Option.some.injEq, exists_eq_left', Option.map_some, Option.bind_some, z0, retQ_norm, retQ_ret, results_nil, oneOrTup0]
    exact ⟨h, rfl, ho, .nils⟩
  | full n _ hl => 
    rcases hv with hv | hv
    · cases hv
    · subst hc
      have : ∀ l : List Nat, AV.noRefs (l.map nAV) = true := fun l => by
        induction l with
        | nil => rfl
        | cons a l ih => rw [List.map_cons, noRefs_cons, ih]; rfl
      rw [noRef_fs, this] at hv; cases hv
  | sl id gen n _ at_ hl =>
    have e1 : n = cells.length := by omega
    subst e1
    have hr : ∀ v, v ∈ cells → v.row = some [v] := fun v hv => by
      rw [← hc, List.mem_map] at hv
      obtain ⟨a, _, rfl⟩ := hv; rfl
    by_cases h0 : cells.length = 0
    · have hz : cells = [] := List.length_eq_zero_iff.1 h0
      subst hz
      have hl0 : l = [] := List.map_eq_nil_iff.1 hc
      subst hl0
      have w0 : IntKind.wrap .i64 ((0 : Int) - 1) = -1 := by decide
      have z0 : ((0 : Int) < -1) = False := eq_false (by decide)
      simp only [a27, a27_0, Slots.ofList, s3, reduceIte, Nat.reduceEqDiff, aBin, aInt, negIf, Option.some.injEq, exists_eq_left', Option.map_some, Option.bind_some, lenOp_sl, List.length_nil, Int.ofNat_eq_natCast, Int.natCast_zero, w0]
      refine wpr_round' fun b hb => ?_
      simp only [a27_l4, a27_1, s3, reduceIte, Nat.reduceEqDiff, aBin, aInt, negIf, Option.some.injEq, exists_eq_left', Option.map_some, Option.bind_some, z0, retQ_norm, retQ_ret, results_nil, oneOrTup0]
      exact ⟨h, rfl, ho, .sl _ _ _ _ at_ rfl⟩
    · have w1 : IntKind.wrap .i64 ((cells.length : Int) - 1) = ((cells.length - 1 : Nat) : Int) := wrap_nat (by omega) (by omega)
      simp only [a27, a27_0, Slots.ofList, s3, reduceIte, Nat.reduceEqDiff, aBin, aInt, negIf, Option.some.injEq, exists_eq_left', Option.map_some, Option.bind_some, lenOp_sl, w1]
      refine rev_loop hr (by omega) (cells.length + 1) 0 (cells.length - 1) _ h cells (by omega) (by omega) (by omega) ho at_ (turned_0 _) ?_ ?_ ?_ ?_
      · simp only [get_put, reduceIte, Nat.reduceEqDiff]
      · simp only [get_put, reduceIte, Nat.reduceEqDiff]; rfl
      · simp only [get_put, reduceIte, Nat.reduceEqDiff]
      · intro σ' h' ho' at'
        simp only [s3, reduceIte, retQ_norm, retQ_ret, results_nil, oneOrTup0, Option.some.injEq, exists_eq_left']
        refine ⟨h', rfl, ho', ?_⟩
        rw [List.map_reverse, hc]
        exact .sl _ _ _ _ at' (by simp)
end Go.Pa

set_option linter.unusedVariables false
set_option linter.unusedSimpArgs false
set_option maxRecDepth 20000
namespace Go.Pa
open Go.AM
theorem marks_cons {lim : Int} {bs : List Bool} {k : Int} {ks : List Int} : marks lim bs (k :: ks) = marks lim (mark lim bs k) ks := rfl
theorem mark_on {lim : Int} {bs : List Bool} {k : Nat} (h : (k : Int) < lim) : mark lim bs k = bs.set k true := by
  rw [mark, if_pos ⟨by omega, h⟩]; rfl
theorem mark_off {lim : Int} {bs : List Bool} {k : Int} (h : ¬ (0 ≤ k ∧ k < lim)) : mark lim bs k = bs := by
  rw [mark, if_neg h]
/-- the roots of parse.Below -/
theorem roots_loop {m N : Nat} {ks : List Int} {kv nv : AV} (kI : IS kv ks) (hl : ∀ h, aLenOp false h nv = some ⟨.int .i64 N, h, .none⟩) (hk : ks.length < 1000000000000000) {Q : AExit → St → Prop} :
    ∀ (f i : Nat) (σ : Slots) (h : Heap) (bs : List Bool), ks.length - i < f → i ≤ ks.length → HeapOk h → h.at_ m 0 = some (bAV bs) → bs.length = N →
    σ.get 0 = nv → σ.get 5 = .sl m 0 0 1 N (some N) → σ.get 15 = kv → σ.get 16 = .int .i64 ks.length → σ.get 17 = .int .i64 i →
    (∀ σ' h', HeapOk h' → Chg (fun j => j = m) h h' → h'.at_ m 0 = some (bAV (marks N bs (ks.drop i))) → σ'.get 0 = nv → σ'.get 5 = .sl m 0 0 1 N (some N) → Q (.exit 0) ⟨σ', h'⟩) → WPr env a10_l8 ⟨σ, h⟩ Q := by
  intro f
  induction f with
  | zero => intro i σ h bs q1; omega
  | succ f ih =>
    intro i σ h bs hf hi ho at_ hb g0 g5 g15 g16 g17 hQ
    refine wpr_round' fun b hb' => ?_
    by_cases c0 : i < ks.length
    · have z0 : ((i : Int) < ks.length) = True := eq_true (by omega)
      have w1 : IntKind.wrap .i64 ((i : Int) + 1) = ((i + 1 : Nat) : Int) := wrap_nat (by omega) (by omega)
      obtain ⟨C, e1, e2⟩ := kI.at_ i c0
      rw [List.drop_eq_getElem_cons c0, marks_cons] at hQ
      by_cases c1 : 0 ≤ ks[i]
      · have z1 : (ks[i] ≥ 0) = True := eq_true c1
        by_cases c2 : ks[i] < N
        · have z2 : (ks[i] < (N : Int)) = True := eq_true c2
          obtain ⟨k, hk'⟩ : ∃ k : Nat, ks[i] = k := ⟨ks[i].toNat, by omega⟩
          have kN : k < N := by omega
          have st := mark_store at_ (k := k) (by omega)
          rw [hk'] at e2 z1 z2
          rw [hk', mark_on (by omega)] at hQ
          simp only [a10_l8, a10_3, a10_4, a10_5, a10_6, a10_7, s3, h3, reduceIte, Nat.reduceEqDiff, aBin, aInt, negIf, Option.some.injEq, exists_eq_left', Option.map_some, Option.bind_some, g0, g5, g15, g16, g17, z0, e1, e2, z1, z2, hl, idx_sl kN, st, w1]
          subst hb'
          refine ih (i + 1) _ _ (bs.set k true) (by omega) (by omega) (ho.upd (at_look.1 at_) _ _) at_upd (by rw [List.length_set]; exact hb) ?_ ?_ ?_ ?_ ?_ ?_
          · simp only [get_put, reduceIte, Nat.reduceEqDiff, g0]
          · simp only [get_put, reduceIte, Nat.reduceEqDiff, g5]
          · simp only [get_put, reduceIte, Nat.reduceEqDiff, g15]
          · simp only [get_put, reduceIte, Nat.reduceEqDiff, g16]
          · simp only [get_put, reduceIte, Nat.reduceEqDiff]
          · exact fun σ' h' ho' ch => hQ σ' h' ho' (Chg.trans (upd_chg (S := fun j => j = m) rfl) ch)
        · have z2 : (ks[i] < (N : Int)) = False := eq_false c2
          rw [mark_off (fun x => c2 x.2)] at hQ
          simp only [a10_l8, a10_3, a10_4, a10_5, a10_7, s3, h3, reduceIte, Nat.reduceEqDiff, aBin, aInt, negIf, Option.some.injEq, exists_eq_left', Option.map_some, Option.bind_some, g0, g5, g15, g16, g17, z0, e1, e2, z1, z2, hl, w1]
          subst hb'
          refine ih (i + 1) _ _ bs (by omega) (by omega) ho at_ hb ?_ ?_ ?_ ?_ ?_ hQ
          · simp only [get_put, reduceIte, Nat.reduceEqDiff, g0]
          · simp only [get_put, reduceIte, Nat.reduceEqDiff, g5]
          · simp only [get_put, reduceIte, Nat.reduceEqDiff, g15]
          · simp only [get_put, reduceIte, Nat.reduceEqDiff, g16]
          · simp only [get_put, reduceIte, Nat.reduceEqDiff]
      · have z1 : (ks[i] ≥ 0) = False := eq_false c1
        rw [mark_off (fun x => c1 x.1)] at hQ
        simp only [a10_l8, a10_3, a10_4, a10_5, a10_7, s3, h3, reduceIte, Nat.reduceEqDiff, aBin, aInt, negIf, Option.some.injEq, exists_eq_left', Option.map_some, Option.bind_some, g0, g5, g15, g16, g17, z0, e1, e2, z1, w1]
        subst hb'
        refine ih (i + 1) _ _ bs (by omega) (by omega) ho at_ hb ?_ ?_ ?_ ?_ ?_ hQ
        · simp only [get_put, reduceIte, Nat.reduceEqDiff, g0]
        · simp only [get_put, reduceIte, Nat.reduceEqDiff, g5]
        · simp only [get_put, reduceIte, Nat.reduceEqDiff, g15]
        · simp only [get_put, reduceIte, Nat.reduceEqDiff, g16]
        · simp only [get_put, reduceIte, Nat.reduceEqDiff]
    · have z0 : ((i : Int) < ks.length) = False := eq_false (by omega)
      simp only [a10_l8, a10_3, s3, reduceIte, Nat.reduceEqDiff, aBin, aInt, negIf, Option.some.injEq, exists_eq_left', Option.map_some, Option.bind_some, g16, g17, z0]
      rw [List.drop_of_length_le (by omega)] at hQ
      refine hQ _ h ho Chg.refl at_ ?_ ?_
      · simp only [get_put, reduceIte, Nat.reduceEqDiff, g0]
      · simp only [get_put, reduceIte, Nat.reduceEqDiff, g5]
/-- the kids of one node -/
theorem kids_loop {m N lim : Nat} {ks : List Int} {kv nv w : AV} (kI : IS kv ks) (hk : ks.length < 1000000000000000) (hlim : lim < N) {Q : AExit → St → Prop} :
    ∀ (f i : Nat) (σ : Slots) (h : Heap) (bs : List Bool), ks.length - i < f → i ≤ ks.length → HeapOk h → h.at_ m 0 = some (bAV bs) → bs.length = N →
    σ.get 0 = nv → σ.get 5 = .sl m 0 0 1 N (some N) → σ.get 8 = w → σ.get 9 = .int .i64 lim → σ.get 53 = kv → σ.get 54 = .int .i64 ks.length → σ.get 55 = .int .i64 i →
    (∀ σ' h', HeapOk h' → Chg (fun j => j = m) h h' → h'.at_ m 0 = some (bAV (marks lim bs (ks.drop i))) → σ'.get 0 = nv → σ'.get 5 = .sl m 0 0 1 N (some N) → σ'.get 8 = w → σ'.get 9 = .int .i64 lim → Q (.exit 4) ⟨σ', h'⟩) → WPr env a10_l20 ⟨σ, h⟩ Q := by
  intro f
  induction f with
  | zero => intro i σ h bs q1; omega
  | succ f ih =>
    intro i σ h bs hf hi ho at_ hb g0 g5 g8 g9 g15 g16 g17 hQ
    refine wpr_round' fun b hb' => ?_
    by_cases c0 : i < ks.length
    · have z0 : ((i : Int) < ks.length) = True := eq_true (by omega)
      have w1 : IntKind.wrap .i64 ((i : Int) + 1) = ((i + 1 : Nat) : Int) := wrap_nat (by omega) (by omega)
      obtain ⟨C, e1, e2⟩ := kI.at_ i c0
      rw [List.drop_eq_getElem_cons c0, marks_cons] at hQ
      by_cases c1 : 0 ≤ ks[i]
      · have z1 : (ks[i] ≥ 0) = True := eq_true c1
        by_cases c2 : ks[i] < lim
        · have z2 : (ks[i] < (lim : Int)) = True := eq_true c2
          obtain ⟨k, hk'⟩ : ∃ k : Nat, ks[i] = k := ⟨ks[i].toNat, by omega⟩
          have kN : k < N := by omega
          have st := mark_store at_ (k := k) (by omega)
          rw [hk'] at e2 z1 z2
          rw [hk', mark_on (by omega)] at hQ
          simp only [a10_l20, a10_15, a10_16, a10_17, a10_18, a10_19, s3, h3, reduceIte, Nat.reduceEqDiff, aBin, aInt, negIf, Option.some.injEq, exists_eq_left', Option.map_some, Option.bind_some, g0, g5, g9, g15, g16, g17, z0, e1, e2, z1, z2, idx_sl kN, st, w1]
          subst hb'
          refine ih (i + 1) _ _ (bs.set k true) (by omega) (by omega) (ho.upd (at_look.1 at_) _ _) at_upd (by rw [List.length_set]; exact hb) ?_ ?_ ?_ ?_ ?_ ?_ ?_ ?_
          · simp only [get_put, reduceIte, Nat.reduceEqDiff, g0]
          · simp only [get_put, reduceIte, Nat.reduceEqDiff, g5]
          · simp only [get_put, reduceIte, Nat.reduceEqDiff, g8]
          · simp only [get_put, reduceIte, Nat.reduceEqDiff, g9]
          · simp only [get_put, reduceIte, Nat.reduceEqDiff, g15]
          · simp only [get_put, reduceIte, Nat.reduceEqDiff, g16]
          · simp only [get_put, reduceIte, Nat.reduceEqDiff]
          · exact fun σ' h' ho' ch => hQ σ' h' ho' (Chg.trans (upd_chg (S := fun j => j = m) rfl) ch)
        · have z2 : (ks[i] < (lim : Int)) = False := eq_false c2
          rw [mark_off (fun x => c2 x.2)] at hQ
          simp only [a10_l20, a10_15, a10_16, a10_17, a10_19, s3, h3, reduceIte, Nat.reduceEqDiff, aBin, aInt, negIf, Option.some.injEq, exists_eq_left', Option.map_some, Option.bind_some, g0, g5, g9, g15, g16, g17, z0, e1, e2, z1, z2, w1]
          subst hb'
          refine ih (i + 1) _ _ bs (by omega) (by omega) ho at_ hb ?_ ?_ ?_ ?_ ?_ ?_ ?_ hQ
          · simp only [get_put, reduceIte, Nat.reduceEqDiff, g0]
          · simp only [get_put, reduceIte, Nat.reduceEqDiff, g5]
          · simp only [get_put, reduceIte, Nat.reduceEqDiff, g8]
          · simp only [get_put, reduceIte, Nat.reduceEqDiff, g9]
          · simp only [get_put, reduceIte, Nat.reduceEqDiff, g15]
          · simp only [get_put, reduceIte, Nat.reduceEqDiff, g16]
          · simp only [get_put, reduceIte, Nat.reduceEqDiff]
      · have z1 : (ks[i] ≥ 0) = False := eq_false c1
        rw [mark_off (fun x => c1 x.1)] at hQ
        simp only [a10_l20, a10_15, a10_16, a10_17, a10_19, s3, h3, reduceIte, Nat.reduceEqDiff, aBin, aInt, negIf, Option.some.injEq, exists_eq_left', Option.map_some, Option.bind_some, g0, g5, g9, g15, g16, g17, z0, e1, e2, z1, w1]
        subst hb'
        refine ih (i + 1) _ _ bs (by omega) (by omega) ho at_ hb ?_ ?_ ?_ ?_ ?_ ?_ ?_ hQ
        · simp only [get_put, reduceIte, Nat.reduceEqDiff, g0]
        · simp only [get_put, reduceIte, Nat.reduceEqDiff, g5]
        · simp only [get_put, reduceIte, Nat.reduceEqDiff, g8]
        · simp only [get_put, reduceIte, Nat.reduceEqDiff, g9]
        · simp only [get_put, reduceIte, Nat.reduceEqDiff, g15]
        · simp only [get_put, reduceIte, Nat.reduceEqDiff, g16]
        · simp only [get_put, reduceIte, Nat.reduceEqDiff]
    · have z0 : ((i : Int) < ks.length) = False := eq_false (by omega)
      simp only [a10_l20, a10_15, s3, reduceIte, Nat.reduceEqDiff, aBin, aInt, negIf, Option.some.injEq, exists_eq_left', Option.map_some, Option.bind_some, g16, g17, z0]
      rw [List.drop_of_length_le (by omega)] at hQ
      refine hQ _ h ho Chg.refl at_ ?_ ?_ ?_ ?_
      · simp only [get_put, reduceIte, Nat.reduceEqDiff, g0]
      · simp only [get_put, reduceIte, Nat.reduceEqDiff, g5]
      · simp only [get_put, reduceIte, Nat.reduceEqDiff, g8]
      · simp only [get_put, reduceIte, Nat.reduceEqDiff, g9]
theorem at_below {h : Heap} {id gen : Nat} {cs : List AV} (ho : HeapOk h) (a : h.at_ id gen = some cs) : id < h.next := by
  rcases Nat.lt_or_ge id h.next with c | c
  · exact c
  · have := at_look.1 a; rw [ho _ c] at this; cases this
/-- the nodes from the last to the first -/
theorem nodes_loop {m N : Nat} {L : List (List Int)} {nv : AV} (nI : NS nv L) (hN : L.length = N) (hk : ∀ ks, ks ∈ L → ks.length < 1000000000000000) (hN2 : N < 8000000000000) {Q : AExit → St → Prop} :
    ∀ (i : Nat) (σ : Slots) (h : Heap) (bs : List Bool) (w : AV) (acc : List Nat), i ≤ N → HeapOk h → h.at_ m 0 = some (bAV bs) → bs.length = N → Acc h 1 w (acc.map nAV) → aLen w = some acc.length → (∀ id, w.own = some id → id ≠ m) → acc.length + i ≤ N → (w = .nils ∨ w.noRef = false) →
    σ.get 0 = nv → σ.get 5 = .sl m 0 0 1 N (some N) → σ.get 8 = w → σ.get 9 = .int .i64 ((i : Int) - 1) →
    (∀ σ' h' w', HeapOk h' → Acc h' 1 w' ((downAcc L i bs acc).map nAV) → aLen w' = some (downAcc L i bs acc).length → (w' = .nils ∨ w'.noRef = false) → σ'.get 8 = w' → Q (.exit 2) ⟨σ', h'⟩) → WPr env a10_l22 ⟨σ, h⟩ Q := by
  intro i
  induction i with
  | zero =>
    intro σ h bs w acc hi ho at_ hb k na ow hac nw g0 g5 g8 g9 hQ
    refine wpr_round' fun b hb' => ?_
    have e : ((0 : Nat) : Int) - 1 = -1 := rfl
    rw [e] at g9
    have z0 : ((-1 : Int) ≥ 0) = False := eq_false (by decide)
    simp only [a10_l22, a10_11, s3, reduceIte, Nat.reduceEqDiff, aBin, aInt, negIf, Option.some.injEq, exists_eq_left', Option.map_some, Option.bind_some, g9, z0]
    exact hQ _ h w ho k na nw (by simp only [get_put, reduceIte, Nat.reduceEqDiff, g8])
  | succ i ih =>
    intro σ h bs w acc hi ho at_ hb k na ow hac nw g0 g5 g8 g9 hQ
    refine wpr_round' fun b hb' => ?_
    have e : ((i + 1 : Nat) : Int) - 1 = i := by omega
    rw [e] at g9
    have z0 : ((i : Int) ≥ 0) = True := eq_true (by omega)
    have w1 : IntKind.wrap .i64 ((i : Int) - 1) = (i : Int) - 1 := wrap_id (by omega)
    have ld := mark_load at_ (k := i) (by omega)
    have hL : L.getD i [] = L[i]'(by omega) := by rw [List.getD_eq_getElem?_getD, List.getElem?_eq_getElem (by omega)]; rfl
    rw [downAcc] at hQ
    cases hm : bs.getD i false with
    | false =>
      have hs : step L i bs = bs := by rw [step, hm]; rfl
      rw [hm] at ld
      rw [hm, hs, if_neg (by decide)] at hQ
      simp only [a10_l22, a10_11, a10_12, a10_21, s3, h3, reduceIte, Nat.reduceEqDiff, aBin, aInt, negIf, Option.some.injEq, exists_eq_left', Option.map_some, Option.bind_some, g0, g5, g8, g9, z0, idx_sl (show i < N by omega), ld, Bool.not_false, w1]
      subst hb'
      refine ih _ h bs w acc (by omega) ho at_ hb k na ow (by omega) nw ?_ ?_ ?_ ?_ hQ
      · simp only [get_put, reduceIte, Nat.reduceEqDiff, g0]
      · simp only [get_put, reduceIte, Nat.reduceEqDiff, g5]
      · simp only [get_put, reduceIte, Nat.reduceEqDiff, g8]
      · simp only [get_put, reduceIte, Nat.reduceEqDiff]
    | true =>
      have hs : step L i bs = marks i bs (L[i]'(by omega)) := by rw [step, hm, if_pos rfl, hL]
      rw [hm] at ld
      rw [hm, hs, if_pos rfl] at hQ
      obtain ⟨w', h', c', e', k', na', ho', lb, ow', nr⟩ := app_num ho k na (by omega) i
      obtain ⟨C, kv, e1, e2, kI⟩ := nI.at_ i (by omega)
      have at' : h'.at_ m 0 = some (bAV bs) := lb.2 _ _ _ (fun e => ow _ e rfl) at_
      have y2 : aFill [.int .i64 0] [(0, 1, .int .i64 (i : Int))] = some [.int .i64 (i : Int)] := rfl
      simp only [a10_l22, a10_11, a10_12, a10_13, a10_14, a10_21, s3, h3, reduceIte, Nat.reduceEqDiff, aBin, aInt, negIf, Option.some.injEq, exists_eq_left', Option.map_some, Option.bind_some, g0, g5, g8, g9, z0, idx_sl (show i < N by omega), ld, Bool.not_true, y2, Nat.reduceMul, List.length_cons, List.length_nil, if_true, e', isC c', e1, e2, kI.len]
      refine kids_loop (nv := nv) (w := w') (lim := i) kI (hk _ (List.getElem_mem (by omega))) (by omega) ((L[i]'(by omega)).length + 1) 0 _ h' bs (by omega) (by omega) ho' at' hb ?_ ?_ ?_ ?_ ?_ ?_ ?_ ?_
      · simp only [get_put, reduceIte, Nat.reduceEqDiff, g0]
      · simp only [get_put, reduceIte, Nat.reduceEqDiff, g5]
      · simp only [get_put, reduceIte, Nat.reduceEqDiff]
      · simp only [get_put, reduceIte, Nat.reduceEqDiff, g9]
      · simp only [get_put, reduceIte, Nat.reduceEqDiff]
      · simp only [get_put, reduceIte, Nat.reduceEqDiff]
      · simp only [get_put, reduceIte, Nat.reduceEqDiff]; rfl
      · intro σ2 h2 ho2 ch2 at2 p0 p5 p8 p9
        rw [List.drop_zero] at at2
        have ow2 : ∀ id, w'.own = some id → id ≠ m := fun id e => by
          rcases ow' id e with e | e
          · exact ow id e
          · have := at_below ho at_; omega
        simp only [s3, a10_21, reduceIte, Nat.reduceEqDiff, aBin, aInt, negIf, Option.some.injEq, exists_eq_left', Option.map_some, Option.bind_some, p9, w1]
        subst hb'
        refine ih _ h2 _ w' (acc ++ [i]) (by omega) ho2 at2 (by rw [marks_len]; exact hb) (k'.chg ch2 fun id e => ow2 id e) na' ow2 (by rw [List.length_append]; simp only [List.length_cons, List.length_nil]; omega) (.inr nr) ?_ ?_ ?_ ?_ hQ
        · simp only [get_put, reduceIte, Nat.reduceEqDiff, p0]
        · simp only [get_put, reduceIte, Nat.reduceEqDiff, p5]
        · simp only [get_put, reduceIte, Nat.reduceEqDiff, p8]
        · simp only [get_put, reduceIte, Nat.reduceEqDiff]
end Go.Pa

set_option linter.unusedVariables false
set_option linter.unusedSimpArgs false
set_option maxRecDepth 20000
namespace Go.Pa
open Go.AM
def slF (f : Option Bool) (n : Nat) (cells : List AV) : AV := match f with
  | none => .nils
  | some b => .fs b n cells
theorem op_makeSlice {E : Env} {σ : Slots} {h : Heap} {sz b : Nat} {z : List AV} {x y : Opd} : E.op σ h (.makeSlice sz b z x y) = (E.opd σ x).bind fun a => (E.opd σ y).bind fun c => aMakeSlice h sz b z a c := rfl
theorem make_marks {h : Heap} {N : Nat} (hN : N < 8000000000000) : aMakeSlice h 1 1 [.bool false] (.int .i64 N) (.int .i64 N) = some ⟨.sl h.next 0 0 1 N (some N), h.new (bAV (List.replicate N false)), .write⟩ := by
  simp only [aMakeSlice]
  rw [if_pos ⟨by omega, by omega, by omega, by omega, rfl⟩, Int.toNat_natCast, bAV_new]
/-- an answer that was gathered, and is read from now on -/
structure Frd (v : AV) (l : List Nat) : Prop where
  len : ∀ h, aLenOp false h v = some ⟨.int .i64 l.length, h, .none⟩
  at_ : ∀ (i : Nat) (hi : i < l.length), ∃ C, aIdxAddr 1 v (.int .i64 i) = some (.fp C) ∧ ldCells false 1 C = some (nAV l[i])
theorem frd_of {v : AV} {f : Option Bool} {l : List Nat} (h0 : f = none → l = []) (e : v = slF f l.length (l.map nAV)) : Frd v l := by
  cases f with
  | none =>
    have := h0 rfl
    subst this; subst e
    exact ⟨fun h => rfl, fun i hi => absurd hi (by simp)⟩
  | some b =>
    subst e
    refine ⟨fun h => rfl, fun i hi => ?_⟩
    have go : aIdxAddr 1 (.fs b l.length (l.map nAV)) (.int .i64 i) = some (.fp ((l.map nAV).drop (i * 1))) := by
      cases l with
      | nil => simp at hi
      | cons a l =>
        simp only [aIdxAddr, aIndex_nat (kd := .i64) hi, List.map_cons]
        rfl
    refine ⟨_, go, ?_⟩
    rw [Nat.mul_one, List.drop_eq_getElem_cons (by simpa using hi), List.getElem_map]
    rfl
theorem frz_out {h : Heap} {v : AV} {l : List Nat} (k : Acc h 1 v (l.map nAV)) (hl : aLen v = some l.length) : ∃ v', Frz h v v' ∧ Frd v' l := by
  have nr : ∀ l : List Nat, AV.noRefs (l.map nAV) = true := fun l => by
    induction l with
    | nil => rfl
    | cons a l ih => rw [List.map_cons, noRefs_cons, ih]; rfl
  have hr := nr l
  generalize hc : l.map nAV = cells at k hr
  cases k with
  | nils =>
    have : l = [] := List.map_eq_nil_iff.1 hc
    subst this
    exact ⟨.nils, (frz_noRef (v := .nils) rfl).2 rfl, frd_of (f := none) (fun _ => rfl) rfl⟩
  | full m _ hx =>
    cases hl
    refine ⟨_, (frz_noRef (v := .fs true l.length cells) hr).2 rfl, frd_of (f := some true) (fun e => by cases e) ?_⟩
    rw [hc]; rfl
  | sl id gen m _ hat hx =>
    cases hl
    have ht : (cells.drop 0).take (l.length * 1) = cells := by rw [List.drop_zero]; exact List.take_of_length_le (by omega)
    refine ⟨.fs false l.length cells, (frz_sl hat (by omega) (by rw [ht]; exact hr)).2 (by rw [ht]; rfl), frd_of (f := some false) (fun e => by cases e) ?_⟩
    rw [hc]; rfl
/-- the numbers marked, the smallest first -/
def belowF (L : List (List Int)) (ks : List Int) : List Nat := (downAcc L L.length (marks L.length (List.replicate L.length false) ks) []).reverse
theorem below_spec {nv kv : AV} {L : List (List Int)} {ks : List Int} (nI : NS nv L) (kI : IS kv ks) (hL : L.length < 8000000000000) (hk : ∀ ks, ks ∈ L → ks.length < 1000000000000000) (hks : ks.length < 1000000000000000) (h : Heap) :
    WC env 10 [nv, kv] h (fun o => ∃ v, o = .ret ⟨v, h, .none⟩ ∧ Frd v (belowF L ks)) := by
  refine call_pure (af := a10) rfl rfl rfl (by rw [noRefs_cons, noRefs_cons, nI.ok, kI.ok]; rfl) ?_
  simp only [a10, a10_0, a10_1, a10_2, Slots.ofList, s3, h3, wp1_makeSlice, op_makeSlice, reduceIte, Nat.reduceEqDiff, aBin, aInt, negIf, Option.some.injEq, exists_eq_left', Option.map_some, Option.bind_some, nI.len, kI.len, make_marks hL, Nat.reduceAdd]
  refine roots_loop (m := 0) (N := L.length) (nv := nv) kI nI.len hks (ks.length + 1) 0 _ _ (List.replicate L.length false) (by omega) (by omega) (HeapOk.empty.new _) (at_new (h := .empty) _) (by rw [List.length_replicate]) ?_ ?_ ?_ ?_ ?_ ?_
  · simp only [get_put, reduceIte, Nat.reduceEqDiff]
  · simp only [get_put, reduceIte, Nat.reduceEqDiff]
  · simp only [get_put, reduceIte, Nat.reduceEqDiff]
  · simp only [get_put, reduceIte, Nat.reduceEqDiff]
  · simp only [get_put, reduceIte, Nat.reduceEqDiff]; rfl
  · intro σ1 h1 ho1 ch1 at1 g0 g5
    rw [List.drop_zero] at at1
    have w1 : IntKind.wrap .i64 ((L.length : Int) - 1) = (L.length : Int) - 1 := wrap_id (by omega)
    simp only [a10_9, a10_10, s3, reduceIte, Nat.reduceEqDiff, aBin, aInt, negIf, Option.some.injEq, exists_eq_left', Option.map_some, Option.bind_some, g0, nI.len, w1]
    refine nodes_loop (m := 0) (N := L.length) nI rfl hk hL L.length _ h1 _ .nils [] (Nat.le_refl _) ho1 at1 (by rw [marks_len, List.length_replicate]) .nils rfl (fun id e => by cases e) (by simp) (.inl rfl) ?_ ?_ ?_ ?_ ?_
    · simp only [get_put, reduceIte, Nat.reduceEqDiff, g0]
    · simp only [get_put, reduceIte, Nat.reduceEqDiff, g5]
    · simp only [get_put, reduceIte, Nat.reduceEqDiff]
    · simp only [get_put, reduceIte, Nat.reduceEqDiff]
    · intro σ2 h2 w ho2 k2 na2 nw p8
      simp only [a10_23, a10_24, s3, reduceIte, Nat.reduceEqDiff, aBin, aInt, negIf, Option.some.injEq, exists_eq_left', Option.map_some, Option.bind_some, p8]
      have hlen : (downAcc L L.length (marks L.length (List.replicate L.length false) ks) []).length < 8000000000000 := by
        rw [downAcc_eq L (fun j => (down L L.length (marks L.length (List.replicate L.length false) ks)).getD j false) _ _ _ fun j _ => rfl, List.nil_append]
        have := List.length_filter_le (fun j => (down L L.length (marks L.length (List.replicate L.length false) ks)).getD j false) (List.range L.length).reverse
        rw [List.length_reverse, List.length_range] at this
        omega
      refine (rev_spec ho2 k2 na2 hlen nw).mono fun o hq => ?_
      obtain ⟨h', rfl, ho', k'⟩ := hq
      obtain ⟨v', f1, f2⟩ := frz_out k' (by rw [List.length_reverse]; exact na2)
      simp only [s3, h3, reduceIte, Nat.reduceEqDiff, Option.some.injEq, exists_eq_left', Option.map_some, Option.bind_some, p8]
      exact ⟨v', f1, v', rfl, f2⟩
end Go.Pa

set_option linter.unusedVariables false
set_option linter.unusedSimpArgs false
set_option maxRecDepth 20000
namespace Go.Pa
open Go.AM
theorem rroots_loop {m N : Nat} {ks : List Int} {kv nv : AV} (kI : IS kv ks) (hl : ∀ h, aLenOp false h nv = some ⟨.int .i64 N, h, .none⟩) (hk : ks.length < 1000000000000000) {Q : AExit → St → Prop} :
    ∀ (f i : Nat) (σ : Slots) (h : Heap) (bs : List Bool), ks.length - i < f → i ≤ ks.length → HeapOk h → h.at_ m 0 = some (bAV bs) → bs.length = N →
    σ.get 0 = nv → σ.get 1 = kv → σ.get 5 = .sl m 0 0 1 N (some N) → σ.get 6 = .int .i64 i →
    (∀ σ' h', HeapOk h' → Chg (fun j => j = m) h h' → h'.at_ m 0 = some (bAV (marks N bs (ks.drop i))) → σ'.get 0 = nv → σ'.get 5 = .sl m 0 0 1 N (some N) → Q (.exit 0) ⟨σ', h'⟩) → WPr env a11_l7 ⟨σ, h⟩ Q := by
  intro f
  induction f with
  | zero => intro i σ h bs q1; omega
  | succ f ih =>
    intro i σ h bs hf hi ho at_ hb g0 g1 g5 g6 hQ
    refine wpr_round' fun b hb' => ?_
    by_cases c0 : i < ks.length
    · have z0 : ((i : Int) < ks.length) = True := eq_true (by omega)
      have w1 : IntKind.wrap .i64 ((i : Int) + 1) = ((i + 1 : Nat) : Int) := wrap_nat (by omega) (by omega)
      obtain ⟨C, e1, e2⟩ := kI.at_ i c0
      rw [List.drop_eq_getElem_cons c0, marks_cons] at hQ
      by_cases c1 : 0 ≤ ks[i]
      · have z1 : (ks[i] ≥ 0) = True := eq_true c1
        by_cases c2 : ks[i] < N
        · have z2 : (ks[i] < (N : Int)) = True := eq_true c2
          obtain ⟨k, hk'⟩ : ∃ k : Nat, ks[i] = k := ⟨ks[i].toNat, by omega⟩
          have kN : k < N := by omega
          have st := mark_store at_ (k := k) (by omega)
          rw [hk'] at e2 z1 z2
          rw [hk', mark_on (by omega)] at hQ
          simp only [a11_l7, a11_3, a11_4, a11_5, a11_6, s3, h3, reduceIte, Nat.reduceEqDiff, aBin, aInt, negIf, Option.some.injEq, exists_eq_left', Option.map_some, Option.bind_some, g0, g1, g5, g6, kI.len, z0, e1, e2, z1, z2, hl, idx_sl kN, st, w1]
          subst hb'
          refine ih (i + 1) _ _ (bs.set k true) (by omega) (by omega) (ho.upd (at_look.1 at_) _ _) at_upd (by rw [List.length_set]; exact hb) ?_ ?_ ?_ ?_ ?_
          · simp only [get_put, reduceIte, Nat.reduceEqDiff, g0]
          · simp only [get_put, reduceIte, Nat.reduceEqDiff, g1]
          · simp only [get_put, reduceIte, Nat.reduceEqDiff, g5]
          · simp only [get_put, reduceIte, Nat.reduceEqDiff]
          · exact fun σ' h' ho' ch => hQ σ' h' ho' (Chg.trans (upd_chg (S := fun j => j = m) rfl) ch)
        · have z2 : (ks[i] < (N : Int)) = False := eq_false c2
          rw [mark_off (fun x => c2 x.2)] at hQ
          simp only [a11_l7, a11_3, a11_4, a11_6, s3, h3, reduceIte, Nat.reduceEqDiff, aBin, aInt, negIf, Option.some.injEq, exists_eq_left', Option.map_some, Option.bind_some, g0, g1, g5, g6, kI.len, z0, e1, e2, z1, z2, hl, w1]
          subst hb'
          refine ih (i + 1) _ _ bs (by omega) (by omega) ho at_ hb ?_ ?_ ?_ ?_ hQ
          · simp only [get_put, reduceIte, Nat.reduceEqDiff, g0]
          · simp only [get_put, reduceIte, Nat.reduceEqDiff, g1]
          · simp only [get_put, reduceIte, Nat.reduceEqDiff, g5]
          · simp only [get_put, reduceIte, Nat.reduceEqDiff]
      · have z1 : (ks[i] ≥ 0) = False := eq_false c1
        rw [mark_off (fun x => c1 x.1)] at hQ
        simp only [a11_l7, a11_3, a11_4, a11_6, s3, h3, reduceIte, Nat.reduceEqDiff, aBin, aInt, negIf, Option.some.injEq, exists_eq_left', Option.map_some, Option.bind_some, g0, g1, g5, g6, kI.len, z0, e1, e2, z1, hl, w1]
        subst hb'
        refine ih (i + 1) _ _ bs (by omega) (by omega) ho at_ hb ?_ ?_ ?_ ?_ hQ
        · simp only [get_put, reduceIte, Nat.reduceEqDiff, g0]
        · simp only [get_put, reduceIte, Nat.reduceEqDiff, g1]
        · simp only [get_put, reduceIte, Nat.reduceEqDiff, g5]
        · simp only [get_put, reduceIte, Nat.reduceEqDiff]
    · have z0 : ((i : Int) < ks.length) = False := eq_false (by omega)
      simp only [a11_l7, a11_3, s3, reduceIte, Nat.reduceEqDiff, aBin, aInt, negIf, Option.some.injEq, exists_eq_left', Option.map_some, Option.bind_some, g1, g6, kI.len, z0]
      rw [List.drop_of_length_le (by omega)] at hQ
      refine hQ _ h ho Chg.refl at_ ?_ ?_
      · simp only [get_put, reduceIte, Nat.reduceEqDiff, g0]
      · simp only [get_put, reduceIte, Nat.reduceEqDiff, g5]
/-- the kids of a node that is marked -/
theorem rkids_loop {m N n : Nat} {L : List (List Int)} {nv : AV} (nI : NS nv L) (hN : L.length = N) (hn : n < N) {ks : List Int} (hks : ks = L[n]'(by omega)) (hk : ks.length < 1000000000000000) {Q : AExit → St → Prop} :
    ∀ (f i : Nat) (σ : Slots) (h : Heap) (bs : List Bool), ks.length - i < f → i ≤ ks.length → HeapOk h → h.at_ m 0 = some (bAV bs) → bs.length = N → bs.getD n false = true →
    σ.get 0 = nv → σ.get 5 = .sl m 0 0 1 N (some N) → σ.get 7 = .int .i64 n → σ.get 8 = .int .i64 i →
    (∀ σ' h', HeapOk h' → h'.at_ m 0 = some (bAV (marks n bs (ks.drop i))) → σ'.get 0 = nv → σ'.get 5 = .sl m 0 0 1 N (some N) → σ'.get 7 = .int .i64 n → Q (.exit 4) ⟨σ', h'⟩) → WPr env a11_l15 ⟨σ, h⟩ Q := by
  intro f
  induction f with
  | zero => intro i σ h bs q1; omega
  | succ f ih =>
    intro i σ h bs hf hi ho at_ hb hm g0 g5 g7 g8 hQ
    refine wpr_round' fun b hb' => ?_
    have ld := mark_load at_ (k := n) (by omega)
    rw [hm] at ld
    obtain ⟨C, kv, e1, e2, kI⟩ := nI.at_ n (by omega)
    rw [← hks] at kI
    by_cases c0 : i < ks.length
    · have z0 : ((i : Int) < ks.length) = True := eq_true (by omega)
      have w1 : IntKind.wrap .i64 ((i : Int) + 1) = ((i + 1 : Nat) : Int) := wrap_nat (by omega) (by omega)
      obtain ⟨C2, e3, e4⟩ := kI.at_ i c0
      rw [List.drop_eq_getElem_cons c0, marks_cons] at hQ
      by_cases c1 : 0 ≤ ks[i]
      · have z1 : (ks[i] ≥ 0) = True := eq_true c1
        by_cases c2 : ks[i] < n
        · have z2 : (ks[i] < (n : Int)) = True := eq_true c2
          obtain ⟨k, hk'⟩ : ∃ k : Nat, ks[i] = k := ⟨ks[i].toNat, by omega⟩
          have kN : k < N := by omega
          have st := mark_store at_ (k := k) (by omega)
          rw [hk'] at e4 z1 z2
          rw [hk', mark_on (by omega)] at hQ
          simp only [a11_l15, a11_11, a11_12, a11_13, a11_14, s3, h3, reduceIte, Nat.reduceEqDiff, aBin, aInt, negIf, Option.some.injEq, exists_eq_left', Option.map_some, Option.bind_some, g0, g5, g7, g8, idx_sl hn, ld, e1, e2, kI.len, z0, e3, e4, z1, z2, idx_sl kN, st, w1]
          subst hb'
          refine ih (i + 1) _ _ (bs.set k true) (by omega) (by omega) (ho.upd (at_look.1 at_) _ _) at_upd (by rw [List.length_set]; exact hb) ?_ ?_ ?_ ?_ ?_ hQ
          · rw [List.getD_eq_getElem?_getD, List.getElem?_set_ne (by omega), ← List.getD_eq_getElem?_getD]; exact hm
          · simp only [get_put, reduceIte, Nat.reduceEqDiff, g0]
          · simp only [get_put, reduceIte, Nat.reduceEqDiff, g5]
          · simp only [get_put, reduceIte, Nat.reduceEqDiff, g7]
          · simp only [get_put, reduceIte, Nat.reduceEqDiff]
        · have z2 : (ks[i] < (n : Int)) = False := eq_false c2
          rw [mark_off (fun x => c2 x.2)] at hQ
          simp only [a11_l15, a11_11, a11_12, a11_14, s3, h3, reduceIte, Nat.reduceEqDiff, aBin, aInt, negIf, Option.some.injEq, exists_eq_left', Option.map_some, Option.bind_some, g0, g5, g7, g8, idx_sl hn, ld, e1, e2, kI.len, z0, e3, e4, z1, z2, w1]
          subst hb'
          refine ih (i + 1) _ _ bs (by omega) (by omega) ho at_ hb hm ?_ ?_ ?_ ?_ hQ
          · simp only [get_put, reduceIte, Nat.reduceEqDiff, g0]
          · simp only [get_put, reduceIte, Nat.reduceEqDiff, g5]
          · simp only [get_put, reduceIte, Nat.reduceEqDiff, g7]
          · simp only [get_put, reduceIte, Nat.reduceEqDiff]
      · have z1 : (ks[i] ≥ 0) = False := eq_false c1
        rw [mark_off (fun x => c1 x.1)] at hQ
        simp only [a11_l15, a11_11, a11_12, a11_14, s3, h3, reduceIte, Nat.reduceEqDiff, aBin, aInt, negIf, Option.some.injEq, exists_eq_left', Option.map_some, Option.bind_some, g0, g5, g7, g8, idx_sl hn, ld, e1, e2, kI.len, z0, e3, e4, z1, w1]
        subst hb'
        refine ih (i + 1) _ _ bs (by omega) (by omega) ho at_ hb hm ?_ ?_ ?_ ?_ hQ
        · simp only [get_put, reduceIte, Nat.reduceEqDiff, g0]
        · simp only [get_put, reduceIte, Nat.reduceEqDiff, g5]
        · simp only [get_put, reduceIte, Nat.reduceEqDiff, g7]
        · simp only [get_put, reduceIte, Nat.reduceEqDiff]
    · have z0 : ((i : Int) < ks.length) = False := eq_false (by omega)
      simp only [a11_l15, a11_11, s3, h3, reduceIte, Nat.reduceEqDiff, aBin, aInt, negIf, Option.some.injEq, exists_eq_left', Option.map_some, Option.bind_some, g0, g5, g7, g8, idx_sl hn, ld, e1, e2, kI.len, z0]
      rw [List.drop_of_length_le (by omega)] at hQ
      refine hQ _ h ho at_ ?_ ?_ ?_
      · simp only [get_put, reduceIte, Nat.reduceEqDiff, g0]
      · simp only [get_put, reduceIte, Nat.reduceEqDiff, g5]
      · simp only [get_put, reduceIte, Nat.reduceEqDiff, g7]
theorem rnodes_loop {m N : Nat} {L : List (List Int)} {nv : AV} (nI : NS nv L) (hN : L.length = N) (hk : ∀ ks, ks ∈ L → ks.length < 1000000000000000) (hN2 : N < 8000000000000) {Q : AExit → St → Prop} :
    ∀ (i : Nat) (σ : Slots) (h : Heap) (bs : List Bool), i ≤ N → HeapOk h → h.at_ m 0 = some (bAV bs) → bs.length = N →
    σ.get 0 = nv → σ.get 5 = .sl m 0 0 1 N (some N) → σ.get 7 = .int .i64 ((i : Int) - 1) →
    (∀ σ' h', HeapOk h' → h'.at_ m 0 = some (bAV (down L i bs)) → σ'.get 0 = nv → σ'.get 5 = .sl m 0 0 1 N (some N) → Q (.exit 2) ⟨σ', h'⟩) → WPr env a11_l17 ⟨σ, h⟩ Q := by
  intro i
  induction i with
  | zero =>
    intro σ h bs hi ho at_ hb g0 g5 g7 hQ
    refine wpr_round' fun b hb' => ?_
    have e : ((0 : Nat) : Int) - 1 = -1 := rfl
    rw [e] at g7
    have z0 : ((-1 : Int) ≥ 0) = False := eq_false (by decide)
    simp only [a11_l17, a11_9, s3, reduceIte, Nat.reduceEqDiff, aBin, aInt, negIf, Option.some.injEq, exists_eq_left', Option.map_some, Option.bind_some, g7, z0]
    refine hQ _ h ho at_ ?_ ?_
    · simp only [get_put, reduceIte, Nat.reduceEqDiff, g0]
    · simp only [get_put, reduceIte, Nat.reduceEqDiff, g5]
  | succ i ih =>
    intro σ h bs hi ho at_ hb g0 g5 g7 hQ
    refine wpr_round' fun b hb' => ?_
    have e : ((i + 1 : Nat) : Int) - 1 = i := by omega
    rw [e] at g7
    have z0 : ((i : Int) ≥ 0) = True := eq_true (by omega)
    have w1 : IntKind.wrap .i64 ((i : Int) - 1) = (i : Int) - 1 := wrap_id (by omega)
    have ld := mark_load at_ (k := i) (by omega)
    have hL : L.getD i [] = L[i]'(by omega) := by rw [List.getD_eq_getElem?_getD, List.getElem?_eq_getElem (by omega)]; rfl
    rw [down] at hQ
    cases hm : bs.getD i false with
    | false =>
      have hs : step L i bs = bs := by rw [step, hm]; rfl
      rw [hm] at ld
      rw [hs] at hQ
      simp only [a11_l17, a11_9, a11_10, s3, h3, reduceIte, Nat.reduceEqDiff, aBin, aInt, negIf, Option.some.injEq, exists_eq_left', Option.map_some, Option.bind_some, g0, g5, g7, z0]
      refine wpr_round' fun b2 hb2 => ?_
      simp only [a11_l15, a11_11, a11_16, s3, h3, reduceIte, Nat.reduceEqDiff, aBin, aInt, negIf, Option.some.injEq, exists_eq_left', Option.map_some, Option.bind_some, g0, g5, g7, idx_sl (show i < N by omega), ld, w1]
      subst hb'
      refine ih _ h bs (by omega) ho at_ hb ?_ ?_ ?_ hQ
      · simp only [get_put, reduceIte, Nat.reduceEqDiff, g0]
      · simp only [get_put, reduceIte, Nat.reduceEqDiff, g5]
      · simp only [get_put, reduceIte, Nat.reduceEqDiff]
    | true =>
      have hs : step L i bs = marks i bs (L[i]'(by omega)) := by rw [step, hm, if_pos rfl, hL]
      rw [hs] at hQ
      simp only [a11_l17, a11_9, a11_10, s3, h3, reduceIte, Nat.reduceEqDiff, aBin, aInt, negIf, Option.some.injEq, exists_eq_left', Option.map_some, Option.bind_some, g0, g5, g7, z0]
      refine rkids_loop (m := m) (n := i) nI hN (by omega) rfl (hk _ (List.getElem_mem (by omega))) ((L[i]'(by omega)).length + 1) 0 _ h bs (by omega) (by omega) ho at_ hb hm ?_ ?_ ?_ ?_ ?_
      · simp only [get_put, reduceIte, Nat.reduceEqDiff, g0]
      · simp only [get_put, reduceIte, Nat.reduceEqDiff, g5]
      · simp only [get_put, reduceIte, Nat.reduceEqDiff, g7]
      · simp only [get_put, reduceIte, Nat.reduceEqDiff]; rfl
      · intro σ2 h2 ho2 at2 p0 p5 p7
        rw [List.drop_zero] at at2
        simp only [s3, a11_16, reduceIte, Nat.reduceEqDiff, aBin, aInt, negIf, Option.some.injEq, exists_eq_left', Option.map_some, Option.bind_some, p7, w1]
        subst hb'
        refine ih _ h2 _ (by omega) ho2 at2 (by rw [marks_len]; exact hb) ?_ ?_ ?_ hQ
        · simp only [get_put, reduceIte, Nat.reduceEqDiff, p0]
        · simp only [get_put, reduceIte, Nat.reduceEqDiff, p5]
        · simp only [get_put, reduceIte, Nat.reduceEqDiff]
/-- those that are marked, the smallest first -/
theorem rout_loop {m N : Nat} {nv : AV} {bs : List Bool} (hl : ∀ h, aLenOp false h nv = some ⟨.int .i64 N, h, .none⟩) (hb : bs.length = N) (hN2 : N < 8000000000000) {Q : AExit → St → Prop} :
    ∀ (f i : Nat) (σ : Slots) (h : Heap) (w : AV), N - i < f → i ≤ N → HeapOk h → h.at_ m 0 = some (bAV bs) → Acc h 1 w (((List.range i).filter fun j => bs.getD j false).map nAV) → aLen w = some ((List.range i).filter fun j => bs.getD j false).length → (∀ id, w.own = some id → id ≠ m) →
    σ.get 0 = nv → σ.get 5 = .sl m 0 0 1 N (some N) → σ.get 9 = w → σ.get 10 = .int .i64 i →
    (∀ σ' h' w', HeapOk h' → Acc h' 1 w' (((List.range N).filter fun j => bs.getD j false).map nAV) → aLen w' = some ((List.range N).filter fun j => bs.getD j false).length → σ'.get 9 = w' → Q (.exit 6) ⟨σ', h'⟩) → WPr env a11_l24 ⟨σ, h⟩ Q := by
  intro f
  induction f with
  | zero => intro i σ h w q1; omega
  | succ f ih =>
    intro i σ h w hf hi ho at_ k na ow g0 g5 g9 g10 hQ
    refine wpr_round' fun b hb' => ?_
    by_cases c0 : i < N
    · have z0 : ((i : Int) < N) = True := eq_true (by omega)
      have w1 : IntKind.wrap .i64 ((i : Int) + 1) = ((i + 1 : Nat) : Int) := wrap_nat (by omega) (by omega)
      have ld := mark_load at_ (k := i) (by omega)
      have hle := List.length_filter_le (fun j => bs.getD j false) (List.range i)
      rw [List.length_range] at hle
      cases hm : bs.getD i false with
      | true =>
        rw [hm] at ld
        have hs : (List.range (i + 1)).filter (fun j => bs.getD j false) = ((List.range i).filter fun j => bs.getD j false) ++ [i] := by
          rw [List.range_succ, List.filter_append, List.filter_cons, hm, if_pos rfl, List.filter_nil]
        obtain ⟨w', h', c', e', k', na', ho', lb, ow', nr⟩ := app_num ho k na (by omega) i
        have at' : h'.at_ m 0 = some (bAV bs) := lb.2 _ _ _ (fun e => ow _ e rfl) at_
        have y2 : aFill [.int .i64 0] [(0, 1, .int .i64 (i : Int))] = some [.int .i64 (i : Int)] := rfl
        simp only [a11_l24, a11_20, a11_21, a11_22, a11_23, s3, h3, reduceIte, Nat.reduceEqDiff, aBin, aInt, negIf, Option.some.injEq, exists_eq_left', Option.map_some, Option.bind_some, g0, g5, g9, g10, hl, z0, idx_sl c0, ld, y2, Nat.reduceMul, List.length_cons, List.length_nil, if_true, e', isC c', w1]
        subst hb'
        rw [← hs] at k' na'
        refine ih (i + 1) _ h' w' (by omega) (by omega) ho' at' k' na' (fun id e => ?_) ?_ ?_ ?_ ?_ hQ
        · rcases ow' id e with e | e
          · exact ow id e
          · have := at_below ho at_; omega
        · simp only [get_put, reduceIte, Nat.reduceEqDiff, g0]
        · simp only [get_put, reduceIte, Nat.reduceEqDiff, g5]
        · simp only [get_put, reduceIte, Nat.reduceEqDiff]
        · simp only [get_put, reduceIte, Nat.reduceEqDiff]
      | false =>
        rw [hm] at ld
        have hs : (List.range (i + 1)).filter (fun j => bs.getD j false) = ((List.range i).filter fun j => bs.getD j false) := by
          rw [List.range_succ, List.filter_append, List.filter_cons, hm, if_neg (by decide), List.filter_nil, List.append_nil]
        simp only [a11_l24, a11_20, a11_21, a11_23, s3, h3, reduceIte, Nat.reduceEqDiff, aBin, aInt, negIf, Option.some.injEq, exists_eq_left', Option.map_some, Option.bind_some, g0, g5, g9, g10, hl, z0, idx_sl c0, ld, w1]
        subst hb'
        rw [← hs] at k na
        refine ih (i + 1) _ h w (by omega) (by omega) ho at_ k na ow ?_ ?_ ?_ ?_ hQ
        · simp only [get_put, reduceIte, Nat.reduceEqDiff, g0]
        · simp only [get_put, reduceIte, Nat.reduceEqDiff, g5]
        · simp only [get_put, reduceIte, Nat.reduceEqDiff, g9]
        · simp only [get_put, reduceIte, Nat.reduceEqDiff]
    · have z0 : ((i : Int) < N) = False := eq_false (by omega)
      have : i = N := by omega
      subst this
      simp only [a11_l24, a11_20, s3, reduceIte, Nat.reduceEqDiff, aBin, aInt, negIf, Option.some.injEq, exists_eq_left', Option.map_some, Option.bind_some, g0, g10, hl, z0]
      exact hQ _ h w ho k na (by simp only [get_put, reduceIte, Nat.reduceEqDiff, g9])
def rbelowF (L : List (List Int)) (ks : List Int) : List Nat := (List.range L.length).filter fun j => (down L L.length (marks L.length (List.replicate L.length false) ks)).getD j false
theorem below_same (L : List (List Int)) (ks : List Int) : belowF L ks = rbelowF L ks := by
  rw [belowF, downAcc_eq L (fun j => (down L L.length (marks L.length (List.replicate L.length false) ks)).getD j false) _ _ _ fun j _ => rfl, List.nil_append, List.filter_reverse, List.reverse_reverse]
  rfl
theorem rbelow_spec {nv kv : AV} {L : List (List Int)} {ks : List Int} (nI : NS nv L) (kI : IS kv ks) (hL : L.length < 8000000000000) (hk : ∀ ks, ks ∈ L → ks.length < 1000000000000000) (hks : ks.length < 1000000000000000) (h : Heap) :
    WC env 11 [nv, kv] h (fun o => ∃ v, o = .ret ⟨v, h, .none⟩ ∧ Frd v (rbelowF L ks)) := by
  refine call_pure (af := a11) rfl rfl rfl (by rw [noRefs_cons, noRefs_cons, nI.ok, kI.ok]; rfl) ?_
  simp only [a11, a11_0, a11_1, a11_2, Slots.ofList, s3, h3, wp1_makeSlice, op_makeSlice, reduceIte, Nat.reduceEqDiff, aBin, aInt, negIf, Option.some.injEq, exists_eq_left', Option.map_some, Option.bind_some, nI.len, make_marks hL, Nat.reduceAdd]
  refine rroots_loop (m := 0) (N := L.length) (nv := nv) kI nI.len hks (ks.length + 1) 0 _ _ (List.replicate L.length false) (by omega) (by omega) (HeapOk.empty.new _) (at_new (h := .empty) _) (by rw [List.length_replicate]) ?_ ?_ ?_ ?_ ?_
  · simp only [get_put, reduceIte, Nat.reduceEqDiff]
  · simp only [get_put, reduceIte, Nat.reduceEqDiff]
  · simp only [get_put, reduceIte, Nat.reduceEqDiff]
  · simp only [get_put, reduceIte, Nat.reduceEqDiff]; rfl
  · intro σ1 h1 ho1 ch1 at1 g0 g5
    rw [List.drop_zero] at at1
    have w1 : IntKind.wrap .i64 ((L.length : Int) - 1) = (L.length : Int) - 1 := wrap_id (by omega)
    simp only [a11_8, s3, reduceIte, Nat.reduceEqDiff, aBin, aInt, negIf, Option.some.injEq, exists_eq_left', Option.map_some, Option.bind_some, g0, nI.len, w1]
    refine rnodes_loop (m := 0) (N := L.length) nI rfl hk hL L.length _ h1 _ (Nat.le_refl _) ho1 at1 (by rw [marks_len, List.length_replicate]) ?_ ?_ ?_ ?_
    · simp only [get_put, reduceIte, Nat.reduceEqDiff, g0]
    · simp only [get_put, reduceIte, Nat.reduceEqDiff, g5]
    · simp only [get_put, reduceIte, Nat.reduceEqDiff]
    · intro σ2 h2 ho2 at2 p0 p5
      simp only [a11_18, a11_19, s3, reduceIte, Nat.reduceEqDiff, aBin, aInt, negIf, Option.some.injEq, exists_eq_left', Option.map_some, Option.bind_some]
      refine rout_loop (m := 0) (N := L.length) (nv := nv) (bs := down L L.length (marks L.length (List.replicate L.length false) ks)) nI.len (by rw [down_len, marks_len, List.length_replicate]) hL (L.length + 1) 0 _ h2 .nils (by omega) (by omega) ho2 at2 .nils rfl (fun id e => by cases e) ?_ ?_ ?_ ?_ ?_
      · simp only [get_put, reduceIte, Nat.reduceEqDiff, p0]
      · simp only [get_put, reduceIte, Nat.reduceEqDiff, p5]
      · simp only [get_put, reduceIte, Nat.reduceEqDiff]
      · simp only [get_put, reduceIte, Nat.reduceEqDiff]; rfl
      · intro σ3 h4 w ho4 k4 na4 q9
        obtain ⟨v', f1, f2⟩ := frz_out k4 na4
        simp only [a11_25, s3, h3, reduceIte, Nat.reduceEqDiff, Option.some.injEq, exists_eq_left', Option.map_some, Option.bind_some, q9]
        exact ⟨v', f1, v', rfl, f2⟩
end Go.Pa

namespace Go.Pa
open Go.AM
theorem alive_spec (h : Heap) : WC env 12 [] h (fun o => o = .ret ⟨.bool true, h, .none⟩) := wc_run (n := 400) (by kernel_rfl)
end Go.Pa

set_option linter.unusedVariables false
set_option linter.unusedSimpArgs false
set_option maxRecDepth 20000
namespace Go.Pa
open Go.AM
theorem same_loop {va vb : AV} {l : List Nat} (ka : Frd va l) (kb : Frd vb l) (hl : l.length < 8000000000000) {Q : AExit → St → Prop} :
    ∀ (f i : Nat) (σ : Slots) (h : Heap), l.length - i < f → i ≤ l.length → σ.get 5 = va → σ.get 6 = vb → σ.get 7 = .int .i64 i →
    (∀ σ', Q (.exit 0) ⟨σ', h⟩) → WPr env a3_l9 ⟨σ, h⟩ Q := by
  intro f
  induction f with
  | zero => intro i σ h q1; omega
  | succ f ih =>
    intro i σ h hf hi g5 g6 g7 hQ
    refine wpr_round' fun b hb' => ?_
    by_cases c0 : i < l.length
    · have z0 : ((i : Int) < l.length) = True := eq_true (by omega)
      have w1 : IntKind.wrap .i64 ((i : Int) + 1) = ((i + 1 : Nat) : Int) := wrap_nat (by omega) (by omega)
      obtain ⟨C, e1, e2⟩ := ka.at_ i c0
      obtain ⟨C2, e3, e4⟩ := kb.at_ i c0
      rw [nAV] at e2 e4
      simp only [a3_l9, a3_5, s3, reduceIte, Nat.reduceEqDiff, aBin, aInt, negIf, Option.some.injEq, exists_eq_left', Option.map_some, Option.bind_some, g5, g6, g7, ka.len, z0]
      refine wpc_draw_k ?_
      simp only [a3_6, a3_8, s3, h3, k3, reduceIte, Nat.reduceEqDiff, aBin, aInt, negIf, Option.some.injEq, exists_eq_left', Option.map_some, Option.bind_some, g5, g6, g7, e1, e2, e3, e4, bne_self_eq_false, w1]
      refine ⟨rfl, ?_⟩
      subst hb'
      refine ih (i + 1) _ h (by omega) (by omega) ?_ ?_ ?_ hQ
      · simp only [get_put, reduceIte, Nat.reduceEqDiff, g5]
      · simp only [get_put, reduceIte, Nat.reduceEqDiff, g6]
      · simp only [get_put, reduceIte, Nat.reduceEqDiff]
    · have z0 : ((i : Int) < l.length) = False := eq_false (by omega)
      simp only [a3_l9, a3_5, s3, reduceIte, Nat.reduceEqDiff, aBin, aInt, negIf, Option.some.injEq, exists_eq_left', Option.map_some, Option.bind_some, g5, g7, ka.len, z0]
      exact hQ _
theorem law_spec {nv kv : AV} {L : List (List Int)} {ks : List Int} (nI : NS nv L) (kI : IS kv ks) (hL : L.length < 8000000000000) (hk : ∀ ks, ks ∈ L → ks.length < 1000000000000000) (hks : ks.length < 1000000000000000) (h : Heap) :
    WC env 3 [nv, kv] h (fun o => o = .ret ⟨.bool true, h, .write⟩) := by
  refine call_body (af := a3) rfl rfl (.inl rfl) ?_
  have hlen : (rbelowF L ks).length < 8000000000000 := by
    have := List.length_filter_le (fun j => (down L L.length (marks L.length (List.replicate L.length false) ks)).getD j false) (List.range L.length)
    rw [List.length_range] at this
    rw [rbelowF]; omega
  obtain ⟨_, w1, v1, rfl, k1⟩ := below_spec nI kI hL hk hks h
  obtain ⟨_, w2, v2, rfl, k2⟩ := rbelow_spec nI kI hL hk hks h
  rw [below_same] at k1
  have c1 : WC env 10 [nv, kv] h (fun o => o = .ret ⟨v1, h, .none⟩) := ⟨_, w1, rfl⟩
  have c2 : WC env 11 [nv, kv] h (fun o => o = .ret ⟨v2, h, .none⟩) := ⟨_, w2, rfl⟩
  simp only [a3, a3_0, a3_1, a3_2, a3_4, Slots.ofList, s3, reduceIte, Nat.reduceEqDiff, aBin, aInt, negIf, Option.some.injEq, exists_eq_left', Option.map_some, Option.bind_some, wc_eq c1, wc_eq c2, k1.len, k2.len, bne_self_eq_false]
  refine same_loop k1 k2 hlen ((rbelowF L ks).length + 1) 0 _ h (by omega) (by omega) ?_ ?_ ?_ ?_
  · simp only [get_put, reduceIte, Nat.reduceEqDiff]
  · simp only [get_put, reduceIte, Nat.reduceEqDiff]
  · simp only [get_put, reduceIte, Nat.reduceEqDiff]; rfl
  · intro σ'
    simp only [a3_10, s3, h3, reduceIte, Nat.reduceEqDiff, Option.some.injEq, exists_eq_left', Option.map_some, Option.bind_some, wc_eq (alive_spec _)]
end Go.Pa
