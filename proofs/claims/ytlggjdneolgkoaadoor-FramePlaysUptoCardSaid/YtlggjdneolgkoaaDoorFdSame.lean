/-
  Package frame: same.
-/
import Derived.Test.YtlggjdneolgkoaaDoorFdSplit3
set_option linter.unusedVariables false
set_option linter.unusedSimpArgs false
set_option maxRecDepth 20000
namespace Go.Fd
open Go.AM

theorem apartAll_quiet {E : Env} {hs : List Heap} {x : AOper × St × Cls} (hx : x.2.2 ≠ .write) {i : Nat} : ∀ {l : List (AOper × St × Cls)} {ms : List Nat}, (∀ y ∈ l, y.2.2 ≠ .write) → E.apartAll hs x i l ms = true
  | [], _, _ => by simp [Env.apartAll]
  | _ :: _, [], _ => by simp [Env.apartAll]
  | y :: l, m :: ms, h => by
    have hy := h y (by simp)
    simp only [Env.apartAll, Bool.and_eq_true]
    refine ⟨?_, apartAll_quiet hx fun z hz => h z (by simp [hz])⟩
    simp only [Env.apart, Bool.or_eq_true]
    right
    cases hc : x.2.2 <;> cases hd : y.2.2 <;> first | rfl | exact absurd hc hx | exact absurd hd hy

theorem drawOk_quiet {E : Env} {hs : List Heap} : ∀ {l : List (AOper × St × Cls)} {ms : List Nat} {b : Nat}, (∀ y ∈ l, y.2.2 ≠ .write) → E.drawOk hs b l ms = true
  | [], _, _, _ => by simp [Env.drawOk]
  | _ :: _, [], _, _ => by simp [Env.drawOk]
  | y :: l, m :: ms, b, h => by
    simp only [Env.drawOk, Bool.and_eq_true]
    exact ⟨apartAll_quiet (h y (by simp)) fun z hz => h z (by simp [hz]), drawOk_quiet fun z hz => h z (by simp [hz])⟩

/-- a slice of slices of bytes -/
inductive LB (h : Heap) : AV → List (List UInt8) → Prop
  | nils : LB h .nils []
  | fs (full : Bool) (cells : List AV) (bss : List (List UInt8)) (k : All2b h cells bss) : LB h (.fs full cells.length cells) bss
  | sl (id gen off : Nat) (cap : Option Nat) (cs cells : List AV) (bss : List (List UInt8)) (hat : h.at_ id gen = some cs) (hle : off + cells.length ≤ cs.length) (hc : (cs.drop off).take cells.length = cells) (k : All2b h cells bss) :
      LB h (.sl id gen off 1 cells.length cap) bss

theorem All2b.get {h : Heap} : ∀ {vs : List AV} {bss : List (List UInt8)}, All2b h vs bss → ∀ {i : Nat}, i < bss.length → ∃ x, vs[i]? = some x ∧ Bytes h x (bss.getD i [])
  | _, _, .nil, i, hi => by simp at hi
  | _, _, .cons h1 h2, i, hi => by
    cases i with
    | zero => exact ⟨_, rfl, by simpa using h1⟩
    | succ i =>
      obtain ⟨x, g1, g2⟩ := All2b.get h2 (i := i) (by simpa using hi)
      exact ⟨x, by simpa using g1, by simpa using g2⟩

theorem LB.lenOp {h : Heap} {v : AV} {bss : List (List UInt8)} (k : LB h v bss) : aLenOp false h v = some ⟨.int .i64 bss.length, h, .none⟩ := by
  cases k with
  | nils => rfl
  | fs full cells _ k => rw [← k.length]; rfl
  | sl id gen off cap cs cells _ hat hle hc k => rw [← k.length]; rfl

theorem LB.elem {h : Heap} {v : AV} {bss : List (List UInt8)} (k : LB h v bss) {kd : IntKind} {i : Nat} (hi : i < bss.length) : ∃ p c x, aIdxAddr 1 v (.int kd i) = some p ∧ aLoad h false 1 p = some ⟨x, h, c⟩ ∧ c ≠ .write ∧ Bytes h x (bss.getD i []) := by
  have hidx : ∀ n, i < n → aIndex n (.int kd i) = some i := by
    intro n hn
    have h0 : (0 : Int) ≤ i := Int.natCast_nonneg i
    have h2 : (i : Int) < n := by exact_mod_cast hn
    simp [aIndex, h0, h2]
  cases k with
  | nils => simp at hi
  | fs full cells _ k =>
    obtain ⟨x, g1, g2⟩ := k.get hi
    have hl := k.length
    cases hbs : cells with
    | nil => subst hbs; simp at g1
    | cons a l =>
      refine ⟨.fp (cells.drop (i * 1)), .none, x, ?_, ?_, by simp, g2⟩
      · rw [hbs] at hl ⊢
        simp only [aIdxAddr, hidx (a :: l).length (by omega), Option.map_some]
      · simp only [aLoad, ldCells, Nat.mul_one, List.head?_drop, g1, Option.map_some]
  | sl id gen off cap cs cells _ hat hle hc k =>
    obtain ⟨x, g1, g2⟩ := k.get hi
    have hl := k.length
    refine ⟨.ptr id gen (off + i * 1), .read, x, by simp [aIdxAddr, hidx _ (by omega : i < cells.length)], ?_, by simp, g2⟩
    have : cs[off + i]? = some x := by
      rw [← hc, List.getElem?_take, if_pos (by omega), List.getElem?_drop] at g1
      exact g1
    simp only [aLoad, hat, Option.bind_some, ldCells, Nat.mul_one, List.head?_drop, this, Option.map_some]

theorem Lists.lb {h : Heap} {lv : AV} {cells : List AV} {bss : List (List UInt8)} {b : Nat} (k : Lists h lv cells bss b) : LB h lv bss := by
  obtain ⟨g, a, _⟩ := k
  cases g with
  | nils => cases a; exact .nils
  | full n _ hl => rw [show n = cells.length by omega]; exact .fs true cells bss a
  | sl id gen n _ hat hl =>
    rw [show n = cells.length by omega]
    exact .sl id gen 0 none cells cells bss hat (by simp) (by simp [List.take_of_length_le]) a

theorem take_snoc' {xs : List (List UInt8)} {i : Nat} (h : i < xs.length) : xs.take (i + 1) = xs.take i ++ [xs.getD i []] := by
  rw [List.take_add_one, List.getElem?_eq_getElem h, List.getD_eq_getElem?_getD, List.getElem?_eq_getElem h]
  rfl

theorem same_loop {x y : AV} {xs ys : List (List UInt8)} {h : Heap} (hx : LB h x xs) (hy : LB h y ys) (hl : xs.length = ys.length) (hsm : xs.length < 1000000000000) {Q : AExit → St → Prop}
    (hQ : xs = ys → ∀ σ, Q (.exit 0) ⟨σ, h⟩) (hQ2 : xs ≠ ys → ∀ σ, σ.get 4 = .bool false → Q .ret ⟨σ, h⟩) :
    ∀ (k i : Nat) (σ : Slots), i + k = xs.length → xs.take i = ys.take i → σ.get 0 = x → σ.get 1 = y → σ.get 5 = .int .i64 i → WPr env a21_l8 ⟨σ, h⟩ Q := by
  intro k
  induction k with
  | zero =>
    intro i σ hi ht g0 g1 g5
    have hi' : i = xs.length := by omega
    subst hi'
    have hlen := hx.lenOp
    refine wpr_round' fun b hb' => ?_
    simp [a21_l8, a21_4, get_put, aBin, aInt, g0, g1, g5, hlen]
    refine hQ ?_ _
    rw [List.take_of_length_le (Nat.le_refl _), List.take_of_length_le (by omega)] at ht
    exact ht
  | succ k ih =>
    intro i σ hi ht g0 g1 g5
    have hlt : i < xs.length := by omega
    have hlti : (i : Int) < xs.length := by omega
    have hlen := hx.lenOp
    obtain ⟨p, c1, u, e1, e2, e3, e4⟩ := hx.elem (kd := .i64) hlt
    obtain ⟨q, c2, w, f1, f2, f3, f4⟩ := hy.elem (kd := .i64) (by omega : i < ys.length)
    obtain ⟨d1, n1, s1⟩ := e4.b2s
    obtain ⟨d2, n2, s2⟩ := f4.b2s
    have hi1 : IntKind.wrap .i64 ((i : Int) + 1) = ((i + 1 : Nat) : Int) := wrap_nat (by omega) (by omega)
    have hts := take_snoc' hlt
    have hts2 := take_snoc' (by omega : i < ys.length)
    obtain ⟨X, hX⟩ : ∃ X, X = xs.getD i [] := ⟨_, rfl⟩
    obtain ⟨Y, hY⟩ : ∃ Y, Y = ys.getD i [] := ⟨_, rfl⟩
    rw [← hX] at s1 hts
    rw [← hY] at s2 hts2
    refine wpr_round' fun b hb' => ?_
    by_cases hXY : X = Y
    · have hbeq : (X == Y) = true := by simp [hXY]
      simp [a21_l8, a21_4, a21_5, a21_5b, a21_7, get_put, aBin, aInt, aStr, g0, g1, g5, hlen, hlti, e1, e2, f1, f2, s1, s2, hi1, drawOk_quiet, e3, f3, n1, n2, hXY]
      subst hb'
      exact ih (i + 1) _ (by omega) (by rw [hts, hts2, ht, hXY]) (by simp [get_put, g0]) (by simp [get_put, g1]) (by simp [get_put])
    · have hbeq : (X == Y) = false := by simp [hXY]
      simp [a21_l8, a21_4, a21_5, a21_5b, a21_6, get_put, aBin, aInt, aStr, g0, g1, g5, hlen, hlti, e1, e2, f1, f2, s1, s2, hi1, drawOk_quiet, e3, f3, n1, n2, hXY, hbeq]
      refine hQ2 (fun e => hXY ?_) _ (by simp [get_put])
      rw [hX, hY, e]

theorem same_spec {x y : AV} {xs ys : List (List UInt8)} {h : Heap} (hx : LB h x xs) (hy : LB h y ys) (hsm : xs.length < 1000000000000) :
    WC env 21 [x, y] h (fun o => o = .ret ⟨.bool (decide (xs = ys)), h, .write⟩) := by
  refine call_body rfl rfl (.inl rfl) ?_
  have l1 := hx.lenOp
  have l2 := hy.lenOp
  by_cases hl : xs.length = ys.length
  · have hb : ((xs.length : Int) != (ys.length : Int)) = false := by simp [hl]
    simp [a21, a21_0, a21_1, a21_3, Slots.ofList, get_put, aBin, aInt, l1, l2, hb]
    refine same_loop hx hy hl hsm (fun e σ => ?_) (fun hne σ g4 => ?_) xs.length 0 _ (by omega) (by simp) (by simp [get_put]) (by simp [get_put]) (by simp [get_put])
    · simp [a21_9, get_put, retQ, Env.results, oneOrTup, e]
    · simp [get_put, g4, retQ, Env.results, oneOrTup, hne]
  · have hb : ((xs.length : Int) != (ys.length : Int)) = true := by simp; omega
    have hne : xs ≠ ys := fun e => hl (by rw [e])
    simp [a21, a21_0, a21_1, a21_2, Slots.ofList, get_put, aBin, aInt, l1, l2, hb, retQ, Env.results, oneOrTup, hne]
end Go.Fd
