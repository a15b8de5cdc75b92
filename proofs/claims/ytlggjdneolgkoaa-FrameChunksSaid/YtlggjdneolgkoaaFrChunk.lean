/-
  FrameChunks, the plain law: frames come out the same in whatever pieces.
-/
import Derived.Test.YtlggjdneolgkoaaFrOwn2
set_option linter.unusedVariables false
set_option linter.unusedSimpArgs false
set_option maxRecDepth 20000
namespace Go.Fr
open Go.AM

/-- so far it has read as Split reads -/
def Inv (w : Nat) (b : List UInt8) (fed : Nat) (s : Rs) (bs : List UInt8) (got : List (List UInt8)) : Prop :=
  (s.dead = false ∧ s.bytes ≤ fed ∧ fed ≤ b.length ∧ bs = (b.take fed).drop s.bytes ∧ ∃ f, b.length - s.bytes < f ∧ splitF w (b.length + 1) b 0 [] = splitF w f (b.drop s.bytes) s.bytes got) ∨
    (s.dead = true ∧ splitF w (b.length + 1) b 0 [] = (got, s.bytes, true))

theorem inv_start {w : Nat} {b : List UInt8} {held : Nat} : Inv w b 0 ⟨w, held, 0, 0, 0, false⟩ [] [] :=
  .inl ⟨rfl, Nat.le_refl _, Nat.zero_le _, by simp, b.length + 1, by dsimp only; omega, by simp⟩

theorem inv_feed {w : Nat} {b : List UInt8} {fed to_ : Nat} {s : Rs} {bs : List UInt8} {got : List (List UInt8)} (k : Inv w b fed s bs got) (hd : s.dead = false) (h1 : fed ≤ to_) (h2 : to_ ≤ b.length) (n : Nat) :
    Inv w b to_ { s with held := n } (bs ++ (b.drop fed).take (to_ - fed)) got := by
  rcases k with ⟨k1, k2, k3, k4, k5⟩ | ⟨k1, k2⟩
  · refine .inl ⟨k1, by dsimp only; omega, h2, ?_, k5⟩
    dsimp only
    rw [k4]
    have : b.take to_ = b.take fed ++ (b.drop fed).take (to_ - fed) := by
      rw [← List.take_add]; congr 1; omega
    rw [this, List.drop_append_of_le_length (by rw [List.length_take]; omega)]
  · rw [hd] at k1; cases k1

theorem inv_dead {w : Nat} {b : List UInt8} {fed to_ : Nat} {s : Rs} {bs : List UInt8} {got : List (List UInt8)} (k : Inv w b fed s bs got) (hd : s.dead = true) : Inv w b to_ s bs got := by
  rcases k with ⟨k1, _⟩ | k
  · rw [hd] at k1; cases k1
  · exact .inr k

/-- nothing more comes -/
def Exh (s : Rs) (bs : List UInt8) : Prop := nextF s bs = (s, bs, none, s.dead)

theorem inv_next {w : Nat} (hw : w = 2 ∨ w = 4) {b : List UInt8} {fed : Nat} {s : Rs} {bs : List UInt8} {got : List (List UInt8)} (hs : s.w = w) (k : Inv w b fed s bs got) :
    Inv w b fed (nextF s bs).1 (nextF s bs).2.1 (got ++ (nextF s bs).2.2.1.toList) ∧ (s.dead || (nextF s bs).2.2.2) = (nextF s bs).1.dead ∧
      ((nextF s bs).2.2.1 = none → Exh (nextF s bs).1 (nextF s bs).2.1) ∧ (∀ x, (nextF s bs).2.2.1 = some x → (nextF s bs).2.1.length < bs.length ∧ s.bytes < (nextF s bs).1.bytes) ∧ s.bytes ≤ (nextF s bs).1.bytes := by
  by_cases c0 : s.dead = true
  · have hn : nextF s bs = (s, bs, none, true) := by simp only [nextF, if_pos c0]
    rw [hn]
    refine ⟨by simpa using k, by simp [c0], fun _ => by simp only [Exh, hn, c0], fun x e => by simp at e, Nat.le_refl _⟩
  rcases k with ⟨k1, k2, k3, k4, f, k5, k6⟩ | ⟨k1, k2⟩
  case inr => exact absurd k1 c0
  obtain ⟨f, rfl⟩ : ∃ g, f = g + 1 := ⟨f - 1, by omega⟩
  have hlen : bs.length = fed - s.bytes := by rw [k4]; simp; omega
  have hpre : bs = (b.drop s.bytes).take (fed - s.bytes) := by rw [k4, List.drop_take]
  by_cases c1 : bs.length < s.w
  · have hn : nextF s bs = (s, bs, none, false) := by simp only [nextF, if_neg c0, if_pos c1]
    rw [hn]
    exact ⟨.inl ⟨k1, k2, k3, k4, f + 1, k5, by simpa using k6⟩, by simp [k1], fun _ => by simp only [Exh, hn, k1], fun x e => by simp at e, Nat.le_refl _⟩
  have hrl : (b.drop s.bytes).length = b.length - s.bytes := by simp
  have htake : bs.take s.w = (b.drop s.bytes).take w := by
    rw [hpre, List.take_take, hs]; congr 1; omega
  rw [hs] at c1
  by_cases c2 : maxOf s.w < num (bs.take s.w)
  · have hn : nextF s bs = ({ s with dead := true }, bs, none, true) := by simp only [nextF, if_neg c0, hs, if_neg c1]; rw [← hs, if_pos c2]
    rw [hn]
    refine ⟨.inr ⟨rfl, ?_⟩, by simp, fun _ => by simp [Exh, nextF], fun x e => by simp at e, Nat.le_refl _⟩
    rw [htake, hs] at c2
    rw [k6]
    simp only [splitF]
    rw [if_neg (by omega), if_pos c2]
    simp
  by_cases c3 : bs.length - s.w < num (bs.take s.w)
  · have hn : nextF s bs = (s, bs, none, false) := by
      unfold nextF
      rw [if_neg c0, if_neg (by omega), if_neg c2, if_pos c3]
    rw [hn]
    exact ⟨.inl ⟨k1, k2, k3, k4, f + 1, k5, by simpa using k6⟩, by simp [k1], fun _ => by simp only [Exh, hn, k1], fun x e => by simp at e, Nat.le_refl _⟩
  have hn : nextF s bs = ({ s with held := (bs.drop (s.w + num (bs.take s.w))).length, frames := s.frames + 1, bytes := s.bytes + (s.w + num (bs.take s.w)), ticks := if s.w = 4 ∧ num (bs.take s.w) = 0 then s.ticks + 1 else s.ticks },
      bs.drop (s.w + num (bs.take s.w)), some ((bs.drop s.w).take (num (bs.take s.w))), false) := by
    unfold nextF
    rw [if_neg c0, if_neg (by omega), if_neg c2, if_neg c3]
  rw [hn]
  rw [htake, hs] at c2 c3 ⊢
  generalize hN : num ((b.drop s.bytes).take w) = n at *
  refine ⟨.inl ⟨k1, by dsimp only; omega, k3, ?_, f, by dsimp only; omega, ?_⟩, by simp [k1], (fun e => by simp at e), fun x _ => ⟨by simp only [List.length_drop]; omega, by dsimp only; omega⟩, by dsimp only; omega⟩
  · dsimp only
    rw [k4, List.drop_drop]
  · dsimp only [Option.toList]
    rw [k6]
    simp only [splitF]
    rw [if_neg (by omega), hN, if_neg c2, if_neg (by omega), List.drop_drop]
    have : (bs.drop w).take n = ((b.drop s.bytes).drop w).take n := by
      rw [hpre, List.drop_take, List.take_take]; congr 1; omega
    rw [this]

theorem inv_end {w : Nat} (hw : w = 2 ∨ w = 4) {b : List UInt8} {s : Rs} {bs : List UInt8} {got : List (List UInt8)} (hs : s.w = w) (k : Inv w b b.length s bs got) (e : Exh s bs) :
    splitF w (b.length + 1) b 0 [] = (got, s.bytes, s.dead) ∧ (s.dead = false → s.bytes + bs.length = b.length) := by
  rcases k with ⟨k1, k2, k3, k4, f, k5, k6⟩ | ⟨k1, k2⟩
  · obtain ⟨f, rfl⟩ : ∃ g, f = g + 1 := ⟨f - 1, by omega⟩
    rw [List.take_length] at k4
    subst k4
    refine ⟨?_, fun _ => by simp; omega⟩
    rw [k6, k1]
    unfold Exh nextF at e
    rw [if_neg (by simp [k1]), hs] at e
    simp only [splitF]
    by_cases c1 : (b.drop s.bytes).length < w
    · rw [if_pos c1]
    rw [if_neg c1] at e ⊢
    by_cases c2 : maxOf w < num ((b.drop s.bytes).take w)
    · rw [if_pos c2] at e
      simp [k1] at e
    rw [if_neg c2] at e ⊢
    by_cases c3 : (b.drop s.bytes).length - w < num ((b.drop s.bytes).take w)
    · rw [if_pos c3]
    · rw [if_neg c3] at e
      simp at e
  · rw [k2, k1]
    exact ⟨rfl, fun e => by cases e⟩

/-- what stands before the first length that is too great -/
theorem split_take {w : Nat} (hw : w = 2 ∨ w = 4) (b : List UInt8) : ∀ (f at0 : Nat) (acc l : List (List UInt8)) (at_ : Nat), at0 ≤ b.length → splitF w f (b.drop at0) at0 acc = (l, at_, true) →
    at0 ≤ at_ ∧ at_ ≤ b.length ∧ ∀ g, at_ - at0 < g → splitF w g ((b.take at_).drop at0) at0 acc = (l, at_, false) := by
  intro f
  induction f with
  | zero => intro at0 acc l at_ h0 h; simp [splitF] at h
  | succ f ih =>
    intro at0 acc l at_ h0 h
    simp only [splitF] at h
    by_cases c1 : (b.drop at0).length < w
    · rw [if_pos c1] at h; simp at h
    rw [if_neg c1] at h
    have hrl : (b.drop at0).length = b.length - at0 := by simp
    by_cases c2 : maxOf w < num ((b.drop at0).take w)
    · rw [if_pos c2] at h
      simp only [Prod.mk.injEq, and_true] at h
      obtain ⟨rfl, rfl⟩ := h
      refine ⟨Nat.le_refl _, h0, fun g hg => ?_⟩
      obtain ⟨g, rfl⟩ : ∃ k, g = k + 1 := ⟨g - 1, by omega⟩
      simp only [splitF]
      rw [if_pos (by simp; omega)]
    rw [if_neg c2] at h
    by_cases c3 : (b.drop at0).length - w < num ((b.drop at0).take w)
    · rw [if_pos c3] at h; simp at h
    rw [if_neg c3, List.drop_drop] at h
    obtain ⟨i1, i2, i3⟩ := ih _ _ _ _ (by omega) h
    refine ⟨by omega, i2, fun g hg => ?_⟩
    obtain ⟨g, rfl⟩ : ∃ k, g = k + 1 := ⟨g - 1, by omega⟩
    have ht : ((b.take at_).drop at0).take w = (b.drop at0).take w := by
      rw [List.drop_take, List.take_take]; congr 1; omega
    have hl : ((b.take at_).drop at0).length = at_ - at0 := by simp; omega
    simp only [splitF]
    rw [hl, ht, if_neg (by omega), if_neg c2, if_neg (by omega), List.drop_drop]
    have hx : (((b.take at_).drop at0).drop w).take (num ((b.drop at0).take w)) = ((b.drop at0).drop w).take (num ((b.drop at0).take w)) := by
      rw [List.drop_take, List.drop_take, List.take_take]; congr 1; omega
    rw [hx]
    exact i3 g (by omega)
end Go.Fr
