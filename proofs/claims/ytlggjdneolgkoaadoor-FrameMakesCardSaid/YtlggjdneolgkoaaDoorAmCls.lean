/-
  THE ABSTRACT MACHINE: a region that draws its order: when the classes alone show that every order comes to the same.
-/
import Derived.Test.YtlggjdneolgkoaaDoorAmWpc
set_option linter.unusedVariables false
set_option linter.unusedSimpArgs false
namespace Go.AM

/-- two classes of operations that may change places, or are ordered -/
def clsApart (ordered : Bool) (x y : Cls) : Bool := ordered || match x, y with
  | .none, _ | _, .none | .read, .read => true
  | _, _ => false
def clsAll (x : Cls) (i : Nat) : List Cls → List Nat → Bool
  | y :: ys, m :: ms => clsApart (Nat.testBit m i) x y && clsAll x i ys ms
  | _, _ => true
def clsDraw : Nat → List Cls → List Nat → Bool
  | i, x :: xs, _ :: ms => clsAll x i xs ms && clsDraw (i + 1) xs ms
  | _, _, _ => true

theorem apart_of_cls {E : Env} {o : Bool} {hs : List Heap} {x y : AOper × St × Cls} (h : clsApart o x.2.2 y.2.2 = true) : E.apart o hs x y = true := by
  unfold clsApart at h
  unfold Env.apart
  cases o
  · simp only [Bool.false_or] at h ⊢
    cases hx : x.2.2 <;> cases hy : y.2.2 <;> simp [hx, hy] at h ⊢
  · rfl
theorem all_of_cls {E : Env} {hs : List Heap} {x : AOper × St × Cls} {i : Nat} : ∀ {l : List (AOper × St × Cls)} {ms : List Nat}, clsAll x.2.2 i (l.map fun y => y.2.2) ms = true → E.apartAll hs x i l ms = true
  | [], _, _ => by simp [Env.apartAll]
  | _ :: _, [], _ => by simp [Env.apartAll]
  | y :: l, m :: ms, h => by
    simp only [List.map_cons, clsAll, Bool.and_eq_true] at h
    simp only [Env.apartAll, Bool.and_eq_true]
    exact ⟨apart_of_cls h.1, all_of_cls h.2⟩
theorem draw_of_cls {E : Env} {hs : List Heap} : ∀ {l : List (AOper × St × Cls)} {ms : List Nat} {i : Nat}, clsDraw i (l.map fun y => y.2.2) ms = true → E.drawOk hs i l ms = true
  | [], _, _, _ => by simp [Env.drawOk]
  | _ :: _, [], _, _ => by simp [Env.drawOk]
  | y :: l, m :: ms, i, h => by
    simp only [List.map_cons, clsDraw, Bool.and_eq_true] at h
    simp only [Env.drawOk, Bool.and_eq_true]
    exact ⟨all_of_cls h.1, draw_of_cls h.2⟩

end Go.AM
