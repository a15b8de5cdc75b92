/-
  THE ABSTRACT MACHINE: a region that draws its order: when the classes alone show that every order comes to the same.
-/
import Derived.Test.YtaielgjmhbjfhaaGreatDoorAmWpc
set_option linter.unusedVariables false
set_option linter.unusedSimpArgs false
namespace Go.AM

/-- two classes of operations that may change places, or are ordered -/
def clsApart (ordered : Bool) (x y : Cls) : Bool := ordered || match x, y with
  | .none, _ | _, .none | .read, .read => true
  | _, _ => false
def clsAll (x : Cls) (i : Nat) : List Cls → List Nat → Bool
  | y :: ys, m :: ms => clsApart (Nat.testBit m i) x y && clsAll x i ys ms
  | _, _ => true
def clsDraw : Nat → List Cls → List Nat → Bool
  | i, x :: xs, _ :: ms => clsAll x i xs ms && clsDraw (i + 1) xs ms
  | _, _, _ => true

theorem apart_of_cls {E : Env} {o : Bool} {hs : List Heap} {x y : AOper × St × Cls} (h : clsApart o x.2.2 y.2.2 = true) : E.apart o hs x y = true := by
  unfold clsApart at h
  unfold Env.apart
  cases o
  · simp only [Bool.false_or] at h ⊢
    cases hx : x.2.2 <;> cases hy : y.2.2 <;> simp [hx, hy] at h ⊢
  · rfl
theorem all_of_cls {E : Env} {hs : List Heap} {x : AOper × St × Cls} {i : Nat} : ∀ {l : List (AOper × St × Cls)} {ms : List Nat}, clsAll x.2.2 i (l.map fun y => y.2.2) ms = true → E.apartAll hs x i l ms = true
  | [], _, _ => by simp [Env.apartAll]
  | _ :: _, [], _ => by simp [Env.apartAll]
  | y :: l, m :: ms, h => by
    simp only [List.map_cons, clsAll, Bool.and_eq_true] at h
    simp only [Env.apartAll, Bool.and_eq_true]
    exact ⟨apart_of_cls h.1, all_of_cls h.2⟩
theorem draw_of_cls {E : Env} {hs : List Heap} : ∀ {l : List (AOper × St × Cls)} {ms : List Nat} {i : Nat}, clsDraw i (l.map fun y => y.2.2) ms = true → E.drawOk hs i l ms = true
  | [], _, _, _ => by simp [Env.drawOk]
  | _ :: _, [], _, _ => by simp [Env.drawOk]
  | y :: l, m :: ms, i, h => by
    simp only [List.map_cons, clsDraw, Bool.and_eq_true] at h
    simp only [Env.drawOk, Bool.and_eq_true]
    exact ⟨all_of_cls h.1, draw_of_cls h.2⟩


/-! ### regions in which something is read beside a write that leaves it alone -/
def clsApart2 (ordered : Bool) (x y : Cls) : Bool := ordered || match x, y with
  | .write, .write => false
  | _, _ => true
def clsAll2 (x : Cls) (i : Nat) : List Cls → List Nat → Bool
  | y :: ys, m :: ms => clsApart2 (Nat.testBit m i) x y && clsAll2 x i ys ms
  | _, _ => true
def clsDraw2 : Nat → List Cls → List Nat → Bool
  | i, x :: xs, _ :: ms => clsAll2 x i xs ms && clsDraw2 (i + 1) xs ms
  | _, _, _ => true

/-- what is read is read the same in all these heaps -/
def readOk (E : Env) (hs : List Heap) (y : AOper × St × Cls) : Prop := match y.2.2 with
  | .read => E.steady y.1 y.2.1 hs = true
  | _ => True
def readsOk (E : Env) (hs : List Heap) : List (AOper × St × Cls) → Prop
  | [] => True
  | y :: l => readOk E hs y ∧ readsOk E hs l

theorem apart_of_cls2 {E : Env} {o : Bool} {hs : List Heap} {x y : AOper × St × Cls} (h : clsApart2 o x.2.2 y.2.2 = true) (hx : readOk E hs x) (hy : readOk E hs y) : E.apart o hs x y = true := by
  unfold clsApart2 at h
  unfold readOk at hx hy
  unfold Env.apart
  cases o
  · simp only [Bool.false_or] at h ⊢
    cases hx2 : x.2.2 <;> cases hy2 : y.2.2 <;> simp [hx2, hy2] at h hx hy ⊢ <;> assumption
  · rfl
theorem all_of_cls2 {E : Env} {hs : List Heap} {x : AOper × St × Cls} (hx : readOk E hs x) {i : Nat} : ∀ {l : List (AOper × St × Cls)} {ms : List Nat}, clsAll2 x.2.2 i (l.map fun y => y.2.2) ms = true → readsOk E hs l → E.apartAll hs x i l ms = true
  | [], _, _, _ => by simp [Env.apartAll]
  | _ :: _, [], _, _ => by simp [Env.apartAll]
  | y :: l, m :: ms, h, hr => by
    simp only [List.map_cons, clsAll2, Bool.and_eq_true] at h
    simp only [Env.apartAll, Bool.and_eq_true]
    exact ⟨apart_of_cls2 h.1 hx hr.1, all_of_cls2 hx h.2 hr.2⟩
theorem draw_of_cls2 {E : Env} {hs : List Heap} : ∀ {l : List (AOper × St × Cls)} {ms : List Nat} {i : Nat}, clsDraw2 i (l.map fun y => y.2.2) ms = true → readsOk E hs l → E.drawOk hs i l ms = true
  | [], _, _, _, _ => by simp [Env.drawOk]
  | _ :: _, [], _, _, _ => by simp [Env.drawOk]
  | y :: l, m :: ms, i, h, hr => by
    simp only [List.map_cons, clsDraw2, Bool.and_eq_true] at h
    simp only [Env.drawOk, Bool.and_eq_true]
    exact ⟨all_of_cls2 hr.1 h.1 hr.2, draw_of_cls2 h.2 hr.2⟩
end Go.AM
