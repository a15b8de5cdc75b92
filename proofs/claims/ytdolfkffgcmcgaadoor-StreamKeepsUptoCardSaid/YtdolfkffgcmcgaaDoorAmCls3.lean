/-
  THE ABSTRACT MACHINE: a region that draws its order, in which some reads (the list F names them) stand beside writes that leave them alone.
-/
import Derived.Test.YtdolfkffgcmcgaaDoorAmCls
set_option linter.unusedVariables false
set_option linter.unusedSimpArgs false
namespace Go.AM

def clsApart3 (ordered : Bool) (fx fy : Bool) (x y : Cls) : Bool := ordered || match x, y with
  | .none, _ | _, .none | .read, .read => true
  | .write, .write => false
  | .read, .write => fx
  | .write, .read => fy
def clsAll3 (F : List Nat) (x : Cls) (i : Nat) : Nat → List Cls → List Nat → Bool
  | j, y :: ys, m :: ms => clsApart3 (Nat.testBit m i) (F.elem i) (F.elem j) x y && clsAll3 F x i (j + 1) ys ms
  | _, _, _ => true
def clsDraw3 (F : List Nat) : Nat → List Cls → List Nat → Bool
  | i, x :: xs, _ :: ms => clsAll3 F x i (i + 1) xs ms && clsDraw3 F (i + 1) xs ms
  | _, _, _ => true

def steadyAt (E : Env) (hs : List Heap) (l : List (AOper × St × Cls)) (j : Nat) : Prop := match l[j]? with
  | some y => E.steady y.1 y.2.1 hs = true
  | none => True
def steadyOk (E : Env) (hs : List Heap) (l : List (AOper × St × Cls)) : List Nat → Prop
  | [] => True
  | j :: js => steadyAt E hs l j ∧ steadyOk E hs l js

theorem steadyOk.get {E : Env} {hs : List Heap} {l : List (AOper × St × Cls)} : ∀ {F : List Nat}, steadyOk E hs l F → ∀ {j : Nat} {y : AOper × St × Cls}, F.elem j = true → l[j]? = some y → E.steady y.1 y.2.1 hs = true
  | [], _, _, _, h, _ => by simp at h
  | f :: F, k, j, y, h, e => by
    by_cases c : j = f
    · subst c
      have := k.1
      unfold steadyAt at this
      rw [e] at this
      exact this
    · refine k.2.get ?_ e
      simpa [c] using h

theorem apart_of_cls3 {E : Env} {o fx fy : Bool} {hs : List Heap} {x y : AOper × St × Cls} (h : clsApart3 o fx fy x.2.2 y.2.2 = true) (hx : fx = true → E.steady x.1 x.2.1 hs = true) (hy : fy = true → E.steady y.1 y.2.1 hs = true) : E.apart o hs x y = true := by
  unfold clsApart3 at h
  unfold Env.apart
  cases o
  · simp only [Bool.false_or] at h ⊢
    cases hx2 : x.2.2 <;> cases hy2 : y.2.2 <;> simp [hx2, hy2] at h ⊢
    · exact hx h
    · exact hy h
  · rfl
theorem all_of_cls3 {E : Env} {hs : List Heap} {x : AOper × St × Cls} {F : List Nat} {i : Nat} (hx : F.elem i = true → E.steady x.1 x.2.1 hs = true) : ∀ {l : List (AOper × St × Cls)} {ms : List Nat} {j : Nat}, clsAll3 F x.2.2 i j (l.map fun y => y.2.2) ms = true → (∀ k y, F.elem (j + k) = true → l[k]? = some y → E.steady y.1 y.2.1 hs = true) → E.apartAll hs x i l ms = true
  | [], _, _, _, _ => by simp [Env.apartAll]
  | _ :: _, [], _, _, _ => by simp [Env.apartAll]
  | y :: l, m :: ms, j, h, hr => by
    simp only [List.map_cons, clsAll3, Bool.and_eq_true] at h
    simp only [Env.apartAll, Bool.and_eq_true]
    exact ⟨apart_of_cls3 h.1 hx fun e => hr 0 y e rfl, all_of_cls3 hx h.2 fun k z e e2 => hr (k + 1) z (by rw [← e]; congr 1; omega) e2⟩
theorem draw_of_cls3' {E : Env} {hs : List Heap} {F : List Nat} : ∀ {l : List (AOper × St × Cls)} {ms : List Nat} {i : Nat}, clsDraw3 F i (l.map fun y => y.2.2) ms = true → (∀ k y, F.elem (i + k) = true → l[k]? = some y → E.steady y.1 y.2.1 hs = true) → E.drawOk hs i l ms = true
  | [], _, _, _, _ => by simp [Env.drawOk]
  | _ :: _, [], _, _, _ => by simp [Env.drawOk]
  | y :: l, m :: ms, i, h, hr => by
    simp only [List.map_cons, clsDraw3, Bool.and_eq_true] at h
    simp only [Env.drawOk, Bool.and_eq_true]
    have hr' : ∀ k z, F.elem (i + 1 + k) = true → l[k]? = some z → E.steady z.1 z.2.1 hs = true := fun k z e e2 => hr (k + 1) z (by rw [← e]; congr 1; omega) e2
    exact ⟨all_of_cls3 (fun e => hr 0 y e rfl) h.1 hr', draw_of_cls3' h.2 hr'⟩
theorem draw_of_cls3 {E : Env} {hs : List Heap} (F : List Nat) {l : List (AOper × St × Cls)} {ms : List Nat} (h : clsDraw3 F 0 (l.map fun y => y.2.2) ms = true) (hr : steadyOk E hs l F) : E.drawOk hs 0 l ms = true :=
  draw_of_cls3' h fun k y e e2 => hr.get (by rw [Nat.zero_add] at e; exact e) e2
end Go.AM
