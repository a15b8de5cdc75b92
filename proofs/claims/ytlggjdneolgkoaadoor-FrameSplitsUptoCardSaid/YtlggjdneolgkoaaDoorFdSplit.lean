/-
  Package frame: Split.
-/
import Derived.Test.YtlggjdneolgkoaaDoorFdWalk
set_option linter.unusedVariables false
set_option linter.unusedSimpArgs false
set_option maxRecDepth 20000
namespace Go.Fd
open Go.AM

/-- the bodies of the whole frames; how many bytes they have; is there a length that is too great? -/
def splitF (w : Nat) : Nat → List UInt8 → Nat → List (List UInt8) → List (List UInt8) × Nat × Bool
  | 0, _, at_, acc => (acc, at_, false)
  | f + 1, rest, at_, acc =>
    if rest.length < w then (acc, at_, false)
    else if maxOf w < num (rest.take w) then (acc, at_, true)
    else if rest.length - w < num (rest.take w) then (acc, at_, false)
    else splitF w f (rest.drop (w + num (rest.take w))) (at_ + (w + num (rest.take w))) (acc ++ [(rest.drop w).take (num (rest.take w))])

/-- these are those bytes -/
inductive All2b (h : Heap) : List AV → List (List UInt8) → Prop
  | nil : All2b h [] []
  | cons {v : AV} {bs : List UInt8} {vs : List AV} {bss : List (List UInt8)} (h1 : Bytes h v bs) (h2 : All2b h vs bss) : All2b h (v :: vs) (bs :: bss)

theorem All2b.snoc {h : Heap} {v : AV} {bs : List UInt8} (k : Bytes h v bs) : ∀ {vs : List AV} {bss : List (List UInt8)}, All2b h vs bss → All2b h (vs ++ [v]) (bss ++ [bs])
  | _, _, .nil => .cons k .nil
  | _, _, .cons h1 h2 => .cons h1 (All2b.snoc k h2)
theorem All2b.length {h : Heap} : ∀ {vs : List AV} {bss : List (List UInt8)}, All2b h vs bss → vs.length = bss.length
  | _, _, .nil => rfl
  | _, _, .cons _ h => by simp [All2b.length h]
theorem All2b.leBut {h h' : Heap} {o : Option Nat} (hl : Heap.leBut o h h') : ∀ {vs : List AV} {bss : List (List UInt8)}, All2b h vs bss → (∀ x ∈ vs, ∀ id, x.own = some id → o ≠ some id) → All2b h' vs bss
  | _, _, .nil, _ => .nil
  | _, _, .cons h1 h2, hx => .cons (h1.leBut hl (hx _ (by simp))) (All2b.leBut hl h2 fun x hm => hx x (by simp [hm]))
theorem All2b.ownLt {h : Heap} (ho : HeapOk h) : ∀ {vs : List AV} {bss : List (List UInt8)}, All2b h vs bss → ∀ x ∈ vs, ∀ id, x.own = some id → id < h.next
  | _, _, .nil, _, hm, _, _ => by cases hm
  | _, _, .cons h1 h2, x, hm, id, e => by
    cases hm with
    | head => exact h1.ownLt ho e
    | tail _ hm => exact All2b.ownLt ho h2 x hm id e

/-- a list of slices that was made by append -/
structure Lists (h : Heap) (lv : AV) (cells : List AV) (acc : List (List UInt8)) (b : Nat) : Prop where
  grown : Acc h 1 lv cells
  all : All2b h cells acc
  new : ∀ id, lv.own = some id → b ≤ id ∧ ∀ x ∈ cells, x.own ≠ some id
  low : ∀ x ∈ cells, ∀ id, x.own = some id → b ≤ id

/-- one body more -/
theorem Lists.snoc {h h1 : Heap} {lv v : AV} {cells : List AV} {acc : List (List UInt8)} {b : Nat} {bs : List UInt8} (ho : HeapOk h) (ho1 : HeapOk h1) (k : Lists h lv cells acc b) (hl : h.le h1) (hb : Bytes h1 v bs)
    (hv : ∀ id, v.own = some id → h.next ≤ id) (hbn : b ≤ h.next) (hsm : acc.length < 1000000000000) :
    ∃ lv' h2 c, aAppend h1 1 24 lv (.fs true 1 [v]) = some ⟨lv', h2, c⟩ ∧ Lists h2 lv' (cells ++ [v]) (acc ++ [bs]) b ∧ HeapOk h2 ∧ Heap.leBut lv.own h1 h2 := by
  have ha := k.grown.le hl
  have hnx := hl.1
  obtain ⟨m, hm, hlen⟩ := ha.len
  have hcl := k.all.length
  have hm' : m = acc.length := by omega
  obtain ⟨lv', h2, c, g1, g2, g3, g4, g5, g6⟩ := ha.append ho1 (bt := 24) (by omega) hm (y := .fs true 1 [v]) (n := 1) (new := [v]) (c := .none) rfl (by simp [sliceCells]) rfl (by omega) (by omega)
  refine ⟨lv', h2, c, g1, ⟨g2, ?_, ?_, ?_⟩, g4, g3⟩
  · refine All2b.snoc (hb.leBut g3 fun id e e2 => ?_) (k.all.leBut (o := lv.own) ((hl.but _).trans g3) fun x hx id e e2 => ?_)
    · have h3 := hv id e
      have h4 := k.grown.ownLt ho e2
      omega
    · exact (k.new id e2).2 x hx e
  · intro id e
    rcases g5 id e with h5 | h5
    · refine ⟨(k.new id h5).1, fun x hx => ?_⟩
      simp only [List.mem_append, List.mem_singleton] at hx
      rcases hx with hx | rfl
      · exact (k.new id h5).2 x hx
      · intro e2
        have h3 := hv id e2
        have h4 := k.grown.ownLt ho h5
        omega
    · refine ⟨by omega, fun x hx e2 => ?_⟩
      simp only [List.mem_append, List.mem_singleton] at hx
      rcases hx with hx | rfl
      · have := k.all.ownLt ho x hx id e2
        omega
      · have := hb.ownLt ho1 e2
        omega
  · intro x hx id e
    simp only [List.mem_append, List.mem_singleton] at hx
    rcases hx with hx | rfl
    · exact k.low x hx id e
    · have := hv id e
      omega
end Go.Fd
