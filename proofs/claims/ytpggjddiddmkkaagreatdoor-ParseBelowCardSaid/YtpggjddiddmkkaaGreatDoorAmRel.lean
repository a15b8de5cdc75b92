/-
  THE ABSTRACT MACHINE AND THE MODEL: what it means that a value of the one is a value of the other, in a world.
-/
import Derived.Test.YtpggjddiddmkkaaGreatDoorAmTr
import Derived.Defers
import Derived.Below
set_option linter.unusedSimpArgs false
set_option linter.unusedVariables false
namespace Go.AM
open Go.RowKit
/-- Where an object lies: the block, the place in it, the block's size. -/
structure Place where
  b : Nat
  o : Nat
  n : Nat
structure RX where
  w : World
  h : Heap
  ρ : Nat → Place
  F : Nat → Prop      -- blocks that are another's
  τ : Nat → Nat       -- where a text's walk lies
def RX.Own (X : RX) (b : Nat) : Prop := (∃ id o, X.h.look id = some o ∧ (X.ρ id).b = b) ∨ ∃ k, k < X.h.its.length ∧ X.τ k = b
def RX.Still (X : RX) (b : Nat) : Prop := b < X.w.heap.size ∧ ¬ X.F b ∧ ¬ X.Own b
def CellsAt (w : World) (b o : Nat) (vs : List Value) : Prop := ∀ i v, vs[i]? = some v → w.cell? ⟨b, o + i, none⟩ = some v
def allOne (cs : List AV) : Prop := ∀ v ∈ cs, v.one = true
mutual
inductive VRel (X : RX) : AV → Value → Prop
  | bool (b : Bool) : VRel X (.bool b) (.bool b)
  | int (k : IntKind) (n : Int) : VRel X (.int k n) (.int k n)
  | str (s : List UInt8) : VRel X (.str s) (.string ⟨s.toArray⟩)
  | nilp : VRel X .nilp (.pointer none)
  | nils : VRel X .nils (.slice none 0 0)
  | nilm : VRel X .nilm (.map none)
  | nilf : VRel X .nilf .nilFunc
  | nili : VRel X .nili .nilIface
  | ptr (id gen off : Nat) (a : Addr) (hid : id < X.h.next)
      (hlive : ∀ o, X.h.look id = some o → gen ≤ o.gen ∧ (gen = o.gen → a = ⟨(X.ρ id).b, (X.ρ id).o + off, none⟩)) :
      VRel X (.ptr id gen off) (.pointer (some a))
  | sl (id gen off sz len : Nat) (cap : Option Nat) (a : Addr) (n : Nat) (hid : id < X.h.next) (hlen : len ≤ n)
      (hcap : ∀ c, cap = some c → n = c)
      (hlive : ∀ o, X.h.look id = some o → gen ≤ o.gen ∧
        (gen = o.gen → (0 < n → a = ⟨(X.ρ id).b, (X.ρ id).o + off, none⟩) ∧ (X.ρ id).o + off + n * sz ≤ (X.ρ id).n ∧ (cap = none → (X.ρ id).o + off + n * sz = (X.ρ id).n))) :
      VRel X (.sl id gen off sz len cap) (.slice (some a) len n)
  | fp (cells : List AV) (b o : Nat) (vs : List Value) (hst : X.Still b) (hat : CellsAt X.w b o vs) (h1 : allOne cells) (hvs : VRels X cells vs) :
      VRel X (.fp cells) (.pointer (some ⟨b, o, none⟩))
  | fs (full : Bool) (len : Nat) (cells : List AV) (a : Addr) (n : Nat) (vs : List Value) (hlen : len ≤ n) (hfull : full = true → n = len)
      (hat : cells ≠ [] → ∃ b o, a = ⟨b, o, none⟩ ∧ X.Still b ∧ CellsAt X.w b o vs) (h1 : allOne cells) (hvs : VRels X cells vs) :
      VRel X (.fs full len cells) (.slice (some a) len n)
  | fn (f : Fn) (a b : List AV) (a' b' : List Value) (ha : VRels X a a') (hb : VRels X b b') : VRel X (.fn f a b) (.func f a'.toArray b'.toArray)
  | ifc (t : TypeId) (v : AV) (v' : Value) (hv : VRel X v v') : VRel X (.ifc t v) (.iface t v')
  | agg (cs : List AV) (cs' : List Value) (h1 : allOne cs) (hv : VRels X cs cs') : VRel X (.agg cs) (.agg cs'.toArray)
  | tup (vs : List AV) (vs' : List Value) (hv : VRels X vs vs') : VRel X (.tup vs) (.tuple vs'.toArray)
  | itr (k : Nat) (hk : k < X.h.its.length) : VRel X (.itr k) (.pointer (some ⟨X.τ k, 0, none⟩))
inductive VRels (X : RX) : List AV → List Value → Prop
  | nil : VRels X [] []
  | cons (v : AV) (v' : Value) (vs : List AV) (vs' : List Value) (hv : VRel X v v') (hvs : VRels X vs vs') : VRels X (v :: vs) (v' :: vs')
end
structure Ext (X X' : RX) : Prop where
  F : X'.F = X.F
  next : X.h.next ≤ X'.h.next
  size : X.w.heap.size ≤ X'.w.heap.size
  other : ∀ b, b < X.w.heap.size → ¬ X.Own b → X'.w.heap[b]? = X.w.heap[b]? ∧ ¬ X'.Own b
  obj : ∀ id o', id < X.h.next → X'.h.look id = some o' → ∃ o, X.h.look id = some o ∧ o.gen ≤ o'.gen ∧ (o.gen = o'.gen → X'.ρ id = X.ρ id)
  its : X.h.its.length ≤ X'.h.its.length ∧ ∀ k, k < X.h.its.length → X'.τ k = X.τ k
theorem Ext.refl (X : RX) : Ext X X := ⟨rfl, Nat.le_refl _, Nat.le_refl _, fun _ _ h => ⟨rfl, h⟩, fun _ o' _ h => ⟨o', h, Nat.le_refl _, fun _ => rfl⟩, Nat.le_refl _, fun _ _ => rfl⟩
theorem Ext.trans {X Y Z : RX} (h : Ext X Y) (k : Ext Y Z) : Ext X Z where
  F := k.F.trans h.F
  next := Nat.le_trans h.next k.next
  size := Nat.le_trans h.size k.size
  other b hb ho :=
    let ⟨e, n⟩ := h.other b hb ho
    let ⟨e', n'⟩ := k.other b (Nat.lt_of_lt_of_le hb h.size) n
    ⟨e'.trans e, n'⟩
  obj id o' hid hl := by
    obtain ⟨o1, h1, g1, r1⟩ := k.obj id o' (Nat.lt_of_lt_of_le hid h.next) hl
    obtain ⟨o2, h2, g2, r2⟩ := h.obj id o1 hid h1
    exact ⟨o2, h2, Nat.le_trans g2 g1, fun e => (r1 (Nat.le_antisymm g1 (e ▸ g2))).trans (r2 (Nat.le_antisymm g2 (e ▸ g1)))⟩
  its := ⟨Nat.le_trans h.its.1 k.its.1, fun j hj => (k.its.2 j (Nat.lt_of_lt_of_le hj h.its.1)).trans (h.its.2 j hj)⟩
theorem Ext.still {X X' : RX} (h : Ext X X') {b : Nat} (hs : X.Still b) : X'.Still b :=
  ⟨Nat.lt_of_lt_of_le hs.1 h.size, by rw [h.F]; exact hs.2.1, (h.other b hs.1 hs.2.2).2⟩
theorem Ext.cellsAt {X X' : RX} (h : Ext X X') {b o : Nat} {vs : List Value} (hs : X.Still b) (hc : CellsAt X.w b o vs) : CellsAt X'.w b o vs :=
  fun i v hv => by
    rw [← hc i v hv]
    have := (h.other b hs.1 hs.2.2).1
    simp only [World.cell?, this]
mutual
theorem VRel.ext {X X' : RX} (h : Ext X X') : ∀ {v : AV} {c : Value}, VRel X v c → VRel X' v c
  | _, _, .bool b => .bool b
  | _, _, .int k n => .int k n
  | _, _, .str s => .str s
  | _, _, .nilp => .nilp
  | _, _, .nils => .nils
  | _, _, .nilm => .nilm
  | _, _, .nilf => .nilf
  | _, _, .nili => .nili
  | _, _, .ptr id gen off a hid hlive => .ptr id gen off a (Nat.lt_of_lt_of_le hid h.next) fun o' ho' => by
      obtain ⟨o, ho, hg, hr⟩ := h.obj id o' hid ho'
      obtain ⟨l1, l2⟩ := hlive o ho
      refine ⟨Nat.le_trans l1 hg, fun e => ?_⟩
      have e1 : gen = o.gen := Nat.le_antisymm l1 (e ▸ hg)
      rw [hr (e1 ▸ e)]
      exact l2 e1
  | _, _, .sl id gen off sz len cap a n hid hlen hcap hlive => .sl id gen off sz len cap a n (Nat.lt_of_lt_of_le hid h.next) hlen hcap fun o' ho' => by
      obtain ⟨o, ho, hg, hr⟩ := h.obj id o' hid ho'
      obtain ⟨l1, l2⟩ := hlive o ho
      refine ⟨Nat.le_trans l1 hg, fun e => ?_⟩
      have e1 : gen = o.gen := Nat.le_antisymm l1 (e ▸ hg)
      rw [hr (e1 ▸ e)]
      exact l2 e1
  | _, _, .fp cells b o vs hst hat h1 hvs => .fp cells b o vs (h.still hst) (h.cellsAt hst hat) h1 (hvs.ext h)
  | _, _, .fs full len cells a n vs hlen hfull hat h1 hvs => .fs full len cells a n vs hlen hfull (fun hne => by
      obtain ⟨b, o, e, hst, hc⟩ := hat hne
      exact ⟨b, o, e, h.still hst, h.cellsAt hst hc⟩) h1 (hvs.ext h)
  | _, _, .fn f a b a' b' ha hb => .fn f a b a' b' (ha.ext h) (hb.ext h)
  | _, _, .ifc t v v' hv => .ifc t v v' (hv.ext h)
  | _, _, .agg cs cs' h1 hv => .agg cs cs' h1 (hv.ext h)
  | _, _, .tup vs vs' hv => .tup vs vs' (hv.ext h)
  | _, _, .itr k hk => by rw [← h.its.2 k hk]; exact .itr k (Nat.lt_of_lt_of_le hk h.its.1)
theorem VRels.ext {X X' : RX} (h : Ext X X') : ∀ {v : List AV} {c : List Value}, VRels X v c → VRels X' v c
  | _, _, .nil => .nil
  | _, _, .cons v v' vs vs' hv hvs => .cons v v' vs vs' (hv.ext h) (hvs.ext h)
end
section
variable {X : RX}
theorem VRels.length : ∀ {vs : List AV} {cs : List Value}, VRels X vs cs → vs.length = cs.length
  | _, _, .nil => rfl
  | _, _, .cons _ _ _ _ _ h => by simp [h.length]
theorem VRels.get : ∀ {vs : List AV} {cs : List Value}, VRels X vs cs → ∀ {i : Nat} {v : AV}, vs[i]? = some v → ∃ c, cs[i]? = some c ∧ VRel X v c
  | _, _, .nil, i, v, h => by simp at h
  | _, _, .cons v v' vs vs' hv hvs, 0, u, h => by simp at h; exact ⟨v', rfl, h ▸ hv⟩
  | _, _, .cons v v' vs vs' hv hvs, i + 1, u, h => by simp at h; simpa using hvs.get h
theorem VRels.append : ∀ {a b : List AV} {a' b' : List Value}, VRels X a a' → VRels X b b' → VRels X (a ++ b) (a' ++ b')
  | _, _, _, _, .nil, h => h
  | _, _, _, _, .cons v v' vs vs' hv hvs, h => .cons v v' _ _ hv (hvs.append h)
theorem VRels.drop : ∀ {a : List AV} {a' : List Value}, VRels X a a' → ∀ n, VRels X (a.drop n) (a'.drop n)
  | _, _, .nil, n => by simp; exact .nil
  | _, _, .cons v v' vs vs' hv hvs, 0 => .cons v v' vs vs' hv hvs
  | _, _, .cons v v' vs vs' hv hvs, n + 1 => hvs.drop n
theorem VRels.take : ∀ {a : List AV} {a' : List Value}, VRels X a a' → ∀ n, VRels X (a.take n) (a'.take n)
  | _, _, .nil, n => by simp; exact .nil
  | _, _, .cons v v' vs vs' hv hvs, 0 => .nil
  | _, _, .cons v v' vs vs' hv hvs, n + 1 => .cons v v' _ _ hv (hvs.take n)
theorem VRels.one {v : AV} {c : Value} (h : VRel X v c) : VRels X [v] [c] := .cons _ _ _ _ h .nil
theorem VRels.replicate {v : AV} {c : Value} (h : VRel X v c) : ∀ n, VRels X (List.replicate n v) (List.replicate n c)
  | 0 => .nil
  | n + 1 => .cons _ _ _ _ h (VRels.replicate h n)
theorem VRels.flatten_replicate {v : List AV} {c : List Value} (h : VRels X v c) : ∀ n, VRels X (List.replicate n v).flatten (List.replicate n c).flatten
  | 0 => .nil
  | n + 1 => by simp only [List.replicate_succ, List.flatten_cons]; exact h.append (VRels.flatten_replicate h n)
theorem VRels.splice {a b : List AV} {a' b' : List Value} (h : VRels X a a') (k : VRels X b b') (off : Nat) :
    VRels X (AM.splice a off b) (a'.take off ++ b' ++ a'.drop (off + b'.length)) := by
  unfold AM.splice
  rw [← k.length]
  exact ((h.take off).append k).append (h.drop _)
end
theorem allOne.append {a b : List AV} (h : allOne a) (k : allOne b) : allOne (a ++ b) := fun v hv => by
  rcases List.mem_append.1 hv with hv | hv
  · exact h v hv
  · exact k v hv
theorem allOne.drop {a : List AV} (h : allOne a) (n : Nat) : allOne (a.drop n) := fun v hv => h v (List.mem_of_mem_drop hv)
theorem allOne.take {a : List AV} (h : allOne a) (n : Nat) : allOne (a.take n) := fun v hv => h v (List.mem_of_mem_take hv)
theorem allOne.splice {a b : List AV} (h : allOne a) (k : allOne b) (off : Nat) : allOne (AM.splice a off b) :=
  ((h.take off).append k).append (h.drop _)
/-- no cell of the block is one that a string shares -/
def Bare (n : Nat) (fz : Nat × Nat) : Prop := fz = (0, 0) ∨ n ≤ fz.1
structure ObjAt (X : RX) (p : Place) (cs : List AV) : Prop where
  cells : ∃ (arr : Array Value) (T : TypeId) (fz : Nat × Nat), X.w.heap[p.b]? = some (.cells arr T fz) ∧ arr.size = p.n ∧ p.o + cs.length ≤ p.n ∧ Bare p.n fz ∧
    VRels X cs ((arr.toList.drop p.o).take cs.length)
  one : allOne cs
structure Rel (B : Nat) (w0 : World) (E : Env) (X : RX) : Prop where
  below : Below B w0 X.w
  base : B ≤ X.w.heap.size
  lt : ∀ id o, X.h.look id = some o → id < X.h.next
  obj : ∀ id o, X.h.look id = some o → ObjAt X (X.ρ id) o.cells
  inj : ∀ id id' o o', X.h.look id = some o → X.h.look id' = some o' → (X.ρ id).b = (X.ρ id').b → id = id'
  fresh : ∀ id o, X.h.look id = some o → B ≤ (X.ρ id).b ∧ ¬ X.F (X.ρ id).b
  Flt : ∀ b, X.F b → b < X.w.heap.size
  glob : ∀ g cs, E.glob g = some cs → VRel X (.fp cs) (.pointer (some ⟨g, 0, none⟩))
  start : E.ok B w0
  its : ∀ k s p, X.h.its[k]? = some (s, p) → X.w.heap[X.τ k]? = some (.stringIter ⟨s.toArray⟩ p) ∧ B ≤ X.τ k ∧ ¬ X.F (X.τ k)
  itj : ∀ j k, j < X.h.its.length → k < X.h.its.length → X.τ j = X.τ k → j = k
theorem ObjAt.ext {X X' : RX} (h : Ext X X') {p : Place} {cs : List AV} (hb : X'.w.heap[p.b]? = X.w.heap[p.b]?) (k : ObjAt X p cs) : ObjAt X' p cs := by
  obtain ⟨⟨arr, T, fz, h1, h2, h3, h4, h5⟩, k2⟩ := k
  exact ⟨⟨arr, T, fz, by rw [hb]; exact h1, h2, h3, h4, h5.ext h⟩, k2⟩
theorem ObjAt.lt {X : RX} {p : Place} {cs : List AV} (k : ObjAt X p cs) : p.b < X.w.heap.size := by
  obtain ⟨⟨arr, T, fz, h1, _⟩, _⟩ := k
  exact (Array.getElem?_eq_some_iff.1 h1).1
theorem Heap.look_new (h : Heap) (cs : List AV) (id : Nat) : (h.new cs).look id = if id = h.next then some ⟨0, cs⟩ else h.look id := by
  simp only [Heap.look, Heap.new, Tr.get_set]
theorem Heap.look_upd (h : Heap) (id gen : Nat) (cs : List AV) (id' : Nat) : (h.upd id gen cs).look id' = if id' = id then some ⟨gen, cs⟩ else h.look id' := by
  simp only [Heap.look, Heap.upd, Tr.get_set]
theorem Heap.at_some {h : Heap} {id gen : Nat} {cs : List AV} (e : h.at_ id gen = some cs) : h.look id = some ⟨gen, cs⟩ := by
  unfold Heap.at_ at e
  unfold Heap.look
  cases ho : h.tr.get id with
  | none => rw [ho] at e; cases e
  | some o =>
    rw [ho] at e
    dsimp only at e
    cases hg : Nat.beq o.gen gen with
    | false => rw [hg] at e; cases e
    | true =>
      rw [hg] at e
      have := Nat.eq_of_beq_eq_true hg
      cases o
      simp_all
section
variable {B : Nat} {w0 : World} {E : Env} {X : RX}
/-- The world has grown; of what was there nothing has turned. -/
theorem Ext.grow (X : RX) {w' : World} (hb : Below X.w.heap.size X.w w') : Ext X { X with w := w' } :=
  ⟨rfl, Nat.le_refl _, hb.size, fun b h1 h2 => ⟨hb.block b h1, h2⟩, fun _ o' _ h => ⟨o', h, Nat.le_refl _, fun _ => rfl⟩, Nat.le_refl _, fun _ _ => rfl⟩
theorem Rel.grow (h : Rel B w0 E X) {w' : World} (hb : Below X.w.heap.size X.w w') : Rel B w0 E { X with w := w' } where
  below := h.below.trans (hb.mono h.base)
  base := Nat.le_trans h.base hb.size
  lt := h.lt
  obj id o ho := (h.obj id o ho).ext (Ext.grow X hb) (hb.block _ (h.obj id o ho).lt)
  inj := h.inj
  fresh := h.fresh
  Flt b hF := Nat.lt_of_lt_of_le (h.Flt b hF) hb.size
  glob g cs hg := (h.glob g cs hg).ext (Ext.grow X hb)
  start := h.start
  its k s p hk := by
    obtain ⟨h1, h2, h3⟩ := h.its k s p hk
    exact ⟨by rw [hb.block _ (Array.getElem?_eq_some_iff.1 h1).1]; exact h1, h2, h3⟩
  itj := h.itj
/-- A new object in a new block. -/
def RX.new (X : RX) (w' : World) (cs : List AV) (b n : Nat) : RX :=
  { X with w := w', h := X.h.new cs, ρ := fun id => if id = X.h.next then ⟨b, 0, n⟩ else X.ρ id }
theorem Ext.new (h : Rel B w0 E X) {w' : World} (hb : Below X.w.heap.size X.w w') (cs : List AV) {b : Nat} (hbn : X.w.heap.size ≤ b) (n : Nat) : Ext X (X.new w' cs b n) where
  F := rfl
  next := Nat.le_succ _
  size := hb.size
  other k hk hno := by
    refine ⟨hb.block k hk, ?_⟩
    rintro (⟨id, o, ho, he⟩ | ⟨j, hj, he⟩)
    · simp only [RX.new, Heap.look_new] at ho he
      by_cases hid : id = X.h.next
      · rw [if_pos hid] at he; dsimp only at he; omega
      · rw [if_neg hid] at ho he; exact hno (.inl ⟨id, o, ho, he⟩)
    · exact hno (.inr ⟨j, hj, he⟩)
  obj id o' hid ho := by
    have hne : id ≠ X.h.next := Nat.ne_of_lt hid
    simp only [RX.new, Heap.look_new, if_neg hne] at ho
    exact ⟨o', ho, Nat.le_refl _, fun _ => if_neg hne⟩
  its := ⟨Nat.le_refl _, fun _ _ => rfl⟩
theorem Rel.new (h : Rel B w0 E X) {w' : World} (hb : Below X.w.heap.size X.w w') {cs : List AV} {b : Nat} (hbn : X.w.heap.size ≤ b) (h1 : allOne cs)
    {arr : Array Value} {T : TypeId} {fz : Nat × Nat} (hat : w'.heap[b]? = some (.cells arr T fz)) (hfz : Bare arr.size fz) (hle : cs.length ≤ arr.size)
    (hvs : VRels X cs (arr.toList.take cs.length)) : Rel B w0 E (X.new w' cs b arr.size) := by
  have hE := Ext.new h hb cs hbn arr.size
  constructor
  · exact h.below.trans (hb.mono h.base)
  · exact Nat.le_trans h.base hb.size
  · intro id o ho
    simp only [RX.new, Heap.look_new] at ho ⊢
    by_cases hid : id = X.h.next
    · subst hid; exact Nat.lt_succ_self _
    · rw [if_neg hid] at ho; exact Nat.lt_succ_of_lt (h.lt id o ho)
  · intro id o ho
    by_cases hid : id = X.h.next
    · subst hid
      simp only [RX.new, Heap.look_new, ↓reduceIte] at ho
      cases ho
      refine ⟨⟨arr, T, fz, ?_, ?_, ?_, ?_, ?_⟩, h1⟩
      · simp only [RX.new, ↓reduceIte]; exact hat
      · simp only [RX.new, ↓reduceIte]
      · simp only [RX.new, ↓reduceIte]; omega
      · simp only [RX.new, ↓reduceIte]; exact hfz
      · simp only [RX.new, ↓reduceIte, List.drop_zero]; exact hvs.ext hE
    · have ho' : X.h.look id = some o := by simp only [RX.new, Heap.look_new, if_neg hid] at ho; exact ho
      have hr : (X.new w' cs b arr.size).ρ id = X.ρ id := by simp only [RX.new, if_neg hid]
      rw [hr]
      exact (h.obj id o ho').ext hE (hb.block _ (h.obj id o ho').lt)
  · intro id id' o o' ho ho' he
    simp only [RX.new, Heap.look_new] at ho ho' he
    by_cases hid : id = X.h.next
    · by_cases hid' : id' = X.h.next
      · rw [hid, hid']
      · rw [if_neg hid'] at ho' he
        rw [if_pos hid] at he
        have := (h.obj id' o' ho').lt
        dsimp only at he
        omega
    · rw [if_neg hid] at ho he
      by_cases hid' : id' = X.h.next
      · rw [if_pos hid'] at he
        have := (h.obj id o ho).lt
        dsimp only at he
        omega
      · rw [if_neg hid'] at ho' he
        exact h.inj id id' o o' ho ho' he
  · intro id o ho
    simp only [RX.new, Heap.look_new] at ho ⊢
    by_cases hid : id = X.h.next
    · rw [if_pos hid]
      exact ⟨Nat.le_trans h.base hbn, fun hF => by have := h.Flt _ hF; dsimp only at this; omega⟩
    · rw [if_neg hid] at ho ⊢
      exact h.fresh id o ho
  · intro k hF
    exact Nat.lt_of_lt_of_le (h.Flt k hF) hb.size
  · intro g cs' hg
    exact (h.glob g cs' hg).ext hE
  · exact h.start
  · intro k s p hk
    obtain ⟨g1, g2, g3⟩ := h.its k s p hk
    exact ⟨by rw [show (X.new w' cs b arr.size).w.heap[(X.new w' cs b arr.size).τ k]? = w'.heap[X.τ k]? from rfl, hb.block _ (Array.getElem?_eq_some_iff.1 g1).1]; exact g1, g2, g3⟩
  · exact h.itj
/-- The worlds part in one block alone. -/
structure Only (b : Nat) (w w' : World) : Prop where
  os : w'.os = w.os
  tape : w'.tape = w.tape
  output : w'.output = w.output
  size : w.heap.size ≤ w'.heap.size
  block : ∀ k, k < w.heap.size → k ≠ b → w'.heap[k]? = w.heap[k]?
/-- An object is written where it lies, or moves on. -/
def RX.upd (X : RX) (w' : World) (id gen : Nat) (cs : List AV) (p : Place) : RX :=
  { X with w := w', h := X.h.upd id gen cs, ρ := fun k => if k = id then p else X.ρ k }
theorem Ext.upd (h : Rel B w0 E X) {w' : World} {id : Nat} {o : AObj} (hl : X.h.look id = some o) (hw : Only (X.ρ id).b X.w w') {gen : Nat} {cs : List AV} {p : Place}
    (hg : o.gen ≤ gen) (hp : o.gen = gen → p = X.ρ id) (hpb : p.b = (X.ρ id).b ∨ X.w.heap.size ≤ p.b) : Ext X (X.upd w' id gen cs p) where
  F := rfl
  next := Nat.le_refl _
  size := hw.size
  other k hk hno := by
    have hkb : k ≠ (X.ρ id).b := fun e => hno (.inl ⟨id, o, hl, e.symm⟩)
    refine ⟨hw.block k hk hkb, ?_⟩
    rintro (⟨id', o', ho', he⟩ | ⟨j, hj, he⟩)
    · simp only [RX.upd, Heap.look_upd] at ho' he
      by_cases hid : id' = id
      · rw [if_pos hid] at he
        rcases hpb with e | e
        · exact hkb (by rw [← he, e])
        · omega
      · rw [if_neg hid] at ho' he; exact hno (.inl ⟨id', o', ho', he⟩)
    · exact hno (.inr ⟨j, hj, he⟩)
  obj id' o' hid ho := by
    simp only [RX.upd, Heap.look_upd] at ho ⊢
    by_cases he : id' = id
    · subst he
      rw [if_pos rfl] at ho ⊢
      cases ho
      exact ⟨o, hl, hg, hp⟩
    · rw [if_neg he] at ho ⊢
      exact ⟨o', ho, Nat.le_refl _, fun _ => rfl⟩
  its := ⟨Nat.le_refl _, fun _ _ => rfl⟩
theorem Rel.upd (h : Rel B w0 E X) {w' : World} {id : Nat} {o : AObj} (hl : X.h.look id = some o) (hw : Only (X.ρ id).b X.w w') {gen : Nat} {cs : List AV} {p : Place}
    (hg : o.gen ≤ gen) (hp : o.gen = gen → p = X.ρ id) (hpb : p.b = (X.ρ id).b ∨ X.w.heap.size ≤ p.b) (h1 : allOne cs)
    {arr : Array Value} {T : TypeId} {fz : Nat × Nat} (hat : w'.heap[p.b]? = some (.cells arr T fz)) (hn : arr.size = p.n) (hfz : Bare p.n fz) (hle : p.o + cs.length ≤ p.n)
    (hvs : VRels X cs ((arr.toList.drop p.o).take cs.length)) : Rel B w0 E (X.upd w' id gen cs p) := by
  have hE := Ext.upd h hl hw (cs := cs) hg hp hpb
  have hB := h.fresh id o hl
  constructor
  · refine ⟨hw.os.trans h.below.os, hw.tape.trans h.below.tape, hw.output.trans h.below.output, Nat.le_trans h.below.size hw.size, fun k hk => ?_⟩
    rw [← h.below.block k hk]
    exact hw.block k (Nat.lt_of_lt_of_le hk h.base) (by omega)
  · exact Nat.le_trans h.base hw.size
  · intro id' o' ho'
    simp only [RX.upd, Heap.look_upd] at ho' ⊢
    by_cases hid : id' = id
    · subst hid; exact h.lt _ o hl
    · rw [if_neg hid] at ho'; exact h.lt id' o' ho'
  · intro id' o' ho'
    by_cases hid : id' = id
    · subst hid
      simp only [RX.upd, Heap.look_upd, ↓reduceIte] at ho'
      cases ho'
      have hr : (X.upd w' id' gen cs p).ρ id' = p := by simp only [RX.upd, ↓reduceIte]
      rw [hr]
      exact ⟨⟨arr, T, fz, hat, hn, hle, hfz, hvs.ext hE⟩, h1⟩
    · have ho2 : X.h.look id' = some o' := by simp only [RX.upd, Heap.look_upd, if_neg hid] at ho'; exact ho'
      have hr : (X.upd w' id gen cs p).ρ id' = X.ρ id' := by simp only [RX.upd, if_neg hid]
      rw [hr]
      refine (h.obj id' o' ho2).ext hE (hw.block _ (h.obj id' o' ho2).lt fun e => hid (h.inj id' id o' o ho2 hl e))
  · intro i j oi oj hi hj he
    simp only [RX.upd, Heap.look_upd] at hi hj he
    by_cases hid : i = id
    · by_cases hjd : j = id
      · rw [hid, hjd]
      · rw [if_neg hjd] at hj he
        rw [if_pos hid] at he
        rcases hpb with e | e
        · exact hid.trans (h.inj id j o oj hl hj (by rw [← e, he]))
        · have := (h.obj j oj hj).lt; omega
    · rw [if_neg hid] at hi he
      by_cases hjd : j = id
      · rw [if_pos hjd] at he
        rcases hpb with e | e
        · exact (h.inj i id oi o hi hl (by rw [he, e])).trans hjd.symm
        · have := (h.obj i oi hi).lt; omega
      · rw [if_neg hjd] at hj he
        exact h.inj i j oi oj hi hj he
  · intro id' o' ho'
    simp only [RX.upd, Heap.look_upd] at ho' ⊢
    by_cases hid : id' = id
    · rw [if_pos hid]
      rcases hpb with e | e
      · rw [e]; exact hB
      · exact ⟨Nat.le_trans h.base e, fun hF => by have := h.Flt _ hF; omega⟩
    · rw [if_neg hid] at ho' ⊢
      exact h.fresh id' o' ho'
  · intro k hF
    exact Nat.lt_of_lt_of_le (h.Flt k hF) hw.size
  · intro g cs' hg'
    exact (h.glob g cs' hg').ext hE
  · exact h.start
  · intro k s q hk
    obtain ⟨g1, g2, g3⟩ := h.its k s q hk
    have hne : X.τ k ≠ (X.ρ id).b := by
      intro e
      obtain ⟨⟨arr', T', fz', q1, _⟩, _⟩ := h.obj id o hl
      rw [e, q1] at g1
      cases g1
    exact ⟨by rw [show (X.upd w' id gen cs p).w.heap[(X.upd w' id gen cs p).τ k]? = w'.heap[X.τ k]? from rfl, hw.block _ (Array.getElem?_eq_some_iff.1 g1).1 hne]; exact g1, g2, g3⟩
  · exact h.itj
/-- A text's walk begins. -/
def RX.walk (X : RX) (w' : World) (s : List UInt8) (b : Nat) : RX := { X with w := w', h := X.h.walk s, τ := fun k => if k = X.h.its.length then b else X.τ k }
theorem Ext.walk (X : RX) {w' : World} (hb : Below X.w.heap.size X.w w') (s : List UInt8) {b : Nat} (hbn : X.w.heap.size ≤ b) : Ext X (X.walk w' s b) where
  F := rfl
  next := Nat.le_refl _
  size := hb.size
  other k hk hno := by
    refine ⟨hb.block k hk, ?_⟩
    rintro (⟨id, o, ho, he⟩ | ⟨j, hj, he⟩)
    · exact hno (.inl ⟨id, o, ho, he⟩)
    · simp only [RX.walk, Heap.walk, List.length_append, List.length_singleton] at hj he
      by_cases e : j = X.h.its.length
      · rw [if_pos e] at he; omega
      · rw [if_neg e] at he; exact hno (.inr ⟨j, by omega, he⟩)
  obj id o' hid ho := ⟨o', ho, Nat.le_refl _, fun _ => rfl⟩
  its := ⟨by simp only [RX.walk, Heap.walk, List.length_append]; omega, fun k hk => by simp only [RX.walk]; rw [if_neg (by omega)]⟩
theorem Rel.walk (h : Rel B w0 E X) {w' : World} (hb : Below X.w.heap.size X.w w') {s : List UInt8} {b : Nat} (hbn : X.w.heap.size ≤ b) (hat : w'.heap[b]? = some (.stringIter ⟨s.toArray⟩ 0)) : Rel B w0 E (X.walk w' s b) := by
  have hE := Ext.walk X hb s hbn
  have hlt : ∀ k, k < X.h.its.length → X.τ k < X.w.heap.size := fun k hk => by
    obtain ⟨g1, _⟩ := h.its k X.h.its[k].1 X.h.its[k].2 (List.getElem?_eq_getElem hk)
    exact (Array.getElem?_eq_some_iff.1 g1).1
  constructor
  · exact h.below.trans (hb.mono h.base)
  · exact Nat.le_trans h.base hb.size
  · exact h.lt
  · exact fun id o ho => (h.obj id o ho).ext hE (hb.block _ (h.obj id o ho).lt)
  · exact h.inj
  · exact h.fresh
  · exact fun k hF => Nat.lt_of_lt_of_le (h.Flt k hF) hb.size
  · exact fun g cs' hg => (h.glob g cs' hg).ext hE
  · exact h.start
  · intro k t p hk
    simp only [RX.walk, Heap.walk] at hk ⊢
    by_cases e : k = X.h.its.length
    · rw [if_pos e]
      rw [e, List.getElem?_append_right (Nat.le_refl _), Nat.sub_self] at hk
      simp only [List.getElem?_cons_zero, Option.some.injEq, Prod.mk.injEq] at hk
      obtain ⟨rfl, rfl⟩ := hk
      exact ⟨hat, Nat.le_trans h.base hbn, fun hF => by have := h.Flt _ hF; omega⟩
    · rw [if_neg e]
      have hk2 : k < X.h.its.length := by
        have := (List.getElem?_eq_some_iff.1 hk).1
        simp only [List.length_append, List.length_singleton] at this
        omega
      rw [List.getElem?_append_left hk2] at hk
      obtain ⟨g1, g2, g3⟩ := h.its k t p hk
      exact ⟨by rw [hb.block _ (hlt k hk2)]; exact g1, g2, g3⟩
  · intro j k hj hk he
    simp only [RX.walk, Heap.walk, List.length_append, List.length_singleton] at hj hk he
    by_cases e : j = X.h.its.length
    · by_cases e2 : k = X.h.its.length
      · omega
      · rw [if_pos e, if_neg e2] at he
        have := hlt k (by omega); omega
    · by_cases e2 : k = X.h.its.length
      · rw [if_neg e, if_pos e2] at he
        have := hlt j (by omega); omega
      · rw [if_neg e, if_neg e2] at he
        exact h.itj j k (by omega) (by omega) he
/-- and goes on. -/
def RX.step (X : RX) (w' : World) (k : Nat) (s : List UInt8) (p : Nat) : RX := { X with w := w', h := X.h.step k s p }
theorem Ext.step (X : RX) {w' : World} {k : Nat} (hk : k < X.h.its.length) (hw : Only (X.τ k) X.w w') (s : List UInt8) (p : Nat) : Ext X (X.step w' k s p) where
  F := rfl
  next := Nat.le_refl _
  size := hw.size
  other b hb hno := by
    refine ⟨hw.block b hb fun e => hno (.inr ⟨k, hk, e.symm⟩), ?_⟩
    rintro (⟨id, o, ho, he⟩ | ⟨j, hj, he⟩)
    · exact hno (.inl ⟨id, o, ho, he⟩)
    · exact hno (.inr ⟨j, by simpa only [RX.step, Heap.step, List.length_set] using hj, he⟩)
  obj id o' hid ho := ⟨o', ho, Nat.le_refl _, fun _ => rfl⟩
  its := ⟨by simp only [RX.step, Heap.step, List.length_set]; exact Nat.le_refl _, fun _ _ => rfl⟩
theorem Rel.step (h : Rel B w0 E X) {w' : World} {k : Nat} {s : List UInt8} {p0 p : Nat} (hk : X.h.its[k]? = some (s, p0)) (hw : Only (X.τ k) X.w w') (hat : w'.heap[X.τ k]? = some (.stringIter ⟨s.toArray⟩ p)) : Rel B w0 E (X.step w' k s p) := by
  have hkl := (List.getElem?_eq_some_iff.1 hk).1
  obtain ⟨e1, e2, e3⟩ := h.its k s p0 hk
  have hE := Ext.step X hkl hw s p
  have hne : ∀ id o, X.h.look id = some o → (X.ρ id).b ≠ X.τ k := by
    intro id o ho e
    obtain ⟨⟨arr', T', fz', q1, _⟩, _⟩ := h.obj id o ho
    rw [e, e1] at q1
    cases q1
  constructor
  · refine ⟨hw.os.trans h.below.os, hw.tape.trans h.below.tape, hw.output.trans h.below.output, Nat.le_trans h.below.size hw.size, fun b hb => ?_⟩
    rw [← h.below.block b hb]
    exact hw.block b (Nat.lt_of_lt_of_le hb h.base) (by omega)
  · exact Nat.le_trans h.base hw.size
  · exact h.lt
  · exact fun id o ho => (h.obj id o ho).ext hE (hw.block _ (h.obj id o ho).lt (hne id o ho))
  · exact h.inj
  · exact h.fresh
  · exact fun b hF => Nat.lt_of_lt_of_le (h.Flt b hF) hw.size
  · exact fun g cs' hg => (h.glob g cs' hg).ext hE
  · exact h.start
  · intro j t q hj
    simp only [RX.step, Heap.step] at hj ⊢
    by_cases e : j = k
    · subst e
      rw [List.getElem?_set_self hkl] at hj
      cases hj
      exact ⟨hat, e2, e3⟩
    · rw [List.getElem?_set_ne (fun e' => e e'.symm)] at hj
      obtain ⟨g1, g2, g3⟩ := h.its j t q hj
      have hjl := (List.getElem?_eq_some_iff.1 hj).1
      exact ⟨by rw [hw.block _ (Array.getElem?_eq_some_iff.1 g1).1 (fun e' => e (h.itj j k hjl hkl e'))]; exact g1, g2, g3⟩
  · intro i j hi hj he
    simp only [RX.step, Heap.step, List.length_set] at hi hj he
    exact h.itj i j hi hj he
end
end Go.AM
