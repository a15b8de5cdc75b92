/-
  THE ABSTRACT MACHINE: what a reading of a row's argument is among the machine's values.
-/
import Derived.Test.YtpggjddiddmkkaaGreatDoorAmTop
set_option linter.unusedSimpArgs false
set_option linter.unusedVariables false
namespace Go.AM
open Go.RowKit Go.ChangeShapes
inductive All2 {α β : Type} (R : α → β → Prop) : List α → List β → Prop
  | nil : All2 R [] []
  | cons {a : α} {b : β} {as : List α} {bs : List β} (h : R a b) (hs : All2 R as bs) : All2 R (a :: as) (b :: bs)
theorem All2.snoc {α β : Type} {R : α → β → Prop} {a : α} {b : β} (h : R a b) : ∀ {as : List α} {bs : List β}, All2 R as bs → All2 R (as ++ [a]) (bs ++ [b])
  | _, _, .nil => .cons h .nil
  | _, _, .cons h1 h2 => .cons h1 (All2.snoc h h2)
theorem All2.length {α β : Type} {R : α → β → Prop} : ∀ {as : List α} {bs : List β}, All2 R as bs → as.length = bs.length
  | _, _, .nil => rfl
  | _, _, .cons _ h => by simp [All2.length h]
theorem All2.imp {α β : Type} {R S : α → β → Prop} (h : ∀ a b, R a b → S a b) : ∀ {as : List α} {bs : List β}, All2 R as bs → All2 S as bs
  | _, _, .nil => .nil
  | _, _, .cons h1 h2 => .cons (h _ _ h1) (All2.imp h h2)
/-- The shape of a type: what an argument's reading can be. -/
inductive Sh where
  | bool
  | int (k : IntKind)
  | str
  | slice (e : Sh)
  | ptr (e : Sh)
  | agg (l : List Sh)
mutual
def Sh.size : Sh → Nat
  | .agg l => Sh.sizes l
  | _ => 1
def Sh.sizes : List Sh → Nat
  | [] => 0
  | s :: l => s.size + Sh.sizes l
end
def shFields (g : TypeId → Option Sh) : List Field → Nat → Option (List Sh)
  | [], _ => some []
  | f :: fs, off => if f.offset = off then (g f.type).bind fun s => (shFields g fs (off + s.size)).map fun l => s :: l else none
def shOf (P : Program) : Nat → TypeId → Option Sh
  | 0, _ => none
  | n + 1, t =>
    Option.bind (match P.underlying t with
     | some .bool => some Sh.bool
     | some (.int k) => some (Sh.int k)
     | some .string => some Sh.str
     | some (.slice e) => (shOf P n e).map Sh.slice
     | some (.pointer e) => (shOf P n e).bind fun s => if 0 < s.size then some (Sh.ptr s) else none
     | some (.struct fs) => (shFields (shOf P n) fs.toList 0).map Sh.agg
     | _ => none) fun s => if P.cellsOf t = s.size then some s else none
mutual
def Fits {H : Type} : Sh → DataW H → List AV → Prop
  | .bool, d, vs => ∃ b, d = .lit (.bool b) ∧ vs = [.bool b]
  | .int k, d, vs => ∃ n, d = .lit (.int k n) ∧ (Lit.int k n).wf = true ∧ vs = [.int k n]
  | .str, d, vs => ∃ l, d = .lit (.string l) ∧ l.length ≤ maxLen ∧ vs = [.str l]
  | .slice e, d, vs => (d = .nil ∧ vs = [.nils]) ∨ ∃ elems spare css, d = .slice elems spare ∧ elems.length + spare.length ≤ maxLen ∧ All2 (Fits e) elems css ∧ vs = [.fs spare.isEmpty elems.length css.flatten]
  | .ptr e, d, vs => (d = .nil ∧ vs = [.nilp]) ∨ ∃ d' cs, d = .ptr d' ∧ Fits e d' cs ∧ vs = [.fp cs]
  | .agg l, d, vs => ∃ parts, d = .agg parts ∧ FitsAll l parts vs
def FitsAll {H : Type} : List Sh → List (DataW H) → List AV → Prop
  | [], ds, vs => ds = [] ∧ vs = []
  | s :: l, ds, vs => ∃ d ds' a b, ds = d :: ds' ∧ vs = a ++ b ∧ Fits s d a ∧ FitsAll l ds' b
end
mutual
theorem Fits.length {H : Type} : ∀ {s : Sh} {d : DataW H} {vs : List AV}, Fits s d vs → vs.length = s.size
  | .bool, d, vs, h => by obtain ⟨b, _, rfl⟩ := h; rfl
  | .int k, d, vs, h => by obtain ⟨b, _, _, rfl⟩ := h; rfl
  | .str, d, vs, h => by obtain ⟨b, _, _, rfl⟩ := h; rfl
  | .slice e, d, vs, h => by rcases h with ⟨_, rfl⟩ | ⟨_, _, _, _, _, _, rfl⟩ <;> rfl
  | .ptr e, d, vs, h => by rcases h with ⟨_, rfl⟩ | ⟨_, _, _, _, rfl⟩ <;> rfl
  | .agg l, d, vs, h => by obtain ⟨ps, _, h⟩ := h; exact FitsAll.length h
theorem FitsAll.length {H : Type} : ∀ {l : List Sh} {ds : List (DataW H)} {vs : List AV}, FitsAll l ds vs → vs.length = Sh.sizes l
  | [], ds, vs, h => by obtain ⟨_, rfl⟩ := h; rfl
  | s :: l, ds, vs, h => by
    obtain ⟨d, ds', a, b, rfl, rfl, h1, h2⟩ := h
    simp [Sh.sizes, Fits.length h1, FitsAll.length h2]
end
section
variable {H : Type} {enc : TypeId × Value → H} {P : Program} {W : World}
theorem cell_plain {a : Addr} {v : Value} (h : W.cell? a = some v) : a.spot = none ∧ a.block < W.heap.size := by
  unfold World.cell? at h
  split at h
  · rename_i c t fr hc
    split at h
    · cases h
    · rename_i hs
      refine ⟨by simpa using hs, ?_⟩
      exact (Array.getElem?_eq_some_iff.1 hc).1
  · cases h
/-- what the theorem says of one type -/
def ReadsOk (enc : TypeId × Value → H) (P : Program) (W : World) (t : TypeId) (sh : Sh) : Prop :=
  ∀ fuel cs d ps, DataW.trod enc P W 0 (fun _ => true) true fuel t cs = some (d, ps) → ∃ avs, Fits sh d avs ∧ VRels (RX.start W) avs cs ∧ allOne avs ∧ cs.length = sh.size
theorem addr_add_add (a : Addr) (m n : Nat) : (a.add m).add n = a.add (m + n) := by
  obtain ⟨b, o, sp⟩ := a
  unfold Addr.add
  by_cases hm : m = 0
  · subst hm; simp
  · by_cases hn : n = 0
    · subst hn; simp [hm]
    · have : ¬ (m + n = 0) := by omega
      simp only [hm, hn, this, if_false]
      congr 1
      omega
theorem addr_add_plain (b o i : Nat) : (⟨b, o, none⟩ : Addr).add i = ⟨b, o + i, none⟩ := by
  unfold Addr.add
  split
  · rename_i h; subst h; rfl
  · rfl
theorem reads_fields {g : TypeId → Option Sh} (hg : ∀ t s, g t = some s → ReadsOk enc P W t s ∧ P.cellsOf t = s.size) {fuel : Nat} {cs : List Value} : ∀ (fs : List Field) (off : Nat) (l : List Sh) (xs : List (DataW H × List MemPlace)), shFields g fs off = some l →
    xs.length = fs.length → (∀ (i : Nat) (f : Field), fs[i]? = some f → DataW.trod enc P W 0 (fun _ => true) true fuel f.type ((cs.drop f.offset).take (P.cellsOf f.type)) = xs[i]?) →
    ∃ avs, FitsAll l (xs.map (·.1)) avs ∧ VRels (RX.start W) avs ((cs.drop off).take (Sh.sizes l)) ∧ allOne avs
  | [], off, l, xs, h, hlen, hx => by
    simp only [shFields, Option.some.injEq] at h
    subst h
    cases xs with
    | cons x xs => simp at hlen
    | nil => exact ⟨[], ⟨rfl, rfl⟩, by simpa [Sh.sizes] using VRels.nil, fun v hv => by cases hv⟩
  | f :: fs, off, l, xs, h, hlen, hx => by
    simp only [shFields] at h
    split at h
    case isFalse => cases h
    rename_i hoff
    simp only [Option.bind_eq_some_iff, Option.map_eq_some_iff] at h
    obtain ⟨s, hs, l', hl', rfl⟩ := h
    cases xs with
    | nil => simp at hlen
    | cons x xs' =>
    obtain ⟨d, p⟩ := x
    have hd := hx 0 f rfl
    simp only [List.getElem?_cons_zero] at hd
    obtain ⟨hr, hsz⟩ := hg _ _ hs
    obtain ⟨a, a1, a2, a3, a4⟩ := hr _ _ _ _ hd
    obtain ⟨b, b1, b2, b3⟩ := reads_fields hg fs _ l' xs' hl' (by simpa using hlen) fun i f' hf => by simpa using hx (i + 1) f' (by simpa using hf)
    refine ⟨a ++ b, ⟨d, _, a, b, rfl, rfl, a1, b1⟩, ?_, a3.append b3⟩
    have := a2.append b2
    rw [hoff, hsz] at this
    rw [show List.take (Sh.sizes (s :: l')) (List.drop off cs) = List.take s.size (List.drop off cs) ++ List.take (Sh.sizes l') (List.drop (off + s.size) cs) by
      simp only [Sh.sizes]
      rw [List.take_add, List.drop_drop]]
    exact this
theorem reads_elems {e : TypeId} {s : Sh} (hr : ReadsOk enc P W e s) (hsz : P.cellsOf e = s.size) {fuel : Nat} {a : Addr} {len : Nat} {elems : List (DataW H × List MemPlace)} (hlen : elems.length = len)
    (hget : ∀ i, i < len → (W.cells? 0 (a.add (i * P.cellsOf e)) (P.cellsOf e)).bind (DataW.trod enc P W 0 (fun _ => true) true fuel e) = elems[i]?) : ∀ (k : Nat), k ≤ len →
    ∃ css vs, All2 (Fits s) ((elems.take k).map (·.1)) css ∧ VRels (RX.start W) css.flatten vs ∧ allOne css.flatten ∧ vs.length = k * s.size ∧ ∀ i v, vs[i]? = some v → W.cell? (a.add i) = some v
  | 0, _ => ⟨[], [], by simpa using All2.nil, by simpa using VRels.nil, fun v hv => by simp at hv, by simp, fun i v h => by simp at h⟩
  | k + 1, hk => by
    obtain ⟨css, vs, g1, g2, g3, g4, g5⟩ := reads_elems hr hsz hlen hget k (by omega)
    have h1 := hget k (by omega)
    have hke := List.getElem?_eq_getElem (show k < elems.length by omega)
    rw [hke] at h1
    simp only [Option.bind_eq_some_iff] at h1
    obtain ⟨cs, hcs, hd⟩ := h1
    obtain ⟨avs, a1, a2, a3, a4⟩ := hr _ _ _ _ hd
    obtain ⟨_, c2, c3⟩ := World.cells?_some hcs
    refine ⟨css ++ [avs], vs ++ cs, ?_, ?_, ?_, ?_, ?_⟩
    · rw [List.take_add_one, hke]
      simp only [Option.toList_some, List.map_append, List.map_cons, List.map_nil]
      exact All2.snoc a1 g1
    · simpa using g2.append a2
    · simpa using g3.append a3
    · simp only [List.length_append, g4, a4]
      rw [Nat.succ_mul]
    · intro i v hi
      rw [List.getElem?_append] at hi
      split at hi
      · exact g5 i v hi
      · rename_i hlt
        have hlt2 : i - vs.length < cs.length := (List.getElem?_eq_some_iff.1 hi).1
        have := c3 (i - vs.length) (by omega)
        rw [hi, addr_add_add] at this
        rw [← this, hsz, ← g4]
        congr 2
        omega
theorem reads_ok : ∀ (n : Nat) (t : TypeId) (sh : Sh), shOf P n t = some sh → ReadsOk enc P W t sh ∧ P.cellsOf t = sh.size := by
  intro n
  induction n with
  | zero => intro t sh h; cases h
  | succ n ih =>
    intro t sh h
    simp only [shOf, Option.bind_eq_some_iff] at h
    obtain ⟨sh', h1, h2⟩ := h
    split at h2
    case isFalse => cases h2
    rename_i hsz
    simp only [Option.some.injEq] at h2
    subst h2
    refine ⟨?_, hsz⟩
    intro fuel cs d ps ht
    cases hu : P.underlying t with
    | none => rw [hu] at h1; cases h1
    | some desc =>
      rw [hu] at h1
      cases desc <;> simp only [reduceCtorEq, Option.some.injEq, Option.map_eq_some_iff, Option.bind_eq_some_iff] at h1
      case bool =>
        subst h1
        obtain ⟨b, rfl, hx⟩ := DataW.trod_bool hu ht
        cases hx
        exact ⟨_, ⟨_, rfl, rfl⟩, VRels.one (.bool _), by simp [allOne, AV.one], by simp [Sh.size]⟩
      case int k =>
        subst h1
        obtain ⟨b, rfl, hx, hwf⟩ := DataW.trod_int hu ht
        cases hx
        exact ⟨_, ⟨_, rfl, hwf, rfl⟩, VRels.one (.int _ _), by simp [allOne, AV.one], by simp [Sh.size]⟩
      case string =>
        subst h1
        obtain ⟨s, rfl, hx, hk⟩ := DataW.trod_string hu ht
        cases hx
        refine ⟨_, ⟨_, rfl, ?_, rfl⟩, VRels.one ?_, by simp [allOne, AV.one], by simp [Sh.size]⟩
        · simpa using hk
        · have := VRel.str (X := RX.start W) s.data.toList
          simpa using this
      case pointer e =>
        obtain ⟨s, hs, h1⟩ := h1
        split at h1
        case isFalse => cases h1
        rename_i hpos
        simp only [Option.some.injEq] at h1
        subst h1
        obtain ⟨hr, he⟩ := ih e s hs
        rcases DataW.trod_pointer hu ht with ⟨rfl, hx⟩ | ⟨a, cs', y, m, rfl, rfl, hx, hcs', hd'⟩
        · cases hx
          exact ⟨_, .inl ⟨rfl, rfl⟩, VRels.one .nilp, by simp [allOne, AV.one], by simp [Sh.size]⟩
        · obtain ⟨d', p'⟩ := y
          cases hx
          obtain ⟨avs, a1, a2, a3, a4⟩ := hr _ _ _ _ hd'
          obtain ⟨_, c2, c3⟩ := World.cells?_some hcs'
          have h0 : ∃ v, W.cell? (a.add 0) = some v := by
            have := c3 0 (by omega)
            rw [this]
            exact ⟨_, List.getElem?_eq_getElem (by omega)⟩
          obtain ⟨v0, h0⟩ := h0
          obtain ⟨g1, g2⟩ := cell_plain h0
          obtain ⟨b, o, sp⟩ := a
          simp only [Addr.add, if_true] at g1 g2
          subst g1
          refine ⟨_, .inr ⟨_, _, rfl, a1, rfl⟩, VRels.one (.fp _ b o cs' (start_still g2) ?_ a3 a2), by simp [allOne, AV.one], by simp [Sh.size]⟩
          intro i v hi
          have hlt := (List.getElem?_eq_some_iff.1 hi).1
          have := c3 i (by omega)
          rw [hi, addr_add_plain] at this
          exact this
      case slice e =>
        obtain ⟨s, hs, rfl⟩ := h1
        obtain ⟨hr, he⟩ := ih e s hs
        rcases DataW.trod_slice hu ht with ⟨rfl, hx⟩ | ⟨a, len, cap, elems, rest, m, rfl, rfl, hx, _, hle, hcap, hl1, hget, hrest, _⟩
        · cases hx
          exact ⟨_, .inl ⟨rfl, rfl⟩, VRels.one .nils, by simp [allOne, AV.one], by simp [Sh.size]⟩
        · cases hx
          obtain ⟨hl2, _⟩ := hrest rfl
          obtain ⟨css, vs, g1, g2, g3, g4, g5⟩ := reads_elems hr he hl1 hget len (Nat.le_refl _)
          rw [List.take_of_length_le (by omega)] at g1
          refine ⟨_, .inr ⟨_, _, css, rfl, by simp; omega, g1, rfl⟩, VRels.one ?_, by simp [allOne, AV.one], by simp [Sh.size]⟩
          have hel' : (elems.map (·.1)).length = len := by simp [hl1]
          rw [hel']
          refine .fs _ len _ a cap vs hle (fun hf => ?_) (fun hne => ?_) g3 g2
          · simp only [List.isEmpty_iff, List.map_eq_nil_iff] at hf
            subst hf
            simp at hl2; omega
          · have hvs : 0 < vs.length := by
              rw [← g2.length]
              exact List.length_pos_iff.2 hne
            have h0 := g5 0 _ (List.getElem?_eq_getElem hvs)
            obtain ⟨q1, q2⟩ := cell_plain h0
            obtain ⟨b, o, sp⟩ := a
            simp only [Addr.add, if_true] at q1 q2
            subst q1
            refine ⟨b, o, rfl, start_still q2, fun i v hi => ?_⟩
            have := g5 i v hi
            rw [addr_add_plain] at this
            exact this
      case struct fs =>
        obtain ⟨l, hl, rfl⟩ := h1
        obtain ⟨xs, m, rfl, hx, hlen, hxl, hget⟩ := DataW.trod_struct hu ht
        cases hx
        obtain ⟨avs, a1, a2, a3⟩ := reads_fields (fun t s hts => ih t s hts) fs.toList 0 l xs hl (by simpa using hxl) (fun i f hf => hget i f (by simpa using hf))
        simp only [Sh.size] at hsz
        refine ⟨avs, ⟨_, rfl, a1⟩, ?_, a3, by rw [hlen, hsz]; rfl⟩
        rw [List.drop_zero, List.take_of_length_le (by omega)] at a2
        exact a2
end
def shsOf (P : Program) (n : Nat) : List TypeId → Option (List Sh)
  | [] => some []
  | t :: ts => (shOf P n t).bind fun s => (shsOf P n ts).map fun l => s :: l
/-- what an argument of this shape is: an aggregate's cells lie in it -/
def Sh.whole : Sh → List AV → AV
  | .agg _, vs => .agg vs
  | _, [v] => v
  | _, _ => .undef
def FitsArgs {H : Type} : List Sh → List (DataW H) → List AV → Prop
  | [], ds, vs => ds = [] ∧ vs = []
  | s :: l, ds, vs => ∃ d ds' cs vs', ds = d :: ds' ∧ vs = s.whole cs :: vs' ∧ Fits s d cs ∧ FitsArgs l ds' vs'
section
variable {H : Type} {enc : TypeId × Value → H} {P : Program} {W : World}
theorem whole_rel {t : TypeId} {n base : Nat} {sh : Sh} (hs : shOf P n t = some sh) {v : Value} (hok : Value.okWide P W .any base t v) {avs : List AV} (h1 : VRels (RX.start W) avs v.cells.toList) (h2 : allOne avs) (h3 : avs.length = sh.size) :
    VRel (RX.start W) (sh.whole avs) v := by
  cases n with
  | zero => cases hs
  | succ n =>
  simp only [shOf, Option.bind_eq_some_iff] at hs
  obtain ⟨sh', g1, g2⟩ := hs
  split at g2
  case isFalse => cases g2
  simp only [Option.some.injEq] at g2
  subst g2
  unfold Value.okWide at hok
  have one : (∀ l, sh' ≠ .agg l) → (∀ cs, v ≠ .agg cs) → VRel (RX.start W) (sh'.whole avs) v := by
    intro hna hnv
    have hl : avs.length = 1 := by
      rw [h3]
      cases sh' <;> first | rfl | exact absurd rfl (hna _)
    match avs, hl, h1 with
    | [x], _, h1 =>
      have hw : sh'.whole [x] = x := by cases sh' <;> first | rfl | exact absurd rfl (hna _)
      rw [hw]
      have hc : v.cells.toList = [v] := by cases v <;> first | rfl | exact absurd rfl (hnv _)
      rw [hc] at h1
      cases h1 with
      | cons _ _ _ _ hv _ => exact hv
  have cell : ∀ {b : Nat} {u : Value}, Cell.okWide P W .any b t u → (∀ fs, P.underlying t ≠ some (.struct fs)) → ∀ cs, u ≠ .agg cs := by
    rintro b u hc hns cs rfl
    unfold Cell.okWide at hc
    split at hc <;> first | (rename_i hh; cases hh; done) | skip
    all_goals first | (rename_i hh _; cases hh; done) | skip
    all_goals (try (unfold Cell.ok at hc; split at hc <;> simp_all))
  cases hu : P.underlying t with
  | none => rw [hu] at g1; cases g1
  | some desc =>
    rw [hu] at g1 hok
    cases desc <;> simp only [reduceCtorEq, Option.some.injEq, Option.map_eq_some_iff, Option.bind_eq_some_iff] at g1
    case bool => subst g1; exact one (by simp) (cell hok (by simp [hu]))
    case int => subst g1; exact one (by simp) (cell hok (by simp [hu]))
    case string => subst g1; exact one (by simp) (cell hok (by simp [hu]))
    case pointer =>
      obtain ⟨s, _, g1⟩ := g1
      split at g1
      · simp only [Option.some.injEq] at g1; subst g1; exact one (by simp) (cell hok (by simp [hu]))
      · cases g1
    case slice => obtain ⟨s, _, rfl⟩ := g1; exact one (by simp) (cell hok (by simp [hu]))
    case struct fs =>
      obtain ⟨l, _, rfl⟩ := g1
      obtain ⟨cs, rfl, _, _⟩ := hok
      have := VRel.agg (X := RX.start W) avs cs.toList h2 h1
      simpa [Sh.whole] using this
theorem args_fit {n base : Nat} : ∀ {ts : List TypeId} {shs : List Sh} {vs : List Value} {ds : List (DataW H)} {ps : List MemPlace}, shsOf P n ts = some shs →
    (∀ (j : Nat) t v, ts[j]? = some t → vs[j]? = some v → Value.okWide P W .any base t v) → DataW.TrodAll enc P W 0 (fun _ => true) true ts vs ds ps →
    ∃ avs, FitsArgs shs ds avs ∧ VRels (RX.start W) avs vs
  | [], shs, [], [], ps, h, _, ht => by
    simp only [shsOf, Option.some.injEq] at h
    subst h
    exact ⟨[], ⟨rfl, rfl⟩, .nil⟩
  | [], _, _ :: _, _, _, _, _, ht => ht.elim
  | [], _, [], _ :: _, _, _, _, ht => ht.elim
  | _ :: _, _, [], _, _, _, _, ht => ht.elim
  | _ :: _, _, _ :: _, [], _, _, _, ht => ht.elim
  | t :: ts, shs, v :: vs, d :: ds, ps, h, hok, ht => by
    simp only [shsOf, Option.bind_eq_some_iff, Option.map_eq_some_iff] at h
    obtain ⟨s, hs, l, hl, rfl⟩ := h
    obtain ⟨p, q, ⟨fuel, h1⟩, h2, _⟩ := ht
    obtain ⟨avs, a1, a2, a3, a4⟩ := (reads_ok (enc := enc) (W := W) n t s hs).1 _ _ _ _ h1
    obtain ⟨rest, b1, b2⟩ := args_fit hl (fun j t' v' hj hv => hok (j + 1) t' v' (by simpa using hj) (by simpa using hv)) h2
    exact ⟨_, ⟨d, ds, avs, rest, rfl, rfl, a1, b1⟩, .cons _ _ _ _ (whole_rel hs (hok 0 t v rfl rfl) a2 a3 a1.length) b2⟩
end
end Go.AM
