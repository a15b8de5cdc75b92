/-
  StreamOrders: what is in memory.
-/
import Derived.Test.YtdolfkffgcmcgaaDoorStOps
set_option linter.unusedVariables false
set_option linter.unusedSimpArgs false
set_option maxRecDepth 20000
namespace Go.St
open Go.AM

def P2 (e : Nat) (v v' : AV) : List AV := if e = 0 then [v, v'] else [v', v]
theorem P2_flip {e : Nat} (he : e = 0 ∨ e = 1) (v v' : AV) : P2 (1 - e) v' v = P2 e v v' := by rcases he with rfl | rfl <;> rfl
section
variable {h : Heap} {i e : Nat} {v v' : AV}
theorem p2_this (he : e = 0 ∨ e = 1) (e1 : h.at_ i 0 = some (P2 e v v')) : aLoad h false 1 (.ptr i 0 e) = some ⟨v, h, .read⟩ := by
  rcases he with rfl | rfl <;> (simp only [aLoad, e1, Option.bind_some]; rfl)
theorem p2_other (he : e = 0 ∨ e = 1) (e1 : h.at_ i 0 = some (P2 e v v')) : aLoad h false 1 (.ptr i 0 (1 - e)) = some ⟨v', h, .read⟩ := by
  rcases he with rfl | rfl <;> (simp only [aLoad, e1, Option.bind_some]; rfl)
theorem p2_store (he : e = 0 ∨ e = 1) (e1 : h.at_ i 0 = some (P2 e v v')) {w : AV} (hw : w.row = some [w]) : aStore h 1 (.ptr i 0 e) w = some ⟨.undef, h.upd i 0 (P2 e w v'), .write⟩ := by
  rcases he with rfl | rfl <;> (simp only [aStore, e1, Option.bind_some, hw]; rfl)
end

/-- a's own object is none of the others -/
def Ap (i4 i5 id i7 : Nat) (tu tc ou oc a b c d : AV) : Prop := ∀ i, a.own = some i → i ≠ id ∧ i ≠ i4 ∧ i ≠ i5 ∧ i ≠ i7 ∧ ¬ Foot tu tc ou oc i ∧ b.own ≠ some i ∧ c.own ≠ some i ∧ d.own ≠ some i
theorem foot_flip {tu tc ou oc : AV} {i : Nat} (f : Foot ou oc tu tc i) : Foot tu tc ou oc i := by
  rcases f with f | f | f | f
  · exact .inr (.inr (.inl f))
  · exact .inr (.inr (.inr f))
  · exact .inl f
  · exact .inr (.inl f)

/-- a stream, and beside it two pairs of slices; i7 holds the call -/
structure Om (h : Heap) (id i4 i5 i7 e : Nat) (cl : Bool) (t o : Sd) (tu tc ou oc s s' r r' : AV) (S S' R R' : List UInt8) (X : List AV) : Prop where
  ok : HeapOk h
  sr : Sr h id e cl t o tu tc ou oc
  a4 : h.at_ i4 0 = some (P2 e s s')
  a5 : h.at_ i5 0 = some (P2 e r r')
  a7 : h.at_ i7 0 = some X
  hs : Acc h 1 s (S.map byteAV)
  hs' : Acc h 1 s' (S'.map byteAV)
  hr : Acc h 1 r (R.map byteAV)
  hr' : Acc h 1 r' (R'.map byteAV)
  ne : i4 ≠ i5 ∧ i4 ≠ id ∧ i5 ≠ id ∧ i7 ≠ id ∧ i7 ≠ i4 ∧ i7 ≠ i5
  nf : ¬ Foot tu tc ou oc i4 ∧ ¬ Foot tu tc ou oc i5 ∧ ¬ Foot tu tc ou oc i7
  os : Ap i4 i5 id i7 tu tc ou oc s s' r r'
  os' : Ap i4 i5 id i7 tu tc ou oc s' s r r'
  or_ : Ap i4 i5 id i7 tu tc ou oc r s s' r'
  or' : Ap i4 i5 id i7 tu tc ou oc r' s s' r

section
variable {h : Heap} {id i4 i5 i7 e : Nat} {cl : Bool} {t o : Sd} {tu tc ou oc s s' r r' : AV} {S S' R R' : List UInt8} {X : List AV}

theorem Om.flip (he : e = 0 ∨ e = 1) (k : Om h id i4 i5 i7 e cl t o tu tc ou oc s s' r r' S S' R R' X) : Om h id i4 i5 i7 (1 - e) cl o t ou oc tu tc s' s r' r S' S R' R X := by
  have fl : ∀ {a b c d b' c' d' : AV}, Ap i4 i5 id i7 tu tc ou oc a b c d → (∀ i, b.own ≠ some i ∧ c.own ≠ some i ∧ d.own ≠ some i → b'.own ≠ some i ∧ c'.own ≠ some i ∧ d'.own ≠ some i) → Ap i4 i5 id i7 ou oc tu tc a b' c' d' := fun k g i e => by
    obtain ⟨g1, g2, g3, g4, g5, g6⟩ := k i e
    exact ⟨g1, g2, g3, g4, fun f => g5 (foot_flip f), g i g6⟩
  exact ⟨k.ok, k.sr.flip he, by rw [P2_flip he]; exact k.a4, by rw [P2_flip he]; exact k.a5, k.a7, k.hs', k.hs, k.hr', k.hr, k.ne, ⟨fun f => k.nf.1 (foot_flip f), fun f => k.nf.2.1 (foot_flip f), fun f => k.nf.2.2 (foot_flip f)⟩,
    fl k.os' fun i g => ⟨g.1, g.2.2, g.2.1⟩, fl k.os fun i g => ⟨g.1, g.2.2, g.2.1⟩, fl k.or' fun i g => ⟨g.2.1, g.1, g.2.2⟩, fl k.or_ fun i g => ⟨g.2.1, g.1, g.2.2⟩⟩

theorem Om.swap (k : Om h id i4 i5 i7 e cl t o tu tc ou oc s s' r r' S S' R R' X) : Om h id i5 i4 i7 e cl t o tu tc ou oc r r' s s' R R' S S' X := by
  have fl : ∀ {a b c d b' c' d' : AV}, Ap i4 i5 id i7 tu tc ou oc a b c d → (∀ i, b.own ≠ some i ∧ c.own ≠ some i ∧ d.own ≠ some i → b'.own ≠ some i ∧ c'.own ≠ some i ∧ d'.own ≠ some i) → Ap i5 i4 id i7 tu tc ou oc a b' c' d' := fun k g i e => by
    obtain ⟨g1, g2, g3, g4, g5, g6⟩ := k i e
    exact ⟨g1, g3, g2, g4, g5, g i g6⟩
  exact ⟨k.ok, k.sr, k.a5, k.a4, k.a7, k.hr, k.hr', k.hs, k.hs', ⟨k.ne.1.symm, k.ne.2.2.1, k.ne.2.1, k.ne.2.2.2.1, k.ne.2.2.2.2.2, k.ne.2.2.2.2.1⟩, ⟨k.nf.2.1, k.nf.1, k.nf.2.2⟩,
    fl k.or_ fun i g => ⟨g.2.2, g.1, g.2.1⟩, fl k.or' fun i g => ⟨g.2.2, g.1, g.2.1⟩, fl k.os fun i g => ⟨g.2.1, g.2.2, g.1⟩, fl k.os' fun i g => ⟨g.2.1, g.2.2, g.1⟩⟩

/-- the stream alone has changed -/
theorem Om.stream {h' : Heap} {cl2 : Bool} {t2 o2 : Sd} {tu2 tc2 ou2 oc2 : AV} (k : Om h id i4 i5 i7 e cl t o tu tc ou oc s s' r r' S S' R R' X) (ho : HeapOk h') (c : Chg (fun i => i = id ∨ Foot tu tc ou oc i) h h') (k2 : Sr h' id e cl2 t2 o2 tu2 tc2 ou2 oc2)
    (f : ∀ i, Foot tu2 tc2 ou2 oc2 i → Foot tu tc ou oc i ∨ h.next ≤ i) : Om h' id i4 i5 i7 e cl2 t2 o2 tu2 tc2 ou2 oc2 s s' r r' S S' R R' X := by
  obtain ⟨n1, n2, n3, n4, n5, n6⟩ := k.ne
  obtain ⟨f4, f5, f7⟩ := k.nf
  have at_ : ∀ {i : Nat} {cs : List AV}, h.at_ i 0 = some cs → i ≠ id → ¬ Foot tu tc ou oc i → h'.at_ i 0 = some cs ∧ ¬ Foot tu2 tc2 ou2 oc2 i := fun {i cs} e ni nf => ⟨c.2 _ _ _ (fun x => x.elim ni nf) e, fun f2 => (f _ f2).elim nf fun x => by have := k.ok.lt e; omega⟩
  have acc : ∀ {a b c2 d : AV} {B : List UInt8}, Acc h 1 a (B.map byteAV) → Ap i4 i5 id i7 tu tc ou oc a b c2 d → Acc h' 1 a (B.map byteAV) ∧ Ap i4 i5 id i7 tu2 tc2 ou2 oc2 a b c2 d := fun {a b c2 d B} ha hp =>
    ⟨ha.chg c fun i e x => x.elim (hp i e).1 (hp i e).2.2.2.2.1, fun i e => by
      obtain ⟨g1, g2, g3, g4, g5, g6⟩ := hp i e
      exact ⟨g1, g2, g3, g4, fun f2 => (f _ f2).elim g5 fun x => by have := ha.ownLt k.ok e; omega, g6⟩⟩
  have A4 := at_ k.a4 n2 f4
  have A5 := at_ k.a5 n3 f5
  have A7 := at_ k.a7 n4 f7
  have B1 := acc k.hs k.os
  have B2 := acc k.hs' k.os'
  have B3 := acc k.hr k.or_
  have B4 := acc k.hr' k.or'
  exact ⟨ho, k2, A4.1, A5.1, A7.1, B1.1, B2.1, B3.1, B4.1, k.ne, ⟨A4.2, A5.2, A7.2⟩, B1.2, B2.2, B3.2, B4.2⟩

/-- the first pair's slice of this end grows -/
theorem Om.grow {v : AV} {b : List UInt8} (k : Om h id i4 i5 i7 e cl t o tu tc ou oc s s' r r' S S' R R' X) (he : e = 0 ∨ e = 1) (hv : Bytes h v b) (hsm : S.length + b.length ≤ 70368744177664) :
    ∃ s2 h1 c, aAppend h 1 1 s v = some ⟨s2, h1, c⟩ ∧ aStore h1 1 (.ptr i4 0 e) s2 = some ⟨.undef, h1.upd i4 0 (P2 e s2 s'), .write⟩ ∧ h1.at_ i7 0 = some X ∧
      Om (h1.upd i4 0 (P2 e s2 s')) id i4 i5 i7 e cl t o tu tc ou oc s2 s' r r' (S ++ b) S' R R' X := by
  obtain ⟨n1, n2, n3, n4, n5, n6⟩ := k.ne
  obtain ⟨cl', hcn, hcc⟩ := hv.cells
  obtain ⟨s2, h1, c', g1, g2, g3, g4, g5, g6⟩ := k.hs.append k.ok (bt := 1) (by omega) (acc_len k.hs) hv.len hcc (by simp) (by omega) (by omega)
  rw [← List.map_append] at g2
  have c0 : Chg (fun i => s.own = some i) h h1 := g3.chg fun i e => e
  have a4' : h1.at_ i4 0 = some (P2 e s s') := c0.2 _ _ _ (fun x => (k.os _ x).2.1 rfl) k.a4
  have a7' : h1.at_ i7 0 = some X := c0.2 _ _ _ (fun x => (k.os _ x).2.2.2.1 rfl) k.a7
  obtain ⟨h2, eh2⟩ : ∃ h2, h2 = h1.upd i4 0 (P2 e s2 s') := ⟨_, rfl⟩
  have ho2 : HeapOk h2 := by rw [eh2]; exact g4.upd (at_look.1 a4') _ _
  have c12 : Chg (fun i => i = i4) h1 h2 := by rw [eh2]; exact upd_chg rfl
  have c02 : Chg (fun i => i = i4 ∨ s.own = some i) h h2 := (c0.mono fun i e => .inr e).trans (c12.mono fun i e => .inl e)
  have i4lt := k.ok.lt k.a4
  have s2o : ∀ i, s2.own = some i → s.own = some i ∨ h.next ≤ i := g5
  have s2i : s2.own ≠ some i4 := fun e => (s2o _ e).elim (fun x => (k.os _ x).2.1 rfl) fun x => by omega
  refine ⟨s2, h1, c', g1, p2_store he a4' g2.row, a7', ?_⟩
  rw [← eh2]
  have mine : ∀ {a b c d : AV} {B : List UInt8}, Acc h 1 a (B.map byteAV) → Ap i4 i5 id i7 tu tc ou oc a b c d → s.own = b.own → Acc h2 1 a (B.map byteAV) ∧ Ap i4 i5 id i7 tu tc ou oc a s2 c d := fun {a b c d B} ha hp eb =>
    ⟨ha.chg c02 fun i e x => x.elim (fun x => (hp i e).2.1 x) fun x => (hp i e).2.2.2.2.2.1 (by rw [← eb]; exact x), fun i e => by
      obtain ⟨q1, q2, q3, q4, q5, q6, q7⟩ := hp i e
      exact ⟨q1, q2, q3, q4, q5, fun x => (s2o _ x).elim (fun x => q6 (by rw [← eb]; exact x)) fun x => by have := ha.ownLt k.ok e; omega, q7⟩⟩
  have B2 := mine k.hs' k.os' rfl
  have B3 := mine k.hr k.or_ rfl
  have B4 := mine k.hr' k.or' rfl
  have i5lt := k.ok.lt k.a5
  have i7lt := k.ok.lt k.a7
  have idlt := k.ok.lt k.sr.hat
  refine ⟨ho2, k.sr.chg c02 (fun x => x.elim (fun x => n2 x.symm) fun x => (k.os _ x).1 rfl) fun i f x => x.elim (fun x => k.nf.1 (by rw [← x]; exact f)) fun x => (k.os _ x).2.2.2.2.1 f, by rw [eh2]; exact at_upd, c02.2 _ _ _ (fun x => x.elim (fun x => n1 x.symm) fun x => (k.os _ x).2.2.1 rfl) k.a5,
    c02.2 _ _ _ (fun x => x.elim (fun x => n5 x) fun x => (k.os _ x).2.2.2.1 rfl) k.a7, g2.chg c12 (fun i e x => s2i (by rw [e, x])), B2.1, B3.1, B4.1, k.ne, k.nf, fun i e => ?_, B2.2, B3.2, B4.2⟩
  rcases s2o i e with e | e
  · exact k.os i e
  · exact ⟨by omega, by omega, by omega, by omega, fun f => by have := k.sr.footLt k.ok f; omega, fun x => by have := k.hs'.ownLt k.ok x; omega, fun x => by have := k.hr.ownLt k.ok x; omega, fun x => by have := k.hr'.ownLt k.ok x; omega⟩
end
end Go.St
