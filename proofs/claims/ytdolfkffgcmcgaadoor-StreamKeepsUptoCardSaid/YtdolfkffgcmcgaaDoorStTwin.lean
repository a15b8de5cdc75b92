/-
  A stream and the reference's stream, of one state.
-/
import Derived.Test.YtdolfkffgcmcgaaDoorStRef2
set_option linter.unusedVariables false
set_option linter.unusedSimpArgs false
set_option maxRecDepth 20000
namespace Go.St
open Go.AM

structure Tw (h : Heap) (id id2 e : Nat) (cl : Bool) (t o : Sd) (cl2 : Bool) (t2 o2 : Sd) (tu tc ou oc tu2 tc2 ou2 oc2 : AV) : Prop where
  ok : HeapOk h
  sr : Sr h id e cl t o tu tc ou oc
  rq : Rq h id2 e cl2 t2 o2 tu2 tc2 ou2 oc2
  ne : id ≠ id2
  a : ¬ Foot tu tc ou oc id2
  b : ¬ Foot tu2 tc2 ou2 oc2 id
  d : ∀ i, Foot tu tc ou oc i → ¬ Foot tu2 tc2 ou2 oc2 i

theorem foot_flip' {tu tc ou oc : AV} {i : Nat} (f : Foot ou oc tu tc i) : Foot tu tc ou oc i := by
  rcases f with f | f | f | f
  · exact .inr (.inr (.inl f))
  · exact .inr (.inr (.inr f))
  · exact .inl f
  · exact .inr (.inl f)

section
variable {h h' : Heap} {id id2 e : Nat} {cl cl2 cl' : Bool} {t o t2 o2 t' o' : Sd} {tu tc ou oc tu2 tc2 ou2 oc2 tu' tc' ou' oc' : AV}
theorem Tw.flip (he : e = 0 ∨ e = 1) (k : Tw h id id2 e cl t o cl2 t2 o2 tu tc ou oc tu2 tc2 ou2 oc2) : Tw h id id2 (1 - e) cl o t cl2 o2 t2 ou oc tu tc ou2 oc2 tu2 tc2 :=
  ⟨k.ok, k.sr.flip he, k.rq.flip he, k.ne, fun f => k.a (foot_flip' f), fun f => k.b (foot_flip' f), fun i f g => k.d i (foot_flip' f) (foot_flip' g)⟩
theorem Tw.stepS (k : Tw h id id2 e cl t o cl2 t2 o2 tu tc ou oc tu2 tc2 ou2 oc2) (ho : HeapOk h') (c : Chg (fun i => i = id ∨ Foot tu tc ou oc i) h h') (s : Sr h' id e cl' t' o' tu' tc' ou' oc') (f : ∀ i, Foot tu' tc' ou' oc' i → Foot tu tc ou oc i ∨ h.next ≤ i) :
    Tw h' id id2 e cl' t' o' cl2 t2 o2 tu' tc' ou' oc' tu2 tc2 ou2 oc2 := by
  have i2 := k.ok.lt k.rq.hat
  refine ⟨ho, s, k.rq.chg c (fun x => x.elim (fun x => k.ne x.symm) k.a) (fun i g x => x.elim (fun x => k.b (by rw [← x]; exact g)) fun x => k.d i x g), k.ne, fun x => (f _ x).elim k.a fun x => by omega, k.b, fun i x g => (f i x).elim (fun x => k.d i x g) fun x => by have := k.rq.footLt k.ok g; omega⟩
theorem Tw.stepR (k : Tw h id id2 e cl t o cl2 t2 o2 tu tc ou oc tu2 tc2 ou2 oc2) (ho : HeapOk h') (c : Chg (fun i => i = id2) h h') (s : Rq h' id2 e cl' t' o' tu' tc' ou' oc') (f : ∀ i, Foot tu' tc' ou' oc' i → Foot tu2 tc2 ou2 oc2 i ∨ h.next ≤ i) :
    Tw h' id id2 e cl t o cl' t' o' tu tc ou oc tu' tc' ou' oc' := by
  have i1 := k.ok.lt k.sr.hat
  refine ⟨ho, k.sr.chg c k.ne (fun i g x => k.a (by rw [← x]; exact g)), s, k.ne, k.a, fun x => (f _ x).elim k.b fun x => by omega, fun i x g => (f i g).elim (fun g => k.d i x g) fun g => by have := k.sr.footLt k.ok x; omega⟩
theorem Tw.le (k : Tw h id id2 e cl t o cl2 t2 o2 tu tc ou oc tu2 tc2 ou2 oc2) (ho : HeapOk h') (c : h.le h') : Tw h' id id2 e cl t o cl2 t2 o2 tu tc ou oc tu2 tc2 ou2 oc2 :=
  ⟨ho, k.sr.chg (S := fun _ => False) c.chg (fun x => x) (fun _ _ x => x), k.rq.chg (S := fun _ => False) c.chg (fun x => x) (fun _ _ x => x), k.ne, k.a, k.b, k.d⟩
end

/-- the numbers of a stream -/
structure Bd (K cl : Bool) (t o : Sd) (m : Nat) : Prop where
  c : o.moved = o.read + o.c.length ∧ t.moved = t.read + t.c.length
  u : o.moved + t.u.length ≤ t.sent ∧ t.moved + o.u.length ≤ o.sent
  p : cl = false → t.sent = o.moved + t.u.length ∧ o.sent = t.moved + o.u.length
  m : t.sent + m ≤ 1048576 ∧ o.sent + m ≤ 1048576
  q : K = true → cl = false
theorem Bd.flip {K cl : Bool} {t o : Sd} {m : Nat} (b : Bd K cl t o m) : Bd K cl o t m := ⟨b.c.symm, b.u.symm, fun h => (b.p h).symm, b.m.symm, b.q⟩
theorem Bd.le {K cl : Bool} {t o : Sd} {m m' : Nat} (b : Bd K cl t o m) (h : m' ≤ m) : Bd K cl t o m' := ⟨b.c, b.u, b.p, by have := b.m; omega, b.q⟩
theorem Bd.open_ {cl : Bool} {t o : Sd} {m : Nat} (b : Bd true cl t o m) : Bd false cl t o m := ⟨b.c, b.u, b.p, b.m, fun h => by cases h⟩

theorem refused_any (x : Option Int) {h : Heap} (ho : HeapOk h) : WC env 16 [errV x, errL x] h (fun o => ∃ h', HeapOk h' ∧ h.le h' ∧ o = .ret ⟨.bool true, h', .write⟩) := by
  cases x with
  | none => exact (refused_ok h).mono fun o e => ⟨h, ho, Heap.le_refl h, e⟩
  | some c => exact refused_ref ho
end Go.St
/-
  What a call of both streams comes to.
-/
set_option linter.unusedVariables false
set_option linter.unusedSimpArgs false
set_option maxRecDepth 20000
namespace Go.St
open Go.AM

/-- both, and a third object that is left alone -/
structure Tk (h : Heap) (id id2 i7 : Nat) (X : List AV) (e : Nat) (cl : Bool) (t o : Sd) (cl2 : Bool) (t2 o2 : Sd) (tu tc ou oc tu2 tc2 ou2 oc2 : AV) : Prop where
  tw : Tw h id id2 e cl t o cl2 t2 o2 tu tc ou oc tu2 tc2 ou2 oc2
  a7 : h.at_ i7 0 = some X
  n1 : i7 ≠ id
  n2 : i7 ≠ id2
  f1 : ¬ Foot tu tc ou oc i7
  f2 : ¬ Foot tu2 tc2 ou2 oc2 i7
section
variable {h h' : Heap} {id id2 i7 e : Nat} {X : List AV} {cl cl2 cl' : Bool} {t o t2 o2 t' o' : Sd} {tu tc ou oc tu2 tc2 ou2 oc2 tu' tc' ou' oc' : AV}
theorem Tk.flip (he : e = 0 ∨ e = 1) (k : Tk h id id2 i7 X e cl t o cl2 t2 o2 tu tc ou oc tu2 tc2 ou2 oc2) : Tk h id id2 i7 X (1 - e) cl o t cl2 o2 t2 ou oc tu tc ou2 oc2 tu2 tc2 :=
  ⟨k.tw.flip he, k.a7, k.n1, k.n2, fun f => k.f1 (foot_flip' f), fun f => k.f2 (foot_flip' f)⟩
theorem Tk.stepS (k : Tk h id id2 i7 X e cl t o cl2 t2 o2 tu tc ou oc tu2 tc2 ou2 oc2) (ho : HeapOk h') (c : Chg (fun i => i = id ∨ Foot tu tc ou oc i) h h') (s : Sr h' id e cl' t' o' tu' tc' ou' oc') (f : ∀ i, Foot tu' tc' ou' oc' i → Foot tu tc ou oc i ∨ h.next ≤ i) :
    Tk h' id id2 i7 X e cl' t' o' cl2 t2 o2 tu' tc' ou' oc' tu2 tc2 ou2 oc2 := by
  have i7lt := k.tw.ok.lt k.a7
  exact ⟨k.tw.stepS ho c s f, c.2 _ _ _ (fun x => x.elim k.n1 k.f1) k.a7, k.n1, k.n2, fun x => (f _ x).elim k.f1 fun x => by omega, k.f2⟩
theorem Tk.stepR (k : Tk h id id2 i7 X e cl t o cl2 t2 o2 tu tc ou oc tu2 tc2 ou2 oc2) (ho : HeapOk h') (c : Chg (fun i => i = id2) h h') (s : Rq h' id2 e cl' t' o' tu' tc' ou' oc') (f : ∀ i, Foot tu' tc' ou' oc' i → Foot tu2 tc2 ou2 oc2 i ∨ h.next ≤ i) :
    Tk h' id id2 i7 X e cl t o cl' t' o' tu tc ou oc tu' tc' ou' oc' := by
  have i7lt := k.tw.ok.lt k.a7
  exact ⟨k.tw.stepR ho c s f, c.2 _ _ _ k.n2 k.a7, k.n1, k.n2, k.f1, fun x => (f _ x).elim k.f2 fun x => by omega⟩
theorem Tk.le (k : Tk h id id2 i7 X e cl t o cl2 t2 o2 tu tc ou oc tu2 tc2 ou2 oc2) (ho : HeapOk h') (c : h.le h') : Tk h' id id2 i7 X e cl t o cl2 t2 o2 tu tc ou oc tu2 tc2 ou2 oc2 :=
  ⟨k.tw.le ho c, c.2 _ _ _ k.a7, k.n1, k.n2, k.f1, k.f2⟩
end

def Tx (K : Bool) (h : Heap) (id id2 i7 e m : Nat) (X : List AV) : Prop := ∃ cl t o tu tc ou oc tu2 tc2 ou2 oc2, Tk h id id2 i7 X e cl t o cl t o tu tc ou oc tu2 tc2 ou2 oc2 ∧ Bd K cl t o m
theorem Tx.to {K : Bool} {h : Heap} {id id2 i7 e e' m : Nat} {X : List AV} (he : e = 0 ∨ e = 1) (he' : e' = 0 ∨ e' = 1) (k : Tx K h id id2 i7 e m X) : Tx K h id id2 i7 e' m X := by
  by_cases c : e' = e
  · subst c; exact k
  · have : e' = 1 - e := by omega
    subst this
    obtain ⟨cl, t, o, tu, tc, ou, oc, tu2, tc2, ou2, oc2, k, b⟩ := k
    exact ⟨_, _, _, _, _, _, _, _, _, _, _, k.flip he, b.flip⟩
theorem Tx.le {K : Bool} {h h' : Heap} {id id2 i7 e m : Nat} {X : List AV} (k : Tx K h id id2 i7 e m X) (ho : HeapOk h') (c : h.le h') : Tx K h' id id2 i7 e m X := by
  obtain ⟨cl, t, o, tu, tc, ou, oc, tu2, tc2, ou2, oc2, k, b⟩ := k
  exact ⟨_, _, _, _, _, _, _, _, _, _, _, k.le ho c, b⟩
theorem Tx.a7 {K : Bool} {h : Heap} {id id2 i7 e m : Nat} {X : List AV} (k : Tx K h id id2 i7 e m X) : h.at_ i7 0 = some X := by
  obtain ⟨cl, t, o, tu, tc, ou, oc, tu2, tc2, ou2, oc2, k, b⟩ := k
  exact k.a7
theorem Tx.ok {K : Bool} {h : Heap} {id id2 i7 e m : Nat} {X : List AV} (k : Tx K h id id2 i7 e m X) : HeapOk h := by
  obtain ⟨cl, t, o, tu, tc, ou, oc, tu2, tc2, ou2, oc2, k, b⟩ := k
  exact k.tw.ok
theorem Tx.less {K : Bool} {h : Heap} {id id2 i7 e m m' : Nat} {X : List AV} (k : Tx K h id id2 i7 e m X) (hm : m' ≤ m) : Tx K h id id2 i7 e m' X := by
  obtain ⟨cl, t, o, tu, tc, ou, oc, tu2, tc2, ou2, oc2, k, b⟩ := k
  exact ⟨_, _, _, _, _, _, _, _, _, _, _, k, b.le hm⟩

theorem tw_send {K : Bool} {h : Heap} {id id2 i7 m : Nat} {X : List AV} {e : Int} {v : AV} {b : List UInt8} (k : Tx K h id id2 i7 0 (m + b.length) X) (hb : ∀ h, Bytes h v b) :
    ∃ x h1 h2, WC env 12 [.ptr id 0 0, .int .i64 e, v] h (fun y => y = .ret ⟨errV x, h1, .write⟩) ∧ h1.at_ i7 0 = some X ∧ WC env 32 [.ptr id2 0 0, .int .i64 e, v] h1 (fun y => y = .ret ⟨errL x, h2, .write⟩) ∧ Tx K h2 id id2 i7 0 m X := by
  by_cases c : e = 0 ∨ e = 1
  · obtain ⟨e, he, rfl⟩ : ∃ e' : Nat, (e' = 0 ∨ e' = 1) ∧ e = (e' : Int) := by
      rcases c with rfl | rfl
      · exact ⟨0, .inl rfl, rfl⟩
      · exact ⟨1, .inr rfl, rfl⟩
    obtain ⟨cl, t, o, tu, tc, ou, oc, tu2, tc2, ou2, oc2, k, bd⟩ := k.to (.inl rfl) he
    have vn := own_none hb
    have b1 := bd.u
    have b2 := bd.m
    obtain ⟨x, ev, h1, tu1, ho1, k1, c1, own1, rfl⟩ := send_spec k.tw.ok k.tw.sr he (hb h) (fun i e => by rw [vn] at e; cases e) (by omega) (by omega)
    have kk := k.stepS ho1 (c1.mono fun i x => x.imp (fun x => x) .inl) k1 fun i f => by
      rcases f with f | f | f | f
      · exact (own1 i f).imp .inl (fun x => x)
      · exact .inl (.inr (.inl f))
      · exact .inl (.inr (.inr (.inl f)))
      · exact .inl (.inr (.inr (.inr f)))
    obtain ⟨y, ev2, h2, tu3, ho2, k2, c2, own2, rfl⟩ := rsend_spec ho1 kk.tw.rq he hb (by omega) (by omega) (by omega)
    have kk2 := kk.stepR ho2 c2 k2 own2
    refine ⟨sendE cl t b, h1, h2, ⟨_, ev, rfl⟩, kk.a7, ⟨_, ev2, rfl⟩, Tx.to he (.inl rfl) ⟨_, _, _, _, _, _, _, _, _, _, _, kk2, ?_⟩⟩
    simp only [sendS]
    split
    · exact bd.le (by omega)
    split
    · exact bd.le (by omega)
    refine ⟨bd.c, ⟨?_, b1.2⟩, fun h => ⟨?_, (bd.p h).2⟩, ?_, bd.q⟩
    · simp only [List.length_append]; omega
    · have := (bd.p h).1; simp only [List.length_append]; omega
    · dsimp only; omega
  · have c0 : e ≠ 0 := fun x => c (.inl x)
    have c1 : e ≠ 1 := fun x => c (.inr x)
    obtain ⟨cl, t, o, tu, tc, ou, oc, tu2, tc2, ou2, oc2, kk, bd⟩ := k
    exact ⟨some 2, h, h, send_bad kk.tw.sr.hat c0 c1, kk.a7, rsend_bad c0 c1, _, _, _, _, _, _, _, _, _, _, _, kk, bd.le (by omega)⟩
end Go.St
/-
  What a call of both streams comes to, go on.
-/
set_option linter.unusedVariables false
set_option linter.unusedSimpArgs false
set_option maxRecDepth 20000
namespace Go.St
open Go.AM

theorem end_cases (e : Int) : (∃ e' : Nat, (e' = 0 ∨ e' = 1) ∧ e = (e' : Int)) ∨ (e ≠ 0 ∧ e ≠ 1) := by
  by_cases c0 : e = 0
  · exact .inl ⟨0, .inl rfl, c0⟩
  by_cases c1 : e = 1
  · exact .inl ⟨1, .inr rfl, c1⟩
  exact .inr ⟨c0, c1⟩

theorem tw_move {K : Bool} {h : Heap} {id id2 i7 m : Nat} {X : List AV} {e n : Int} (k : Tx K h id id2 i7 0 m X) :
    ∃ x h1 h2, WC env 13 [.ptr id 0 0, .int .i64 e, .int .i64 n] h (fun y => y = .ret ⟨errV x, h1, .write⟩) ∧ h1.at_ i7 0 = some X ∧ WC env 33 [.ptr id2 0 0, .int .i64 e, .int .i64 n] h1 (fun y => y = .ret ⟨errL x, h2, .write⟩) ∧ Tx K h2 id id2 i7 0 m X := by
  rcases end_cases e with ⟨e, he, rfl⟩ | ⟨c0, c1⟩
  · obtain ⟨cl, t, o, tu, tc, ou, oc, tu2, tc2, ou2, oc2, k, bd⟩ := k.to (.inl rfl) he
    have b0 := bd.c
    have b1 := bd.u
    have b2 := bd.m
    obtain ⟨x, ev, hx⟩ := move_spec (n := n) k.tw.ok k.tw.sr he (by omega) (by omega) (by omega)
    rcases hx with ⟨hM, rfl⟩ | ⟨hM, h1, tu1, oc1, ho1, k1, c1, own1, own2, rfl⟩
    · obtain ⟨y, ev2, hy⟩ := rmovec_spec (n := n) k.tw.ok k.tw.rq he (by omega) (by omega) (by omega)
      rcases hy with ⟨_, rfl⟩ | ⟨hM2, _⟩
      · exact ⟨_, h, h, ⟨_, ev, rfl⟩, k.a7, ⟨_, ev2, rfl⟩, Tx.to he (.inl rfl) ⟨_, _, _, _, _, _, _, _, _, _, _, k, bd⟩⟩
      · exact absurd hM2 hM
    have kk := k.stepS ho1 (c1.mono fun i x => x.imp (fun x => x) fun x => .inr (.inr (.inr x))) k1 fun i f => by
      rcases f with f | f | f | f
      · exact .inr (own1 i f)
      · exact .inl (.inr (.inl f))
      · exact .inl (.inr (.inr (.inl f)))
      · exact (own2 i f).imp (fun x => .inr (.inr (.inr x))) (fun x => x)
    obtain ⟨y, ev2, hy⟩ := rmovec_spec (n := n) ho1 kk.tw.rq he (by omega) (by omega) (by omega)
    rcases hy with ⟨hM2, _⟩ | ⟨_, h2, tu3, oc3, ho2, k2, c2, own3, rfl⟩
    · exact absurd hM hM2
    have kk2 := kk.stepR ho2 c2 k2 own3
    have hn : cl = false ∧ n.toNat ≤ t.u.length := by
      cases cl
      · refine ⟨rfl, ?_⟩
        simp only [moveE] at hM
        split at hM
        · cases hM
        split at hM
        · cases hM
        split at hM
        · cases hM
        split at hM
        · cases hM
        omega
      · simp [moveE] at hM
    refine ⟨none, h1, h2, ⟨_, ev, rfl⟩, kk.a7, ⟨_, ev2, rfl⟩, Tx.to he (.inl rfl) ⟨_, _, _, _, _, _, _, _, _, _, _, kk2, ⟨?_, ?_, fun h => ?_, bd.m, bd.q⟩⟩⟩
    · simp only [List.length_append, List.length_take]; omega
    · simp only [List.length_drop]; omega
    · have := bd.p h; simp only [List.length_drop]; omega
  · obtain ⟨cl, t, o, tu, tc, ou, oc, tu2, tc2, ou2, oc2, kk, bd⟩ := k
    exact ⟨some 2, h, h, move_bad kk.tw.sr.hat c0 c1, kk.a7, rmovec_bad (id := id2) c0 c1, _, _, _, _, _, _, _, _, _, _, _, kk, bd⟩

theorem tw_stall {K : Bool} {h : Heap} {id id2 i7 m : Nat} {X : List AV} {e : Int} {y : Bool} (k : Tx K h id id2 i7 0 m X) :
    ∃ x h1 h2, WC env 18 [.ptr id 0 0, .int .i64 e, .bool y] h (fun z => z = .ret ⟨errV x, h1, .write⟩) ∧ h1.at_ i7 0 = some X ∧ WC env 34 [.ptr id2 0 0, .int .i64 e, .bool y] h1 (fun z => z = .ret ⟨errL x, h2, .write⟩) ∧ Tx K h2 id id2 i7 0 m X := by
  rcases end_cases e with ⟨e, he, rfl⟩ | ⟨c0, c1⟩
  · obtain ⟨cl, t, o, tu, tc, ou, oc, tu2, tc2, ou2, oc2, k, bd⟩ := k.to (.inl rfl) he
    obtain ⟨x, ev, h1, ho1, k1, c1, rfl⟩ := stall_spec (y := y) k.tw.ok k.tw.sr he
    have kk := k.stepS ho1 (c1.mono fun i x => .inl x) k1 fun i f => .inl f
    obtain ⟨z, ev2, h2, ho2, k2, c2, rfl⟩ := rstall_spec (y := y) ho1 kk.tw.rq he
    have kk2 := kk.stepR ho2 c2 k2 fun i f => .inl f
    refine ⟨_, h1, h2, ⟨_, ev, rfl⟩, kk.a7, ⟨_, ev2, rfl⟩, Tx.to he (.inl rfl) ⟨_, _, _, _, _, _, _, _, _, _, _, kk2, ?_⟩⟩
    cases cl with
    | true => exact bd
    | false => exact ⟨bd.c, bd.u, bd.p, bd.m, bd.q⟩
  · obtain ⟨cl, t, o, tu, tc, ou, oc, tu2, tc2, ou2, oc2, kk, bd⟩ := k
    exact ⟨some 2, h, h, stall_bad kk.tw.sr.hat c0 c1, kk.a7, rstall_bad (id := id2) c0 c1, _, _, _, _, _, _, _, _, _, _, _, kk, bd⟩

theorem tw_read {K : Bool} {h : Heap} {id id2 i7 m : Nat} {X : List AV} {e n : Int} (k : Tx K h id id2 i7 0 m X) :
    ∃ x a b bs h1 h2, WC env 14 [.ptr id 0 0, .int .i64 e, .int .i64 n] h (fun y => y = .ret ⟨.tup [a, errV x], h1, .write⟩) ∧ h1.at_ i7 0 = some X ∧ WC env 35 [.ptr id2 0 0, .int .i64 e, .int .i64 n] h1 (fun y => y = .ret ⟨.tup [b, errL x], h2, .write⟩) ∧ Bytes h2 a bs ∧ Bytes h2 b bs ∧ Tx K h2 id id2 i7 0 m X := by
  rcases end_cases e with ⟨e, he, rfl⟩ | ⟨c0, c1⟩
  · obtain ⟨cl, t, o, tu, tc, ou, oc, tu2, tc2, ou2, oc2, k, bd⟩ := k.to (.inl rfl) he
    have b0 := bd.c
    have b1 := bd.u
    have b2 := bd.m
    obtain ⟨x, ev, hx⟩ := read_spec (n := n) k.tw.ok k.tw.sr he (by omega) (by omega)
    rcases hx with ⟨hM, rfl⟩ | ⟨hM, h1, tc1, bv, ho1, k1, c1, own1, ha, xown, xne, rfl⟩
    · obtain ⟨y, ev2, hy⟩ := rread_spec (n := n) k.tw.ok k.tw.rq he (by omega) (by omega)
      rcases hy with ⟨_, rfl⟩ | ⟨hM2, _⟩
      · exact ⟨_, .nils, .nils, [], h, h, ⟨_, ev, rfl⟩, k.a7, ⟨_, ev2, rfl⟩, .nils, .nils, Tx.to he (.inl rfl) ⟨_, _, _, _, _, _, _, _, _, _, _, k, bd⟩⟩
      · exact absurd hM2 hM
    have kk := k.stepS ho1 (c1.mono fun i x => .inl x) k1 fun i f => by
      rcases f with f | f | f | f
      · exact .inl (.inl f)
      · exact .inr (own1 i f)
      · exact .inl (.inr (.inr (.inl f)))
      · exact .inl (.inr (.inr (.inr f)))
    obtain ⟨y, ev2, hy⟩ := rread_spec (n := n) ho1 kk.tw.rq he (by omega) (by omega)
    rcases hy with ⟨hM2, _⟩ | ⟨_, h2, tc3, bv2, ho2, k2, c2, own3, hb2, xown2, rfl⟩
    · exact absurd hM hM2
    have kk2 := kk.stepR ho2 c2 k2 own3
    have i2 := k.tw.ok.lt k.tw.rq.hat
    obtain ⟨N, hN⟩ : ∃ N, N = readN t n := ⟨_, rfl⟩
    have hNl : N ≤ t.c.length := by rw [hN]; simp only [readN]; omega
    have ha2 := ha.toBytes.chg c2 fun i e x => by have := (xown i e).1; omega
    rw [← hN] at ha2 hb2 kk2
    refine ⟨none, bv, bv2, _, h1, h2, ⟨_, ev, rfl⟩, kk.a7, ⟨_, ev2, rfl⟩, ha2, hb2, Tx.to he (.inl rfl) ⟨_, _, _, _, _, _, _, _, _, _, _, kk2, ⟨?_, bd.u, bd.p, bd.m, bd.q⟩⟩⟩
    simp only [List.length_drop]; omega
  · obtain ⟨cl, t, o, tu, tc, ou, oc, tu2, tc2, ou2, oc2, kk, bd⟩ := k
    exact ⟨some 2, .nils, .nils, [], h, h, read_bad kk.tw.sr.hat c0 c1, kk.a7, rread_bad c0 c1, .nils, .nils, _, _, _, _, _, _, _, _, _, _, _, kk, bd⟩
end Go.St
/-
  What a call of both streams comes to: Break, Close, State.
-/
set_option linter.unusedVariables false
set_option linter.unusedSimpArgs false
set_option maxRecDepth 20000
namespace Go.St
open Go.AM

theorem tw_break {h : Heap} {id id2 i7 m : Nat} {X : List AV} (k : Tx false h id id2 i7 0 m X) :
    ∃ x h1 h2, WC env 19 [.ptr id 0 0] h (fun y => y = .ret ⟨errV x, h1, .write⟩) ∧ h1.at_ i7 0 = some X ∧ WC env 36 [.ptr id2 0 0] h1 (fun y => y = .ret ⟨errL x, h2, .write⟩) ∧ Tx false h2 id id2 i7 0 m X := by
  obtain ⟨cl, t, o, tu, tc, ou, oc, tu2, tc2, ou2, oc2, k, bd⟩ := k
  have b0 := bd.c
  have b1 := bd.u
  obtain ⟨x, ev, hx⟩ := break_spec k.tw.ok k.tw.sr
  rcases hx with ⟨hc, rfl⟩ | ⟨hc, h1, ho1, k1, c1, rfl⟩
  · obtain ⟨y, ev2, hy⟩ := rbreak_spec k.tw.ok k.tw.rq
    rcases hy with ⟨_, rfl⟩ | ⟨hc2, _⟩
    · exact ⟨some 100, h, h, ⟨_, ev, rfl⟩, k.a7, ⟨_, ev2, rfl⟩, _, _, _, _, _, _, _, _, _, _, _, k, bd⟩
    · rw [hc] at hc2; cases hc2
  subst hc
  have kk := k.stepS ho1 (c1.mono fun i x => .inl x) k1 fun i f => by
    rcases f with f | f | f | f
    · cases f
    · exact .inl (.inr (.inl f))
    · cases f
    · exact .inl (.inr (.inr (.inr f)))
  obtain ⟨y, ev2, hy⟩ := rbreak_spec ho1 kk.tw.rq
  rcases hy with ⟨hc2, _⟩ | ⟨_, h2, ho2, k2, c2, rfl⟩
  · cases hc2
  have kk2 := kk.stepR ho2 c2 k2 fun i f => by
    rcases f with f | f | f | f
    · cases f
    · exact .inl (.inr (.inl f))
    · cases f
    · exact .inl (.inr (.inr (.inr f)))
  exact ⟨none, h1, h2, ⟨_, ev, rfl⟩, kk.a7, ⟨_, ev2, rfl⟩, _, _, _, _, _, _, _, _, _, _, _, kk2, ⟨bd.c, ⟨by simp; omega, by simp; omega⟩, (fun h => by cases h), bd.m, fun h => by cases h⟩⟩

theorem tw_close {h : Heap} {id id2 i7 m : Nat} {X : List AV} {e : Int} (k : Tx false h id id2 i7 0 m X) :
    ∃ x h1 h2, WC env 20 [.ptr id 0 0, .int .i64 e] h (fun y => y = .ret ⟨errV x, h1, .write⟩) ∧ h1.at_ i7 0 = some X ∧ WC env 37 [.ptr id2 0 0, .int .i64 e] h1 (fun y => y = .ret ⟨errL x, h2, .write⟩) ∧ Tx false h2 id id2 i7 0 m X := by
  rcases end_cases e with ⟨e, he, rfl⟩ | ⟨c0, c1⟩
  · obtain ⟨cl, t, o, tu, tc, ou, oc, tu2, tc2, ou2, oc2, k, bd⟩ := k.to (.inl rfl) he
    have b0 := bd.c
    have b1 := bd.u
    have b2 := bd.m
    obtain ⟨x, ev, hx⟩ := close_spec k.tw.ok k.tw.sr he (by omega) (by omega)
    rcases hx with ⟨hc, rfl⟩ | ⟨hc, h1, oc1, ho1, k1, c1, own1, rfl⟩
    · obtain ⟨y, ev2, hy⟩ := rclose_spec k.tw.ok k.tw.rq he (by omega) (by omega)
      rcases hy with ⟨_, rfl⟩ | ⟨hc2, _⟩
      · exact ⟨some 100, h, h, ⟨_, ev, rfl⟩, k.a7, ⟨_, ev2, rfl⟩, Tx.to he (.inl rfl) ⟨_, _, _, _, _, _, _, _, _, _, _, k, bd⟩⟩
      · rw [hc] at hc2; cases hc2
    subst hc
    have kk := k.stepS ho1 (c1.mono fun i x => x.imp (fun x => x) fun x => .inr (.inr (.inr x))) k1 fun i f => by
      rcases f with f | f | f | f
      · cases f
      · exact .inl (.inr (.inl f))
      · cases f
      · exact (own1 i f).imp (fun x => .inr (.inr (.inr x))) (fun x => x)
    obtain ⟨y, ev2, hy⟩ := rclose_spec ho1 kk.tw.rq he (by omega) (by omega)
    rcases hy with ⟨hc2, _⟩ | ⟨_, h2, oc3, ho2, k2, c2, own3, rfl⟩
    · cases hc2
    have kk2 := kk.stepR ho2 c2 k2 own3
    refine ⟨none, h1, h2, ⟨_, ev, rfl⟩, kk.a7, ⟨_, ev2, rfl⟩, Tx.to he (.inl rfl) ⟨_, _, _, _, _, _, _, _, _, _, _, kk2, ⟨?_, ?_, (fun h => by cases h), bd.m, fun h => by cases h⟩⟩⟩
    · simp only [List.length_append]; omega
    · simp only [List.length_nil]; omega
  · obtain ⟨cl, t, o, tu, tc, ou, oc, tu2, tc2, ou2, oc2, kk, bd⟩ := k
    exact ⟨some 2, h, h, close_bad kk.tw.sr.hat c0 c1, kk.a7, rclose_bad c0 c1, _, _, _, _, _, _, _, _, _, _, _, kk, bd⟩

theorem tw_state {K : Bool} {h : Heap} {id id2 i7 m : Nat} {X : List AV} {e : Int} (k : Tx K h id id2 i7 0 m X) :
    ∃ x p h1 h2, p.length = 7 ∧ AV.noRefs p = true ∧ WC env 15 [.ptr id 0 0, .int .i64 e] h (fun y => y = .ret ⟨.tup [.agg p, errV x], h1, .write⟩) ∧ WC env 38 [.ptr id2 0 0, .int .i64 e] h1 (fun y => y = .ret ⟨.tup [.agg p, errL x], h2, .write⟩) ∧ h.le h1 ∧ h1.le h2 ∧ Tx K h2 id id2 i7 0 m X ∧
      ∃ a0 a1 a2 a3 a4 b0 b1, p = [.int .i64 a0, .int .i64 a1, .int .i64 a2, .int .i64 a3, .int .i64 a4, .bool b0, .bool b1] := by
  rcases end_cases e with ⟨e, he, rfl⟩ | ⟨c0, c1⟩
  · obtain ⟨cl, t, o, tu, tc, ou, oc, tu2, tc2, ou2, oc2, k, bd⟩ := k.to (.inl rfl) he
    obtain ⟨x, ev, h1, ho1, hl1, rfl⟩ := state_spec k.tw.ok k.tw.sr he
    have k1 := k.le ho1 hl1
    obtain ⟨y, ev2, h2, ho2, hl2, rfl⟩ := rstate_spec ho1 k1.tw.rq he
    exact ⟨none, pipe cl t, h1, h2, rfl, rfl, ⟨_, ev, rfl⟩, ⟨_, ev2, rfl⟩, hl1, hl2, Tx.to he (.inl rfl) ⟨_, _, _, _, _, _, _, _, _, _, _, k1.le ho2 hl2, bd⟩, _, _, _, _, _, _, _, rfl⟩
  · obtain ⟨cl, t, o, tu, tc, ou, oc, tu2, tc2, ou2, oc2, k, bd⟩ := k
    obtain ⟨x, ev, h1, ho1, hl1, rfl⟩ := state_bad k.tw.ok k.tw.sr.hat c0 c1
    have k1 := k.le ho1 hl1
    obtain ⟨y, ev2, h2, ho2, hl2, rfl⟩ := rstate_bad (v := .ptr id2 0 0) ho1 c0 c1
    exact ⟨some 2, pipe0, h1, h2, rfl, rfl, ⟨_, ev, rfl⟩, ⟨_, ev2, rfl⟩, hl1, hl2, ⟨_, _, _, _, _, _, _, _, _, _, _, k1.le ho2 hl2, bd⟩, _, _, _, _, _, _, _, rfl⟩
end Go.St
