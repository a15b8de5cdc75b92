/-
  StreamOrders: what the calls come to.
-/
import Derived.Test.YtdolfkffgcmcgaaDoorStOrd
set_option linter.unusedVariables false
set_option linter.unusedSimpArgs false
set_option maxRecDepth 20000
namespace Go.St
open Go.AM

/-- what an end has read and what is on its way is what the other one has sent; m bytes are still to come -/
structure Lw (cl : Bool) (t o : Sd) (S S' R R' : List UInt8) (m : Nat) : Prop where
  x : ∃ x y, R' ++ (o.c ++ x) = S ∧ R ++ (t.c ++ y) = S' ∧ (cl = false → x = t.u ∧ y = o.u)
  u : t.u.length ≤ S.length ∧ o.u.length ≤ S'.length
  sent : t.sent ≤ S.length ∧ o.sent ≤ S'.length
  moved : o.moved ≤ R'.length + o.c.length ∧ t.moved ≤ R.length + t.c.length
  read : t.read ≤ R.length ∧ o.read ≤ R'.length
  m : S.length + m ≤ 1048576 ∧ S'.length + m ≤ 1048576
theorem Lw.flip {cl : Bool} {t o : Sd} {S S' R R' : List UInt8} {m : Nat} (l : Lw cl t o S S' R R' m) : Lw cl o t S' S R' R m := by
  obtain ⟨⟨x, y, h1, h2, h3⟩, a, b, c, d, e⟩ := l
  exact ⟨⟨y, x, h2, h1, fun h => (h3 h).symm⟩, a.symm, b.symm, c.symm, d.symm, e.symm⟩
theorem Lw.le {cl : Bool} {t o : Sd} {S S' R R' : List UInt8} {m m' : Nat} (l : Lw cl t o S S' R R' m) (hm : m' ≤ m) : Lw cl t o S S' R R' m' :=
  ⟨l.x, l.u, l.sent, l.moved, l.read, by have := l.m; omega⟩
theorem Lw.lens {cl : Bool} {t o : Sd} {S S' R R' : List UInt8} {m : Nat} (l : Lw cl t o S S' R R' m) : R'.length + o.c.length ≤ S.length ∧ R.length + t.c.length ≤ S'.length := by
  obtain ⟨x, y, h1, h2, _⟩ := l.x
  rw [← h1, ← h2]
  simp only [List.length_append]
  omega

def Ore (h : Heap) (id i4 i5 i7 e m : Nat) (X : List AV) : Prop :=
  ∃ cl t o tu tc ou oc s s' r r' S S' R R', Om h id i4 i5 i7 e cl t o tu tc ou oc s s' r r' S S' R R' X ∧ Lw cl t o S S' R R' m
theorem Ore.flip {h : Heap} {id i4 i5 i7 e m : Nat} {X : List AV} (he : e = 0 ∨ e = 1) (k : Ore h id i4 i5 i7 e m X) : Ore h id i4 i5 i7 (1 - e) m X := by
  obtain ⟨cl, t, o, tu, tc, ou, oc, s, s', r, r', S, S', R, R', k, l⟩ := k
  exact ⟨_, _, _, _, _, _, _, _, _, _, _, _, _, _, _, k.flip he, l.flip⟩
theorem Ore.to {h : Heap} {id i4 i5 i7 e e' m : Nat} {X : List AV} (he : e = 0 ∨ e = 1) (he' : e' = 0 ∨ e' = 1) (k : Ore h id i4 i5 i7 e m X) : Ore h id i4 i5 i7 e' m X := by
  by_cases c : e' = e
  · subst c; exact k
  · have : e' = 1 - e := by omega
    subst this
    exact k.flip he

section
variable {h : Heap} {id i4 i5 i7 e m : Nat} {cl : Bool} {t o : Sd} {tu tc ou oc s s' r r' : AV} {S S' R R' : List UInt8} {X : List AV}

theorem ord_send {v : AV} {b : List UInt8} (k : Om h id i4 i5 i7 e cl t o tu tc ou oc s s' r r' S S' R R' X) (l : Lw cl t o S S' R R' (m + b.length)) (he : e = 0 ∨ e = 1) (hb : ∀ h, Bytes h v b) :
    (∃ c h1, WC env 12 [.ptr id 0 0, .int .i64 e, v] h (fun x => x = .ret ⟨refV c, h1, .write⟩) ∧ Ore h1 id i4 i5 i7 e m X) ∨
    (∃ s s' s2 h1 h2 h3 c, WC env 12 [.ptr id 0 0, .int .i64 e, v] h (fun x => x = .ret ⟨.nili, h1, .write⟩) ∧ h1.at_ i4 0 = some (P2 e s s') ∧ h1.at_ i7 0 = some X ∧ aAppend h1 1 1 s v = some ⟨s2, h2, c⟩ ∧ h2.at_ i7 0 = some X ∧
      aStore h2 1 (.ptr i4 0 e) s2 = some ⟨.undef, h3, .write⟩ ∧ Ore h3 id i4 i5 i7 e m X) := by
  have hm := l.m
  have hu := l.u
  have hs := l.sent
  have vn := own_none hb
  obtain ⟨x, ev, h1, tu1, ho1, k1, c1, own1, rfl⟩ := send_spec k.ok k.sr he (hb h) (fun i e => by rw [vn] at e; cases e) (by omega) (by omega)
  have km := k.stream ho1 (c1.mono fun i x => x.imp (fun x => x) .inl) k1 fun i f => by
    rcases f with f | f | f | f
    · exact (own1 i f).imp .inl (fun x => x)
    · exact .inl (.inr (.inl f))
    · exact .inl (.inr (.inr (.inl f)))
    · exact .inl (.inr (.inr (.inr f)))
  cases cl with
  | true => exact .inl ⟨100, h1, ⟨_, ev, rfl⟩, _, _, _, _, _, _, _, _, _, _, _, _, _, _, _, km, l.le (by omega)⟩
  | false =>
    obtain ⟨x, y, x1, x2, x3⟩ := l.x
    obtain ⟨rfl, rfl⟩ := x3 rfl
    by_cases c : 4194304 < t.u.length + b.length
    · omega
    · have hE : sendE false t b = none := by simp only [sendE]; rw [if_neg (by simp), if_neg c]
      have hS : sendS false t b = { t with u := t.u ++ b, sent := t.sent + b.length } := by simp only [sendS]; rw [if_neg (by simp), if_neg c]
      rw [hE] at ev
      rw [hS] at km
      obtain ⟨s2, h2, cc, g1, g2, g3, g4⟩ := km.grow he (hb h1) (by omega)
      refine .inr ⟨s, s', s2, h1, h2, _, cc, ⟨_, ev, rfl⟩, km.a4, km.a7, g1, g3, g2, _, _, _, _, _, _, _, _, _, _, _, _, _, _, _, g4, ⟨⟨t.u ++ b, o.u, ?_, x2, fun _ => ⟨rfl, rfl⟩⟩, ?_, ?_, l.moved, l.read, ?_⟩⟩
      · rw [← x1]; simp only [List.append_assoc]
      · simp only [List.length_append]; omega
      · simp only [List.length_append]; omega
      · simp only [List.length_append]; omega

theorem ord_move {n : Int} (k : Om h id i4 i5 i7 e cl t o tu tc ou oc s s' r r' S S' R R' X) (l : Lw cl t o S S' R R' m) (he : e = 0 ∨ e = 1) :
    ∃ v h', WC env 13 [.ptr id 0 0, .int .i64 e, .int .i64 n] h (fun x => x = .ret ⟨v, h', .write⟩) ∧ Ore h' id i4 i5 i7 e m X := by
  have hm := l.m
  have hu := l.u
  have hs := l.moved
  have hl := l.lens
  obtain ⟨x, ev, hx⟩ := move_spec (n := n) k.ok k.sr he (by omega) (by omega) (by omega)
  rcases hx with ⟨_, rfl⟩ | ⟨hM, h1, tu1, oc1, ho1, k1, c1, own1, own2, rfl⟩
  · exact ⟨_, _, ⟨_, ev, rfl⟩, _, _, _, _, _, _, _, _, _, _, _, _, _, _, _, k, l⟩
  have km := k.stream ho1 (c1.mono fun i x => x.imp (fun x => x) fun x => .inr (.inr (.inr x))) k1 fun i f => by
    rcases f with f | f | f | f
    · exact .inr (own1 i f)
    · exact .inl (.inr (.inl f))
    · exact .inl (.inr (.inr (.inl f)))
    · exact (own2 i f).imp (fun x => .inr (.inr (.inr x))) (fun x => x)
  have hc : cl = false ∧ n.toNat ≤ t.u.length := by
    cases cl
    · refine ⟨rfl, ?_⟩
      simp only [moveE] at hM
      split at hM
      · cases hM
      split at hM
      · cases hM
      split at hM
      · cases hM
      split at hM
      · cases hM
      omega
    · simp [moveE] at hM
  obtain ⟨rfl, hn⟩ := hc
  obtain ⟨x, y, x1, x2, x3⟩ := l.x
  obtain ⟨rfl, rfl⟩ := x3 rfl
  refine ⟨_, _, ⟨_, ev, rfl⟩, _, _, _, _, _, _, _, _, _, _, _, _, _, _, _, km, ⟨⟨t.u.drop n.toNat, o.u, ?_, x2, fun _ => ⟨rfl, rfl⟩⟩, ?_, l.sent, ?_, l.read, l.m⟩⟩
  · rw [← x1]; simp only [List.append_assoc, List.take_append_drop]
  · simp only [List.length_drop]; omega
  · simp only [List.length_append, List.length_take]; omega

theorem ord_stall {y : Bool} (k : Om h id i4 i5 i7 e cl t o tu tc ou oc s s' r r' S S' R R' X) (l : Lw cl t o S S' R R' m) (he : e = 0 ∨ e = 1) :
    ∃ v h', WC env 18 [.ptr id 0 0, .int .i64 e, .bool y] h (fun x => x = .ret ⟨v, h', .write⟩) ∧ Ore h' id i4 i5 i7 e m X := by
  obtain ⟨x, ev, h1, ho1, k1, c1, rfl⟩ := stall_spec (y := y) k.ok k.sr he
  have km := k.stream ho1 (c1.mono fun i x => .inl x) k1 fun i f => .inl f
  refine ⟨_, _, ⟨_, ev, rfl⟩, _, _, _, _, _, _, _, _, _, _, _, _, _, _, _, km, ?_⟩
  cases cl with
  | true => exact l
  | false => exact ⟨l.x, l.u, l.sent, l.moved, l.read, l.m⟩

theorem ord_read {n : Int} (k : Om h id i4 i5 i7 e cl t o tu tc ou oc s s' r r' S S' R R' X) (l : Lw cl t o S S' R R' m) (he : e = 0 ∨ e = 1) :
    ∃ x y r r' r2 h1 h2 h3 c, WC env 14 [.ptr id 0 0, .int .i64 e, .int .i64 n] h (fun z => z = .ret ⟨.tup [x, y], h1, .write⟩) ∧ h1.at_ i5 0 = some (P2 e r r') ∧ h1.at_ i7 0 = some X ∧ aAppend h1 1 1 r x = some ⟨r2, h2, c⟩ ∧ h2.at_ i7 0 = some X ∧
      aStore h2 1 (.ptr i5 0 e) r2 = some ⟨.undef, h3, .write⟩ ∧ Ore h3 id i4 i5 i7 e m X := by
  have hm := l.m
  have hs := l.read
  have hl := l.lens
  obtain ⟨x, ev, hx⟩ := read_spec (n := n) k.ok k.sr he (by omega) (by omega)
  rcases hx with ⟨_, rfl⟩ | ⟨_, h1, tc1, bv, ho1, k1, c1, own1, ha, xown, xne, rfl⟩
  · obtain ⟨r2, h2, cc, g1, g2, g3, g4⟩ := k.swap.grow he (v := .nils) (b := []) .nils (by simp; omega)
    rw [List.append_nil] at g4
    exact ⟨_, _, r, r', r2, h, h2, _, cc, ⟨_, ev, rfl⟩, k.a5, k.a7, g1, g3, g2, _, _, _, _, _, _, _, _, _, _, _, _, _, _, _, g4.swap, l⟩
  have km := k.stream ho1 (c1.mono fun i x => .inl x) k1 fun i f => by
    rcases f with f | f | f | f
    · exact .inl (.inl f)
    · exact .inr (own1 i f)
    · exact .inl (.inr (.inr (.inl f)))
    · exact .inl (.inr (.inr (.inr f)))
  obtain ⟨N, hN⟩ : ∃ N, N = readN t n := ⟨_, rfl⟩
  have hNl : N ≤ t.c.length := by rw [hN]; simp only [readN]; omega
  rw [← hN] at km ha
  obtain ⟨r2, h2, cc, g1, g2, g3, g4⟩ := km.swap.grow he ha.toBytes (by simp only [List.length_take]; omega)
  obtain ⟨x, y, x1, x2, x3⟩ := l.x
  refine ⟨_, _, r, r', r2, h1, h2, _, cc, ⟨_, ev, rfl⟩, km.a5, km.a7, g1, g3, g2, _, _, _, _, _, _, _, _, _, _, _, _, _, _, _, g4.swap, ⟨⟨x, y, x1, ?_, x3⟩, l.u, l.sent, ?_, ?_, l.m⟩⟩
  · rw [← x2]
    simp only [List.append_assoc]
    rw [← List.append_assoc (t.c.take N), List.take_append_drop]
  · have := l.moved
    simp only [List.length_append, List.length_take, List.length_drop]; omega
  · simp only [List.length_append, List.length_take]; omega

theorem ord_break (k : Om h id i4 i5 i7 0 cl t o tu tc ou oc s s' r r' S S' R R' X) (l : Lw cl t o S S' R R' m) :
    ∃ v h', WC env 19 [.ptr id 0 0] h (fun x => x = .ret ⟨v, h', .write⟩) ∧ Ore h' id i4 i5 i7 0 m X := by
  obtain ⟨x, ev, hx⟩ := break_spec k.ok k.sr
  rcases hx with ⟨_, rfl⟩ | ⟨rfl, h1, ho1, k1, c1, rfl⟩
  · exact ⟨_, _, ⟨_, ev, rfl⟩, _, _, _, _, _, _, _, _, _, _, _, _, _, _, _, k, l⟩
  have km := k.stream ho1 (c1.mono fun i x => .inl x) k1 fun i f => by
    rcases f with f | f | f | f
    · cases f
    · exact .inl (.inr (.inl f))
    · cases f
    · exact .inl (.inr (.inr (.inr f)))
  obtain ⟨x, y, x1, x2, x3⟩ := l.x
  exact ⟨_, _, ⟨_, ev, rfl⟩, _, _, _, _, _, _, _, _, _, _, _, _, _, _, _, km, ⟨⟨x, y, x1, x2, fun h => by cases h⟩, ⟨by simp, by simp⟩, l.sent, l.moved, l.read, l.m⟩⟩

theorem ord_close (k : Om h id i4 i5 i7 e cl t o tu tc ou oc s s' r r' S S' R R' X) (l : Lw cl t o S S' R R' m) (he : e = 0 ∨ e = 1) :
    ∃ v h', WC env 20 [.ptr id 0 0, .int .i64 e] h (fun x => x = .ret ⟨v, h', .write⟩) ∧ Ore h' id i4 i5 i7 e m X := by
  have hm := l.m
  have hu := l.u
  have hs := l.moved
  have hl := l.lens
  obtain ⟨x, ev, hx⟩ := close_spec k.ok k.sr he (by omega) (by omega)
  rcases hx with ⟨_, rfl⟩ | ⟨rfl, h1, oc1, ho1, k1, c1, own1, rfl⟩
  · exact ⟨_, _, ⟨_, ev, rfl⟩, _, _, _, _, _, _, _, _, _, _, _, _, _, _, _, k, l⟩
  have km := k.stream ho1 (c1.mono fun i x => x.imp (fun x => x) fun x => .inr (.inr (.inr x))) k1 fun i f => by
    rcases f with f | f | f | f
    · cases f
    · exact .inl (.inr (.inl f))
    · cases f
    · exact (own1 i f).imp (fun x => .inr (.inr (.inr x))) (fun x => x)
  obtain ⟨x, y, x1, x2, x3⟩ := l.x
  obtain ⟨rfl, rfl⟩ := x3 rfl
  refine ⟨_, _, ⟨_, ev, rfl⟩, _, _, _, _, _, _, _, _, _, _, _, _, _, _, _, km, ⟨⟨[], o.u, ?_, x2, fun h => by cases h⟩, ⟨by simp, by simp⟩, l.sent, ?_, l.read, l.m⟩⟩
  · rw [← x1]; simp
  · simp only [List.length_append]; omega
end
end Go.St
