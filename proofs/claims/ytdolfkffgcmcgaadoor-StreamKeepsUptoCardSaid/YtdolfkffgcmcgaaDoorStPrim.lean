/-
  The door seat of package stream: errors.As and errors.Is, taken whole by the abstract machine, are what the model's calls come to.
-/
import Derived.Test.YtdolfkffgcmcgaaDoorStCode
import Derived.Test.YtdolfkffgcmcgaaDoorStErr
import Derived.Test.YtdolfkffgcmcgaaDoorStErr2
import Derived.Test.YtdolfkffgcmcgaaDoorAmTop
set_option linter.unusedVariables false
set_option linter.unusedSimpArgs false
namespace Go.St
open Go.AM Go.RowKit Go.Proofs Go.Proofs.YtdolfkffgcmcgaaDoor

theorem as_ok {B : Nat} {w0 : World} {X : RX} (hR : Rel B w0 env X) {cs : List AV} {id gen off : Nat} {os : List AV} (hat : X.h.at_ id gen = some os) (hoff : off < os.length) {cargs : List Value}
    (ha : VRels X [.ifc 84 (.fp cs), .ifc 92 (.ptr id gen off)] cargs) : Calls Tryd.prog 41 cargs.toArray X.w (AM.Outcome B w0 env X (.ret ⟨.bool true, X.h.upd id gen (splice os off [.fp cs]), .write⟩)) := by
  cases ha with | cons _ c1 _ _ h1 hr =>
  cases hr with | cons _ c2 _ _ h2 hr =>
  cases hr with | nil =>
  cases h1 with | ifc _ _ e1 h1 =>
  cases h2 with | ifc _ _ e2 h2 =>
  have hfp := h1
  cases h1 with | fp _ b o vs hst hcell hone hvs =>
  cases h2 with | ptr _ _ _ a hid hlive =>
  have hl := Heap.at_some hat
  have e := (hlive _ hl).2 rfl
  subst e
  have hO := hR.obj id _ hl
  obtain ⟨⟨arr, T, fz, g1, g2, g3, g4, g5⟩, hone2⟩ := hO
  dsimp only at g3 g5
  have hk : (X.ρ id).o + off < arr.size := by omega
  have hcell2 : X.w.cell? ⟨(X.ρ id).b, (X.ρ id).o + off, none⟩ = some arr[(X.ρ id).o + off] := by simp [World.cell?, g1, hk]
  have hfro := Bare.frozen (w := X.w) g1 (by rw [g2]; exact g4) hk
  obtain ⟨hB, hs⟩ := hR.start
  have hg : X.w.cell? ⟨0, 0, none⟩ = some (.iface 96 (.agg #[.pointer (some ⟨1, 27, none⟩)])) := by
    rw [← hs]
    simp only [World.cell?, hR.below.block 0 hB]
  refine (as_hit ⟨b, o, none⟩ ⟨(X.ρ id).b, (X.ρ id).o + off, none⟩ _ X.w hg hcell2 hfro).mono ?_
  rintro ev w' ⟨rfl, rfl⟩
  generalize hw4 : (((X.w.alloc (.cells #[.pointer (some ⟨(X.ρ id).b, (X.ρ id).o + off, none⟩)] 92)).alloc (.cells #[.pointer (some ⟨1, 92, none⟩), .pointer (some ⟨X.w.heap.size, 0, none⟩), .int .u64 150] 108)).alloc (.cells #[.pointer (some ⟨1, 92, none⟩), .pointer (some ⟨X.w.heap.size, 0, none⟩), .int .u64 150] 108)).alloc (.cells #[.pointer (some ⟨b, o, none⟩)] 84) = w4
  have hb : Below X.w.heap.size X.w w4 := by
    rw [← hw4]
    exact (((((Below.refl _ _).alloc (by simp) _).alloc (by simp <;> omega) _).alloc (by simp <;> omega) _).alloc (by simp <;> omega) _)
  have hR1 := hR.grow hb
  have hE1 := Ext.grow X hb
  obtain ⟨X', q1, q2, q3, q4, _⟩ := sim_splice (P := Tryd.prog) hR1 (id := id) (o := ⟨gen, os⟩) hl (off := off) (new := [.fp cs]) (news := [.pointer (some ⟨b, o, none⟩)]) (VRels.one (hfp.ext hE1)) (fun v hv => by simp at hv; subst hv; rfl) (by dsimp only [List.length]; omega)
  have hc4 : w4.cell? ⟨(X.ρ id).b, (X.ρ id).o + off, none⟩ = some arr[(X.ρ id).o + off] := by
    rw [← hcell2]
    simp only [World.cell?, hb.block _ (hR.obj id _ hl).lt]
  have hf4 : w4.frozen? ⟨(X.ρ id).b, (X.ρ id).o + off, none⟩ = false := by
    rw [← hfro]
    simp only [World.frozen?, hb.block _ (hR.obj id _ hl).lt]
  have hw' : X'.w = w4.setCell ⟨(X.ρ id).b, (X.ρ id).o + off, none⟩ (.pointer (some ⟨b, o, none⟩)) := by
    have hst : (store ((⟨(X.ρ id).b, (X.ρ id).o + off, none⟩ : Addr).add 0) (.pointer (some ⟨b, o, none⟩))).run Tryd.prog w4 = .ok () (w4.setCell ⟨(X.ρ id).b, (X.ρ id).o + off, none⟩ (.pointer (some ⟨b, o, none⟩))) := by
      have e : ((⟨(X.ρ id).b, (X.ρ id).o + off, none⟩ : Addr).add 0) = ⟨(X.ρ id).b, (X.ρ id).o + off, none⟩ := by simp [Addr.add]
      rw [e, run_store Tryd.prog w4 _ _ _ rfl, hc4]
      simp [hf4]
    simp only [storeCells, Sem.run_bind] at q1
    rw [hst] at q1
    simp only [Result.andThen_ok, Sem.run_pure, Result.ok.injEq, true_and] at q1
    exact q1.symm
  exact ⟨X', .bool true, hw', q2, q3, hE1.trans q4, .bool true, rfl⟩

theorem is_ok {B : Nat} {w0 : World} {X : RX} (hR : Rel B w0 env X) {l a : AV} {c c' : Int} {cargs : List Value}
    (ha : VRels X [.ifc 84 (.fp [l, a, .int .i64 c, .nili]), .ifc 42 (.int .i64 c')] cargs) : Calls Tryd.prog 27 cargs.toArray X.w (AM.Outcome B w0 env X (.ret ⟨.bool (c == c'), X.h, .write⟩)) := by
  cases ha with | cons _ c1 _ _ h1 hr =>
  cases hr with | cons _ c2 _ _ h2 hr =>
  cases hr with | nil =>
  cases h1 with | ifc _ _ e1 h1 =>
  cases h2 with | ifc _ _ e2 h2 =>
  cases h2 with | int =>
  cases h1 with | fp _ b o vs hst hcell hone hvs =>
  cases hvs with | cons _ v0 _ _ k0 hvs =>
  cases hvs with | cons _ v1 _ _ k1 hvs =>
  cases hvs with | cons _ v2 _ _ k2 hvs =>
  cases hvs with | cons _ v3 _ _ k3 hvs =>
  cases k2 with | int =>
  cases k3 with | nili =>
  have h2 := hcell 2 _ rfl
  have h3 := hcell 3 _ rfl
  refine (is_hit b o c c' X.w h2 h3).mono ?_
  rintro ev w' ⟨rfl, rfl⟩
  exact ⟨X, .bool (c == c'), rfl, rfl, hR, Ext.refl X, .bool _, rfl⟩

theorem is_ok0 {B : Nat} {w0 : World} {X : RX} (hR : Rel B w0 env X) {c' : Int} {cargs : List Value}
    (ha : VRels X [.nili, .ifc 42 (.int .i64 c')] cargs) : Calls Tryd.prog 27 cargs.toArray X.w (AM.Outcome B w0 env X (.ret ⟨.bool false, X.h, .write⟩)) := by
  cases ha with | cons _ c1 _ _ h1 hr =>
  cases hr with | cons _ c2 _ _ h2 hr =>
  cases hr with | nil =>
  cases h1 with | nili =>
  cases h2 with | ifc _ _ e2 h2 =>
  cases h2 with | int =>
  refine (is_nil c' X.w).mono ?_
  rintro ev w' ⟨rfl, rfl⟩
  exact ⟨X, .bool false, rfl, rfl, hR, Ext.refl X, .bool _, rfl⟩

theorem entered41 : Entered Tryd.prog 41 := ⟨_, Tryd.func41, by kernel_rfl, by decide⟩
theorem entered27 : Entered Tryd.prog 27 := ⟨_, Tryd.func27, by kernel_rfl, by decide⟩

theorem prim_ok : ∀ f p, env.prim f = some p → Entered Tryd.prog f ∧ ∀ args h v h', p args h = some (v, h') → ∀ (B : Nat) (w0 : World) (X : RX) (cargs : List Value), Rel B w0 env X → X.h = h → VRels X args cargs →
    Calls Tryd.prog f cargs.toArray X.w (AM.Outcome B w0 env X (.ret ⟨v, h', .write⟩)) := by
  intro f p hp
  have hp' : prims f = some p := hp
  unfold prims at hp'
  split at hp'
  · cases hp'
    refine ⟨entered41, fun args h v h' hc B w0 X cargs hR hX ha => ?_⟩
    subst hX
    unfold asP at hc
    split at hc
    · simp only [Option.bind_eq_some_iff] at hc
      obtain ⟨os, hat, hc⟩ := hc
      split at hc
      · rename_i hoff
        cases hc
        exact as_ok hR hat hoff ha
      · cases hc
    · cases hc
  · cases hp'
    refine ⟨entered27, fun args h v h' hc B w0 X cargs hR hX ha => ?_⟩
    subst hX
    unfold isP at hc
    split at hc
    · cases hc
      exact is_ok hR ha
    · cases hc
      exact is_ok0 hR ha
    · cases hc
  · cases hp'
end Go.St
