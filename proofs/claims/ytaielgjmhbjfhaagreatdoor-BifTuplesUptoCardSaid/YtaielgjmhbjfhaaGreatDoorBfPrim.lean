/-
  The door seat of package bif: errors.As and errors.Is, taken whole by the abstract machine, are what the model's calls come to.
-/
import Derived.Test.YtaielgjmhbjfhaaGreatDoorBfEnv
import Derived.Test.YtaielgjmhbjfhaaGreatDoorBfErr2
import Derived.Test.YtaielgjmhbjfhaaGreatDoorBfStrange
import Derived.Test.YtaielgjmhbjfhaaGreatDoorAmTop
set_option linter.unusedVariables false
set_option linter.unusedSimpArgs false
namespace Go.Bf
open Go.AM Go.RowKit Go.Proofs Go.Proofs.YtaielgjmhbjfhaaGreatDoor
theorem as_ok {B : Nat} {w0 : World} {X : RX} (hR : Rel B w0 env X) {cs : List AV} {id gen off : Nat} {os : List AV} (hat : X.h.at_ id gen = some os) (hoff : off < os.length) {cargs : List Value}
    (ha : VRels X [.ifc 69 (.fp cs), .ifc 71 (.ptr id gen off)] cargs) : Calls Tryz.prog 37 cargs.toArray X.w (AM.Outcome B w0 env X (.ret ⟨.bool true, X.h.upd id gen (splice os off [.fp cs]), .write⟩)) := by
  cases ha with | cons _ c1 _ _ h1 hr =>
  cases hr with | cons _ c2 _ _ h2 hr =>
  cases hr with | nil =>
  cases h1 with | ifc _ _ e1 h1 =>
  cases h2 with | ifc _ _ e2 h2 =>
  have hfp := h1
  cases h1 with | fp _ b o vs hst hcell hone hvs =>
  cases h2 with | ptr _ _ _ a hid hlive =>
  have hl := Heap.at_some hat
  have e := (hlive _ hl).2 rfl
  subst e
  have hO := hR.obj id _ hl
  obtain ⟨⟨arr, T, fz, g1, g2, g3, g4, g5⟩, hone2⟩ := hO
  dsimp only at g3 g5
  have hk : (X.ρ id).o + off < arr.size := by omega
  have hcell2 : X.w.cell? ⟨(X.ρ id).b, (X.ρ id).o + off, none⟩ = some arr[(X.ρ id).o + off] := by simp [World.cell?, g1, hk]
  have hfro := Bare.frozen (w := X.w) g1 (by rw [g2]; exact g4) hk
  obtain ⟨hB, hs, _⟩ := hR.start
  have hg : X.w.cell? ⟨0, 0, none⟩ = some (.iface 132 (.agg #[.pointer (some ⟨10, 42, none⟩)])) := by
    rw [← hs]
    simp only [World.cell?, hR.below.block 0 (by omega)]
  refine (as_hit ⟨b, o, none⟩ ⟨(X.ρ id).b, (X.ρ id).o + off, none⟩ _ X.w hg hcell2 hfro).mono ?_
  rintro ev w' ⟨rfl, rfl⟩
  generalize hw4 : (((X.w.alloc (.cells #[.pointer (some ⟨(X.ρ id).b, (X.ρ id).o + off, none⟩)] 71)).alloc (.cells #[.pointer (some ⟨10, 71, none⟩), .pointer (some ⟨X.w.heap.size, 0, none⟩), .int .u64 150] 94)).alloc (.cells #[.pointer (some ⟨10, 71, none⟩), .pointer (some ⟨X.w.heap.size, 0, none⟩), .int .u64 150] 94)).alloc (.cells #[.pointer (some ⟨b, o, none⟩)] 69) = w4
  have hb : Below X.w.heap.size X.w w4 := by
    rw [← hw4]
    exact (((((Below.refl _ _).alloc (by simp) _).alloc (by simp <;> omega) _).alloc (by simp <;> omega) _).alloc (by simp <;> omega) _)
  have hR1 := hR.grow hb
  have hE1 := Ext.grow X hb
  obtain ⟨X', q1, q2, q3, q4, _⟩ := sim_splice (P := Tryz.prog) hR1 (id := id) (o := ⟨gen, os⟩) hl (off := off) (new := [.fp cs]) (news := [.pointer (some ⟨b, o, none⟩)]) (VRels.one (hfp.ext hE1)) (fun v hv => by simp at hv; subst hv; rfl) (by dsimp only [List.length]; omega)
  have hc4 : w4.cell? ⟨(X.ρ id).b, (X.ρ id).o + off, none⟩ = some arr[(X.ρ id).o + off] := by
    rw [← hcell2]
    simp only [World.cell?, hb.block _ (hR.obj id _ hl).lt]
  have hf4 : w4.frozen? ⟨(X.ρ id).b, (X.ρ id).o + off, none⟩ = false := by
    rw [← hfro]
    simp only [World.frozen?, hb.block _ (hR.obj id _ hl).lt]
  have hw' : X'.w = w4.setCell ⟨(X.ρ id).b, (X.ρ id).o + off, none⟩ (.pointer (some ⟨b, o, none⟩)) := by
    have hst : (store ((⟨(X.ρ id).b, (X.ρ id).o + off, none⟩ : Addr).add 0) (.pointer (some ⟨b, o, none⟩))).run Tryz.prog w4 = .ok () (w4.setCell ⟨(X.ρ id).b, (X.ρ id).o + off, none⟩ (.pointer (some ⟨b, o, none⟩))) := by
      have e : ((⟨(X.ρ id).b, (X.ρ id).o + off, none⟩ : Addr).add 0) = ⟨(X.ρ id).b, (X.ρ id).o + off, none⟩ := by simp [Addr.add]
      rw [e, run_store Tryz.prog w4 _ _ _ rfl, hc4]
      simp [hf4]
    simp only [storeCells, Sem.run_bind] at q1
    rw [hst] at q1
    simp only [Result.andThen_ok, Sem.run_pure, Result.ok.injEq, true_and] at q1
    exact q1.symm
  exact ⟨X', .bool true, hw', q2, q3, hE1.trans q4, .bool true, rfl⟩
theorem is_ok {B : Nat} {w0 : World} {X : RX} (hR : Rel B w0 env X) {l a : AV} {c c' : Int} {cargs : List Value}
    (ha : VRels X [.ifc 69 (.fp [l, a, .int .i64 c, .nili]), .ifc 67 (.int .i64 c')] cargs) : Calls Tryz.prog 46 cargs.toArray X.w (AM.Outcome B w0 env X (.ret ⟨.bool (c == c'), X.h, .write⟩)) := by
  cases ha with | cons _ c1 _ _ h1 hr =>
  cases hr with | cons _ c2 _ _ h2 hr =>
  cases hr with | nil =>
  cases h1 with | ifc _ _ e1 h1 =>
  cases h2 with | ifc _ _ e2 h2 =>
  cases h2 with | int =>
  cases h1 with | fp _ b o vs hst hcell hone hvs =>
  cases hvs with | cons _ v0 _ _ k0 hvs =>
  cases hvs with | cons _ v1 _ _ k1 hvs =>
  cases hvs with | cons _ v2 _ _ k2 hvs =>
  cases hvs with | cons _ v3 _ _ k3 hvs =>
  cases k2 with | int =>
  cases k3 with | nili =>
  have h2 := hcell 2 _ rfl
  have h3 := hcell 3 _ rfl
  refine (is_hit b o c c' X.w h2 h3).mono ?_
  rintro ev w' ⟨rfl, rfl⟩
  exact ⟨X, .bool (c == c'), rfl, rfl, hR, Ext.refl X, .bool _, rfl⟩
theorem is_ok2 {B : Nat} {w0 : World} {X : RX} (hR : Rel B w0 env X) {l a x l2 a2 : AV} {c c' : Int} {cargs : List Value}
    (ha : VRels X [.ifc 69 (.fp [l, a, x, .ifc 69 (.fp [l2, a2, .int .i64 c, .nili])]), .ifc 67 (.int .i64 c')] cargs) : Calls Tryz.prog 46 cargs.toArray X.w (AM.Outcome B w0 env X (.ret ⟨.bool (c == c'), X.h, .write⟩)) := by
  cases ha with | cons _ c1 _ _ h1 hr =>
  cases hr with | cons _ c2 _ _ h2 hr =>
  cases hr with | nil =>
  cases h1 with | ifc _ _ e1 h1 =>
  cases h2 with | ifc _ _ e2 h2 =>
  cases h2 with | int =>
  cases h1 with | fp _ b o vs hst hcell hone hvs =>
  cases hvs with | cons _ v0 _ _ k0 hvs =>
  cases hvs with | cons _ v1 _ _ k1 hvs =>
  cases hvs with | cons _ v2 _ _ k2 hvs =>
  cases hvs with | cons _ v3 _ _ k3 hvs =>
  cases k3 with | ifc _ _ e3 k3 =>
  cases k3 with | fp _ b' o' vs' hst' hcell' hone' hvs' =>
  cases hvs' with | cons _ u0 _ _ m0 hvs' =>
  cases hvs' with | cons _ u1 _ _ m1 hvs' =>
  cases hvs' with | cons _ u2 _ _ m2 hvs' =>
  cases hvs' with | cons _ u3 _ _ m3 hvs' =>
  cases m2 with | int =>
  cases m3 with | nili =>
  refine (is_hit2 b o b' o' c c' X.w (hcell 3 _ rfl) (hcell' 2 _ rfl) (hcell' 3 _ rfl)).mono ?_
  rintro ev w' ⟨rfl, rfl⟩
  exact ⟨X, .bool (c == c'), rfl, rfl, hR, Ext.refl X, .bool _, rfl⟩
theorem is_ok3 {B : Nat} {w0 : World} {X : RX} (hR : Rel B w0 env X) {l a x l2 a2 x2 l3 a3 : AV} {c c' : Int} {cargs : List Value}
    (ha : VRels X [.ifc 69 (.fp [l, a, x, .ifc 69 (.fp [l2, a2, x2, .ifc 69 (.fp [l3, a3, .int .i64 c, .nili])])]), .ifc 67 (.int .i64 c')] cargs) : Calls Tryz.prog 46 cargs.toArray X.w (AM.Outcome B w0 env X (.ret ⟨.bool (c == c'), X.h, .write⟩)) := by
  cases ha with | cons _ c1 _ _ h1 hr =>
  cases hr with | cons _ c2 _ _ h2 hr =>
  cases hr with | nil =>
  cases h1 with | ifc _ _ e1 h1 =>
  cases h2 with | ifc _ _ e2 h2 =>
  cases h2 with | int =>
  cases h1 with | fp _ b o vs hst hcell hone hvs =>
  cases hvs with | cons _ v0 _ _ k0 hvs =>
  cases hvs with | cons _ v1 _ _ k1 hvs =>
  cases hvs with | cons _ v2 _ _ k2 hvs =>
  cases hvs with | cons _ v3 _ _ k3 hvs =>
  cases k3 with | ifc _ _ e3 k3 =>
  cases k3 with | fp _ b' o' vs' hst' hcell' hone' hvs' =>
  cases hvs' with | cons _ u0 _ _ m0 hvs' =>
  cases hvs' with | cons _ u1 _ _ m1 hvs' =>
  cases hvs' with | cons _ u2 _ _ m2 hvs' =>
  cases hvs' with | cons _ u3 _ _ m3 hvs' =>
  cases m3 with | ifc _ _ e4 m3 =>
  cases m3 with | fp _ b3 o3 vs3 hst3 hcell3 hone3 hvs3 =>
  cases hvs3 with | cons _ q0 _ _ n0 hvs3 =>
  cases hvs3 with | cons _ q1 _ _ n1 hvs3 =>
  cases hvs3 with | cons _ q2 _ _ n2 hvs3 =>
  cases hvs3 with | cons _ q3 _ _ n3 hvs3 =>
  cases n2 with | int =>
  cases n3 with | nili =>
  refine (is_hit3 b o b' o' b3 o3 c c' X.w (hcell 3 _ rfl) (hcell' 3 _ rfl) (hcell3 2 _ rfl) (hcell3 3 _ rfl)).mono ?_
  rintro ev w' ⟨rfl, rfl⟩
  exact ⟨X, .bool (c == c'), rfl, rfl, hR, Ext.refl X, .bool _, rfl⟩
theorem is_ok0 {B : Nat} {w0 : World} {X : RX} (hR : Rel B w0 env X) {c' : Int} {cargs : List Value}
    (ha : VRels X [.nili, .ifc 67 (.int .i64 c')] cargs) : Calls Tryz.prog 46 cargs.toArray X.w (AM.Outcome B w0 env X (.ret ⟨.bool false, X.h, .write⟩)) := by
  cases ha with | cons _ c1 _ _ h1 hr =>
  cases hr with | cons _ c2 _ _ h2 hr =>
  cases hr with | nil =>
  cases h1 with | nili =>
  cases h2 with | ifc _ _ e2 h2 =>
  cases h2 with | int =>
  refine (is_nil c' X.w).mono ?_
  rintro ev w' ⟨rfl, rfl⟩
  exact ⟨X, .bool false, rfl, rfl, hR, Ext.refl X, .bool _, rfl⟩
theorem strange_ok {B : Nat} {w0 : World} {X : RX} (hR : Rel B w0 env X) {s : List UInt8} {cargs : List Value}
    (ha : VRels X [.str s] cargs) : Calls Tryz.prog 149 cargs.toArray X.w (AM.Outcome B w0 env X (.ret ⟨.int .i64 (strangeF s (s.length + 1) 0), X.h, .write⟩)) := by
  cases ha with | cons _ c1 _ _ h1 hr =>
  cases hr with | nil =>
  cases h1 with | str =>
  obtain ⟨hB, _, hT⟩ := hR.start
  have key : ∀ {a : Addr} {v : Value}, a.block < B → w0.cell? a = some v → X.w.cell? a = some v := fun {a v} hb e => by
    rw [← e]
    simp only [World.cell?, hR.below.block _ hb]
  have hT2 : Lib.Utf8Tabs 4 5 X.w := ⟨fun c hc => key (by show 4 < B; omega) (hT.1 c hc), fun i hi => ⟨key (by show 5 < B; omega) (hT.2 i hi).1, key (by show 5 < B; omega) (hT.2 i hi).2⟩⟩
  refine (strange_call ⟨s.toArray⟩ X.w hT2).mono ?_
  rintro ev w' ⟨rfl, hb⟩
  exact ⟨{ X with w := w' }, .int .i64 _, rfl, rfl, hR.grow hb, Ext.grow X hb, .int _ _, rfl⟩
theorem index_ok {B : Nat} {w0 : World} {X : RX} (hR : Rel B w0 env X) {s : List UInt8} {c : UInt8} {cargs : List Value}
    (ha : VRels X [.str s, .str [c]] cargs) : Calls Tryz.prog 169 cargs.toArray X.w (AM.Outcome B w0 env X (.ret ⟨.int .i64 (Lib.indexByte s c), X.h, .write⟩)) := by
  cases ha with | cons _ c1 _ _ h1 hr =>
  cases hr with | cons _ c2 _ _ h2 hr =>
  cases hr with | nil =>
  cases h1 with | str =>
  cases h2 with | str =>
  refine (Tryz.stringslite_Index_one ⟨s.toArray⟩ c X.w).mono ?_
  rintro ev w' ⟨rfl, rfl⟩
  exact ⟨X, .int .i64 _, rfl, rfl, hR, Ext.refl X, .int _ _, rfl⟩
theorem entered37 : Entered Tryz.prog 37 := ⟨_, Tryz.func37, by kernel_rfl, by decide⟩
theorem entered149 : Entered Tryz.prog 149 := ⟨_, Tryz.func149, by kernel_rfl, by decide⟩
theorem entered169 : Entered Tryz.prog 169 := ⟨_, Tryz.func169, by kernel_rfl, by decide⟩
theorem entered46 : Entered Tryz.prog 46 := ⟨_, Tryz.func46, by kernel_rfl, by decide⟩
theorem prim_ok : ∀ f p, env.prim f = some p → Entered Tryz.prog f ∧ ∀ args h v h', p args h = some (v, h') → ∀ (B : Nat) (w0 : World) (X : RX) (cargs : List Value), Rel B w0 env X → X.h = h → VRels X args cargs →
    Calls Tryz.prog f cargs.toArray X.w (AM.Outcome B w0 env X (.ret ⟨v, h', .write⟩)) := by
  intro f p hp
  have hp' : prims f = some p := hp
  unfold prims at hp'
  split at hp'
  · cases hp'
    refine ⟨entered37, fun args h v h' hc B w0 X cargs hR hX ha => ?_⟩
    subst hX
    unfold asP at hc
    split at hc
    · simp only [Option.bind_eq_some_iff] at hc
      obtain ⟨os, hat, hc⟩ := hc
      split at hc
      · rename_i hoff
        cases hc
        exact as_ok hR hat hoff ha
      · cases hc
    · cases hc
  · cases hp'
    refine ⟨entered46, fun args h v h' hc B w0 X cargs hR hX ha => ?_⟩
    subst hX
    unfold isP at hc
    split at hc
    · cases hc
      exact is_ok hR ha
    · cases hc
      exact is_ok2 hR ha
    · cases hc
      exact is_ok3 hR ha
    · cases hc
      exact is_ok0 hR ha
    · cases hc
  · cases hp'
    refine ⟨entered149, fun args h v h' hc B w0 X cargs hR hX ha => ?_⟩
    subst hX
    unfold strangeP at hc
    split at hc
    · cases hc
      exact strange_ok hR ha
    · cases hc
  · cases hp'
    refine ⟨entered169, fun args h v h' hc B w0 X cargs hR hX ha => ?_⟩
    subst hX
    unfold indexP at hc
    split at hc
    · cases hc
      exact index_ok hR ha
    · cases hc
  · cases hp'
end Go.Bf
