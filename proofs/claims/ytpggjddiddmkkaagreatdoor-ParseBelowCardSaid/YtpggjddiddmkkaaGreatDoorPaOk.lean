/-
  The abstract machine's surroundings are the program's.
-/
import Derived.Test.YtpggjddiddmkkaaGreatDoorPaLaw
import Derived.Test.YtpggjddiddmkkaaGreatDoorPaShelf
import Derived.Test.YtpggjddiddmkkaaGreatDoorAmTop
import Derived.Test.YtpggjddiddmkkaaGreatDoorChecked
import Derived.Test.YtpggjddiddmkkaaGreatDoorRows
import Derived.WalkKit
import Derived.LaidEql
import Derived.Stop.Asserts
import Derived.RowKitTokens
import Derived.Test.YtpggjddiddmkkaaGreatDoorPaTie2
set_option linter.unusedVariables false
namespace Go.Pa
open Go.AM Go.RowKit Go.Proofs Go.Proofs.YtpggjddiddmkkaaGreatDoor Go.Extern.Stop Go.Stop Go.Extern
theorem as_nil (v : Value) (w : World) : Calls Tryz.prog 37 #[.nilIface, .iface 80 v] w fun e w' => e = .returned (.bool false) ∧ w' = w := by
  go_enter Tryz.func37, Tryz.ntmps37
  go_wp2
  go_ret
  exact ⟨rfl, rfl⟩
theorem as_ok0 {B : Nat} {w0 : World} {X : RX} (hR : Rel B w0 env X) {id gen off : Nat} {cargs : List Value}
    (ha : VRels X [.nili, .ifc 80 (.ptr id gen off)] cargs) : Calls Tryz.prog 37 cargs.toArray X.w (AM.Outcome B w0 env X (.ret ⟨.bool false, X.h, .write⟩)) := by
  cases ha with | cons _ c1 _ _ h1 hr =>
  cases hr with | cons _ c2 _ _ h2 hr =>
  cases hr with | nil =>
  cases h1 with | nili =>
  cases h2 with | ifc _ _ e2 h2 =>
  refine (as_nil e2 X.w).mono ?_
  rintro ev w' ⟨rfl, rfl⟩
  exact ⟨X, .bool false, rfl, rfl, hR, Ext.refl X, .bool false, rfl⟩
theorem index_ok {B : Nat} {w0 : World} {X : RX} (hR : Rel B w0 env X) {s t : List UInt8} (hs : s.length < 4294967281) {cargs : List Value}
    (ha : VRels X [.str s, .str t] cargs) : Calls Tryz.prog 196 cargs.toArray X.w (AM.Outcome B w0 env X (.ret ⟨.int .i64 (subAt t s 0), X.h, .write⟩)) := by
  cases ha with | cons _ c1 _ _ h1 hr =>
  cases hr with | cons _ c2 _ _ h2 hr =>
  cases hr with | nil =>
  cases h1 with | str =>
  cases h2 with | str =>
  obtain ⟨hB, m, hm⟩ := hR.start
  have hm' : X.w.cell? ⟨5, 0, none⟩ = some (.int .i64 m) := by
    have e : w0.cell? ⟨5, 0, none⟩ = some (.int .i64 m) := hm
    rw [← e]
    simp only [World.cell?, hR.below.block 5 (by omega)]
  refine (Tryz.stringslite_Index ⟨s.toArray⟩ ⟨t.toArray⟩ m X.w (by simpa [ByteArray.size] using hs) hm').mono ?_
  rintro ev w' ⟨rfl, rfl⟩
  rw [subAt_index]
  exact ⟨X, .int .i64 _, rfl, rfl, hR, Ext.refl X, .int _ _, rfl⟩
theorem entered37 : Entered Tryz.prog 37 := ⟨_, Tryz.func37, by kernel_rfl, by decide⟩
theorem entered196 : Entered Tryz.prog 196 := ⟨_, Tryz.func196, by kernel_rfl, by decide⟩
theorem prim_ok : ∀ f p, env.prim f = some p → Entered Tryz.prog f ∧ ∀ args h v h', p args h = some (v, h') → ∀ (B : Nat) (w0 : World) (X : RX) (cargs : List Value), Rel B w0 env X → X.h = h → VRels X args cargs →
    Calls Tryz.prog f cargs.toArray X.w (AM.Outcome B w0 env X (.ret ⟨v, h', .write⟩)) := by
  intro f p hp
  have hp' : prims f = some p := hp
  unfold prims at hp'
  split at hp'
  · cases hp'
    refine ⟨entered37, fun args h v h' hc B w0 X cargs hR hX ha => ?_⟩
    subst hX
    unfold asP at hc
    split at hc
    · cases hc
      exact as_ok0 hR ha
    · cases hc
  · cases hp'
    refine ⟨entered196, fun args h v h' hc B w0 X cargs hR hX ha => ?_⟩
    subst hX
    unfold indexP at hc
    split at hc
    · split at hc
      · rename_i hn
        cases hc
        exact index_ok hR hn ha
      · cases hc
    · cases hc
  · cases hp'
end Go.Pa

namespace Go.Pa
open Go.AM Go.Proofs Go.Proofs.YtpggjddiddmkkaaGreatDoor
theorem env_ok : EnvOk Tryz.prog env where
  func f af h := func_tied f af h
  prim := prim_ok
  dfunc f x h := dfunc_tied f x h
  rfunc f x h := rfunc_tied f x h
end Go.Pa
