/-
  FrameChunks answers true.
-/
import Derived.Test.YtlggjdneolgkoaaRows
import Derived.Test.YtlggjdneolgkoaaFrChunk5
import Derived.Test.YtlggjdneolgkoaaFrFit
import Derived.Test.YtlggjdneolgkoaaFrTie
import Derived.WalkKit
import Derived.ProofKit
import Derived.OpenShut
import Derived.JoinedCond
set_option linter.unusedVariables false
namespace Go.Proofs.Ytlggjdneolgkoaa.frameChunks
open Go.ChangeShapes Go.WideShapes Go.ChangeAt Go.RowKit Go.AM Go.Fr

theorem ints_all {H : Type} : ∀ {elems : List (DataW H)} {css : List (List AV)}, All2 (Fits (.int .i64)) elems css → ∃ l : List Int, css.flatten = l.map (AV.int .i64) ∧ l.length = elems.length
  | _, _, .nil => ⟨[], rfl, rfl⟩
  | _, _, .cons h hs => by
    obtain ⟨n, _, _, rfl⟩ := h
    obtain ⟨l, h1, h2⟩ := ints_all hs
    exact ⟨n :: l, by simp [h1], by simp [h2]⟩

theorem ints_fit {H : Type} {d : DataW H} {vs : List AV} (h : Fits (.slice (.int .i64)) d vs) : ∃ v l, vs = [v] ∧ IntsV v l := by
  rcases h with ⟨rfl, rfl⟩ | ⟨elems, spare, css, rfl, _, hall, rfl⟩
  · exact ⟨_, [], rfl, .inl ⟨rfl, rfl⟩⟩
  · obtain ⟨l, h1, h2⟩ := ints_all hall
    refine ⟨_, l, rfl, .inr ⟨spare.isEmpty, ?_⟩⟩
    rw [h1, h2]

theorem own : ownKnob Try.prog.godebug = none := by kernel_rfl
theorem laid : laidOutB Try.prog = true := by kernel_rfl
theorem mixed : Try.prog.follows .mixedOrders = true := by kernel_rfl
theorem shapes : shsOf Try.prog 5 Try.f3.params.toList = some [.agg [.int .i64, .slice (.int .u8), .slice (.int .i64), .int .u64]] := by kernel_rfl
theorem readable : ∀ t ∈ Try.f3.params.toList, Try.prog.readableRec t = true ∧ t < Try.prog.types.size := by
  have h : (Try.f3.params.toList.all fun t => Try.prog.readableRec t && decide (t < Try.prog.types.size)) = true := by kernel_rfl
  intro t ht
  have := List.all_eq_true.1 h t ht
  simpa using this

theorem contract (H : Type) (enc : TypeId × Value → H) (W : World) (base : Nat) (args : Array Value) (ds gs : List (DataW H)) (before : List MemPlace)
    (hval : ∀ (j : Nat) t v, Try.f3.params[j]? = some t → args[j]? = some v → Value.okWide Try.prog W .any base t v)
    (hW : DataW.Whole enc Try.prog Try.f3.params.toList Rows.frameChunksSpec.vars false W args.toList ds gs before) :
    Calls Try.prog 3 args W fun e W' => ∃ v, e = .returned v ∧ Rows.frameChunksSpec.post enc Try.prog Try.f3 false true false false W args v W' := by
  have hW' := hW
  obtain ⟨p, q, hA, hV, rfl, hfz, hnd⟩ := hW'
  obtain ⟨rfl, rfl⟩ := trodVars_none hV
  obtain ⟨avs, hfit, hrel⟩ := args_fit shapes (fun j t v hj hv => hval j t v (by simpa using hj) (by simpa using hv)) hA
  obtain ⟨d0, ds0, c0, vs0, rfl, rfl, f0, rfl, rfl⟩ := hfit
  obtain ⟨parts, rfl, g0⟩ := f0
  obtain ⟨p0, ps0, a0, b0, rfl, rfl, f0, p1, ps1, a1, b1, rfl, rfl, f1, p2, ps2, a2, b2, rfl, rfl, f2, p3, ps3, a3, b3, rfl, rfl, f3, rfl, rfl⟩ := g0
  obtain ⟨n, rfl, _, rfl⟩ := f0
  obtain ⟨bv, b, rfl, hbv, _⟩ := bytes_fit f1
  obtain ⟨atv, l, rfl, hl⟩ := ints_fit f2
  obtain ⟨asks, rfl, _, rfl⟩ := f3
  obtain ⟨m, o, hrun, h', rfl⟩ := run_of_wc (chunk_spec (w := n) (asks := asks) hbv hl)
  refine (am_calls env_ok (fun g cs h => by cases h) mixed (fun g cs h => by cases h) hrel hrun).mono fun e W' ⟨he, hb⟩ => ?_
  subst he
  exact ⟨_, rfl, post_true (tb := 4) laid readable (by kernel_rfl) (by kernel_rfl) rfl rfl hW hb⟩

set_option maxRecDepth 100000 in
theorem lifted (os : Os) (started : os.Started) (H : Type) (enc : TypeId × Value → H) :
    ReturnsInHanded {} Try.checked os 3 .any (Rows.frameChunksSpec.pre6 enc Try.prog Try.f3 Rows.frameChunksRow.domain false) (Rows.frameChunksSpec.post enc Try.prog Try.f3 false true false false) := by
  refine returnsInHanded_of_change (C := Try.checked) own started (by kernel_rfl) Try.func3
    (ChangeSpec.witness6 (enc := enc) (C := Try.checked) false ⟨#[], #[.agg #[.int .i64 0, .slice none 0 0, .slice none 0 0, .int .u64 0]], []⟩ 8 (by kernel_rfl) (by kernel_rfl) (by kernel_rfl) (by kernel_rfl)) ?_
  intro W base args ds gs before hval hW _ _
  exact contract H enc W base args ds gs before hval hW

theorem proved : Rows.FrameChunksSaid :=
  OpenClaim.holds_of_wide 3 Try.f3 rfl rfl rfl rfl rfl rfl rfl ⟨rfl, rfl, rfl, rfl, rfl⟩ rfl rfl rfl rfl rfl (by kernel_rfl) Try.func3 (by kernel_rfl)
    (of_decide_eq_true (by kernel_rfl)) (by unfold Func.isWrapper; first | (rw [if_pos (by decide +kernel)]; kernel_rfl) | (rw [if_neg (by decide +kernel)]; exact ⟨rfl, rfl⟩))
    (fun os started H enc _ => lifted os started H enc)
end Go.Proofs.Ytlggjdneolgkoaa.frameChunks
