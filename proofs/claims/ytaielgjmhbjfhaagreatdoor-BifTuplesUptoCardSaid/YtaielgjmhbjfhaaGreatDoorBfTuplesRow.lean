/-
  BifTuples answers true, where what it reads is of bulk at most 1048576; the tied card.
-/
import Derived.Test.YtaielgjmhbjfhaaGreatDoorBfRowKit
import Derived.Test.YtaielgjmhbjfhaaGreatDoorBfReads
import Derived.Test.YtaielgjmhbjfhaaGreatDoorBfReads2
import Derived.Test.YtaielgjmhbjfhaaGreatDoorBfTup4
set_option linter.unusedVariables false
set_option linter.unusedSimpArgs false
namespace Go.Proofs.YtaielgjmhbjfhaaGreatDoor.bifTuples
open Go.ChangeShapes Go.WideShapes Go.ChangeAt Go.RowKit Go.AM Go.Bf
theorem shapes : R.ShsOk Tryz.prog [gL, gI, gT] Tryz.f10.params.toList := by
  have h : Tryz.f10.params.toList = [34, 2, 36] := by kernel_rfl
  rw [h]
  exact ⟨fun n => (sh_t n).2, sh_i2, fun n => (sh_t n).1, trivial⟩
theorem readable : ∀ t ∈ Tryz.f10.params.toList, Tryz.prog.readableRec t = true ∧ t < Tryz.prog.types.size := by
  have h : (Tryz.f10.params.toList.all fun t => Tryz.prog.readableRec t && decide (t < Tryz.prog.types.size)) = true := by kernel_rfl
  intro t ht
  have := List.all_eq_true.1 h t ht
  simpa using this
set_option maxRecDepth 100000 in
theorem contract (H : Type) (enc : TypeId × Value → H) (W : World) (base : Nat) (args : Array Value) (ds gs : List (DataW H)) (before : List MemPlace)
    (hval : ∀ (j : Nat) t v, Tryz.f10.params[j]? = some t → args[j]? = some v → Value.okWide Tryz.prog W .any base t v)
    (hW : DataW.Whole enc Tryz.prog Tryz.f10.params.toList Rows.bifTuplesSpec.vars false W args.toList ds gs before) (hL : laidMetH Tryz.prog kit.laid W) (hk : Rows.uptoSmall H (ds ++ gs) = true) :
    Calls Tryz.prog 10 args W fun e W' => ∃ v, e = .returned v ∧ Rows.bifTuplesSpec.post enc Tryz.prog Tryz.f10 false true false false W args v W' := by
  have hW' := hW
  obtain ⟨p, q, hA, hV, rfl, hfz, hnd⟩ := hW'
  obtain ⟨rfl, rfl⟩ := trodVars_none hV
  obtain ⟨avs, hfit, hrel⟩ := R.args_fit shapes (fun j t v hj hv => hval j t v (by rw [Array.getElem?_toList] at hj; exact hj) (by rw [Array.getElem?_toList] at hv; exact hv)) hA
  obtain ⟨n0, d0, ds0, c0, vs0, rfl, rfl, f0, n1, d1, ds1, c1, vs1, rfl, rfl, f1, n2, d2, ds2, c2, vs2, rfl, rfl, f2, rfl, rfl⟩ := hfit
  have hbulk : Rows.uptoBulkAll [d0, d1, d2] ≤ 1048576 := of_decide_eq_true hk
  simp only [Rows.uptoBulkAll] at hbulk
  obtain ⟨g, l, el, okl, hl⟩ := terms_of2 f0
  obtain ⟨w, okw, ew⟩ := term_of f2
  have hi : ∃ k : Int, -9223372036854775808 ≤ k ∧ k < 9223372036854775808 ∧ (gI n1).whole c1 = .int .i64 k := by
    cases n1 with
    | zero => exact f1.elim
    | succ n1 =>
      obtain ⟨k, rfl, hwf, rfl⟩ := f1
      have h := wf_i64 hwf
      exact ⟨k, by have := h.1; omega, by have := h.2; omega, rfl⟩
  obtain ⟨k, hk1, hk2, ek⟩ := hi
  rw [el, ek, ew] at hrel
  obtain ⟨m, o, hrun, h', rfl⟩ := run_of_wc (tuples_row (sl_of g l) okl (by omega) hk1 hk2 okw)
  refine (am_calls env_ok kit.glob_refs kit.mixed (kit.glob_rel hL) hrel hrun (kit.started hL)).mono fun e W' ⟨he, hb⟩ => ?_
  subst he
  exact ⟨_, rfl, post_true (tb := 4) kit.laidOut readable (by kernel_rfl) (by kernel_rfl) rfl rfl hW hb⟩
theorem reads (os : Os) {H : Type} (enc : TypeId × Value → H) : ∃ places, DataW.whole enc Tryz.prog ((kit.laidWorld os).forCall (fun _ _ => 0) ⟨#[], #[.slice none 0 0, .int .i64 0, .agg #[.int .i64 0, .int .i64 0, .string ByteArray.empty, .int .u32 0, .slice none 0 0, .slice none 0 0]], []⟩).memory Tryz.f10.params.toList Rows.bifTuplesSpec.vars false (#[.slice none 0 0, .int .i64 0, .agg #[.int .i64 0, .int .i64 0, .string ByteArray.empty, .int .u32 0, .slice none 0 0, .slice none 0 0]] : Array Value).toList 8 = some ([.nil, .lit (.int .i64 0), .agg [.lit (.int .i64 0), .lit (.int .i64 0), .lit (.string []), .lit (.int .u32 0), .nil, .nil]], [], places) :=
  ⟨[], by kernel_rfl⟩
set_option maxRecDepth 100000 in
theorem lifted (os : Os) (started : os.Started) (H : Type) (enc : TypeId × Value → H) (F : Stop.Interp) :
    ReturnsInHanded {} Tryz.checked os 10 .any ((Rows.OpenSpec.upto Rows.bifTuplesSpec).preRow enc Tryz.prog Tryz.f10 Rows.bifTuplesUptoRow.domain false Rows.bifTuplesUptoRow.laid) (((Rows.OpenSpec.upto Rows.bifTuplesSpec).at F).post enc Tryz.prog Tryz.f10 false true false false) := by
  obtain ⟨places, hx⟩ := reads os enc
  refine returnsInHanded_of_row (C := Tryz.checked) (s := (Rows.OpenSpec.upto Rows.bifTuplesSpec)) kit.own started (by kernel_rfl) Tryz.func10
    (witness_row_atRef (enc := enc) (C := Tryz.checked) false (kit.laidWorld os) #[.slice none 0 0, .int .i64 0, .agg #[.int .i64 0, .int .i64 0, .string ByteArray.empty, .int .u32 0, .slice none 0 0, .slice none 0 0]] rfl (by kernel_rfl) (by kernel_rfl) (by kernel_rfl)
      (OpenSpec.preRow_of_cond 8 hx (by kernel_rfl) (fun k hk => by cases hk; kernel_rfl) (by kernel_rfl) (kit.laid_met os _))) ?_
  intro W base args ds gs before hval hW _ hcond _ hL _ _
  exact contract H enc W base args ds gs before hval hW hL (hcond _ rfl)
theorem said : Rows.BifTuplesUptoSaid :=
  OpenClaim.holds_of_cond 10 Tryz.f10 rfl rfl rfl rfl rfl rfl rfl ⟨rfl, rfl, rfl, rfl, rfl⟩ rfl rfl rfl rfl rfl (by kernel_rfl) Tryz.func10 (by kernel_rfl)
    (of_decide_eq_true (by kernel_rfl)) (by unfold Func.isWrapper; first | (rw [if_pos (by decide +kernel)]; kernel_rfl) | (rw [if_neg (by decide +kernel)]; exact ⟨rfl, rfl⟩))
    (fun os started H enc _ F => by rw [OpenClaim.pre_eq_preRow]; exact lifted os started H enc F)
theorem plain (f : FuncId) (fn : Func) (hf : Tryz.pinned.checked.prog.funcNamed "heddle/heddlelaw13.BifTuples" = some f) (hfn : Tryz.pinned.checked.prog.funcs[f]? = some fn) :
    true = Tryz.pinned.checked.prog.looks [] ∧ ∀ (j : Nat) t, fn.params[j]? = some t → Tryz.pinned.checked.prog.wantsStandIn t = false := by
  obtain rfl : f = 10 := Option.some.inj ((show Tryz.prog.funcNamed "heddle/heddlelaw13.BifTuples" = some 10 by kernel_rfl).symm.trans hf) |>.symm
  obtain rfl : fn = Tryz.f10 := (Option.some.inj (Tryz.func10.symm.trans hfn)).symm
  refine ⟨by kernel_rfl, fun j t ht => ?_⟩
  have h : (Tryz.f10.params.toList.all fun t => !(Tryz.prog.wantsStandIn t)) = true := by kernel_rfl
  have := List.all_eq_true.1 h t (by simpa using Array.mem_of_getElem? ht)
  exact (by simpa using this : Tryz.prog.wantsStandIn t = false)
theorem proved : Rows.BifTuplesUptoCardSaid :=
  Claim7.holds_tied_plain_at .later [] _ _ _ _ said (fun _ h => by cases h) (by kernel_rfl) (fun _ h => by cases h) bifTuplesUpto_row_tie rfl ⟨rfl, rfl⟩ (by kernel_rfl) rfl plain (by kernel_rfl)
end Go.Proofs.YtaielgjmhbjfhaaGreatDoor.bifTuples
