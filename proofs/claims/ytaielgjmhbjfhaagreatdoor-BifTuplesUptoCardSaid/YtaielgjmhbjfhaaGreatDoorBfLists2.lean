/-
  BifLists answers true (2): the law.
-/
import Derived.Test.YtaielgjmhbjfhaaGreatDoorBfSame2
import Derived.Test.YtaielgjmhbjfhaaGreatDoorAmD
import Derived.Test.YtaielgjmhbjfhaaGreatDoorBfRUtf2
set_option linter.unusedVariables false
set_option linter.unusedSimpArgs false
set_option maxRecDepth 20000
namespace Go.Bf
open Go.AM
def rlinkAV : WFlt → AV
  | none => .nils
  | some (a, c, none) => .fs true 1 [.str [116, 101, 114, 109], .int .i64 a, .int .i64 c]
  | some (a, c, some (p, d)) => .fs false 2 [.str [116, 101, 114, 109], .int .i64 a, .int .i64 c, .str [97, 116, 111, 109], .int .i64 p, .int .i64 d]
theorem rno_spec (a c : Int) (h : Heap) : WC env 48 [.int .i64 a, .int .i64 c] h (fun o => o = .ret ⟨rlinkAV (some (a, c, none)), h, .none⟩) := wc_run (n := 30) (by kernel_rfl)
theorem rover_spec (a p d : Int) (h : Heap) : WC env 51 [.int .i64 a, rerrAV (some (p, d))] h (fun o => o = .ret ⟨rlinkAV (some (a, d, some (p, d))), h, .none⟩) := wc_run (n := 30) (by kernel_rfl)
theorem eqs_nil : aEq .slice .nils .nils = some true := rfl
theorem eqs_err (e : Int × Int) : aEq .slice (rerrAV (some e)) .nils = some false := rfl
theorem eqs_link (e : Int × Int × Und) : aEq .slice (rlinkAV (some e)) .nils = some false := by
  rcases e with ⟨a, c, _ | ⟨p, d⟩⟩ <;> rfl
theorem row_link (e : Int × Int × Und) : (rlinkAV (some e)).row = some [rlinkAV (some e)] := by
  rcases e with ⟨a, c, _ | ⟨p, d⟩⟩ <;> rfl
theorem noRef_link (x : WFlt) : (rlinkAV x).noRef = true := by
  rcases x with _ | ⟨a, c, _ | ⟨p, d⟩⟩ <;> rfl
section
variable {h : Heap} {i : Nat} {a b c : AV} (hat : h.at_ i 0 = some [a, b, c])
include hat
theorem ld30 : aLoad h false 1 (.ptr i 0 0) = some ⟨a, h, .read⟩ := by simp only [aLoad, hat, Option.bind_some]; rfl
theorem ld31 : aLoad h false 1 (.ptr i 0 1) = some ⟨b, h, .read⟩ := by simp only [aLoad, hat, Option.bind_some]; rfl
theorem ld32 : aLoad h false 1 (.ptr i 0 2) = some ⟨c, h, .read⟩ := by simp only [aLoad, hat, Option.bind_some]; rfl
theorem st30 {k : IntKind} {n : Int} : aStore h 1 (.ptr i 0 0) (.int k n) = some ⟨.undef, h.upd i 0 [.int k n, b, c], .write⟩ := by
  simp only [aStore, hat, Option.bind_some]; rfl
theorem st31 {k : IntKind} {n : Int} : aStore h 1 (.ptr i 0 1) (.int k n) = some ⟨.undef, h.upd i 0 [a, .int k n, c], .write⟩ := by
  simp only [aStore, hat, Option.bind_some]; rfl
theorem st32 (e : Int × Int × Und) : aStore h 1 (.ptr i 0 2) (rlinkAV (some e)) = some ⟨.undef, h.upd i 0 [a, b, rlinkAV (some e)], .write⟩ := by
  simp only [aStore, hat, Option.bind_some, row_link]; rfl
end
def PartEnd (h : Heap) (w : Nat) : WFlt × Nat × Nat → Prop
  | (none, n, d) => h.at_ w 0 = some [.int .i64 n, .int .i64 d, .nils]
  | (some e, _, _) => ∃ N D : AV, h.at_ w 0 = some [N, D, rlinkAV (some e)]
def PartOk (t : Tm) : Prop := ∀ (deep n d w : Nat) (h : Heap), HeapOk h → h.at_ w 0 = some [.int .i64 n, .int .i64 d, .nils] → n ≤ 4096 → deep ≤ 257 → d ≤ 256 →
  ∃ h', HeapOk h' ∧ Chg (fun i => i = w) h h' ∧ PartEnd h' w (walkF t deep n d) ∧ WC env 32 [.ptr w 0 0, .agg (tc t), .int .i64 deep] h (fun o => o = .ret ⟨.tup [], h', .write⟩)
/-- a fault is there: the loop over the parts ends -/
theorem part_stop {ar : List Tm} {af : Option Bool} {w i4 i : Nat} {e : Int × Int × Und} {h : Heap} {N D : AV} (hw : h.at_ w 0 = some [N, D, rlinkAV (some e)]) (l5 : aLoad h false 1 (.ptr i4 0 5) = some ⟨slAV af ar.length (tcs ar), h, .read⟩)
    {σ : Slots} (g0 : σ.get 0 = .ptr w 0 0) (g4 : σ.get 4 = .ptr i4 0 0) (g12 : σ.get 12 = .int .i64 i) {Q : AExit → St → Prop} (hQ : ∀ σ', Q (.exit 1) ⟨σ', h⟩) : WPr env a32_l25 ⟨σ, h⟩ Q := by
  refine wpr_round' fun b hb => ?_
  have nl : ∀ h, aLenOp false h (slAV af ar.length (tcs ar)) = some ⟨.int .i64 ar.length, h, .none⟩ := fun h => len_sl _ _ _ (fun _ => trivial) h
  have l2 := ld32 hw
  by_cases c1 : (i : Int) < (ar.length : Int)
  · have z0 := eq_true c1
    simp only [a32_l25, a32_22, wpo_u, wpc_draw, s3, reduceIte, Nat.reduceEqDiff, aBin, aInt, negIf, Option.some.injEq, exists_eq_left', Option.map_some, Option.bind_some, g0, g4, g12, aFieldAddr, Nat.zero_add, aNil_ptr, l5, l2, nl, z0, eqs_link, aPick]
    exact hQ _
  · have z0 := eq_false c1
    simp only [a32_l25, a32_22, wpo_u, wpc_draw, s3, reduceIte, Nat.reduceEqDiff, aBin, aInt, negIf, Option.some.injEq, exists_eq_left', Option.map_some, Option.bind_some, g0, g4, g12, aFieldAddr, Nat.zero_add, aNil_ptr, l5, l2, nl, z0, eqs_link, aPick]
    exact hQ _
theorem part_loop {ar : List Tm} (hP : ∀ t, t ∈ ar → PartOk t) (hlen : ar.length < 9223372036854775808) {af : Option Bool} {w i4 deep : Nat} (hne : i4 ≠ w) {k0 k1 k2 k3 k4 : AV} (hdeep : deep ≤ 256) {Q : AExit → St → Prop} :
    ∀ (f i : Nat) (σ : Slots) (h : Heap) (n d : Nat), ar.length - i < f → i ≤ ar.length → HeapOk h → h.at_ w 0 = some [.int .i64 n, .int .i64 d, .nils] → h.at_ i4 0 = some [k0, k1, k2, k3, k4, slAV af ar.length (tcs ar)] → n ≤ 4096 → d ≤ 256 →
    σ.get 0 = .ptr w 0 0 → σ.get 2 = .int .i64 deep → σ.get 4 = .ptr i4 0 0 → σ.get 12 = .int .i64 i →
    (∀ σ' h', HeapOk h' → Chg (fun i => i = w) h h' → PartEnd h' w (walkFs (ar.drop i) (deep + 1) n d) → Q (.exit 1) ⟨σ', h'⟩) →
    WPr env a32_l25 ⟨σ, h⟩ Q := by
  intro f
  induction f with
  | zero => intro i σ h n d h1; omega
  | succ f ih =>
    intro i σ h n d hf hi ho hw h4 hn hd g0 g2 g4 g12 hQ
    refine wpr_round' fun b hb => ?_
    have nl : ∀ h, aLenOp false h (slAV af ar.length (tcs ar)) = some ⟨.int .i64 ar.length, h, .none⟩ := fun h => len_sl _ _ _ (fun _ => trivial) h
    have l2 := ld32 hw
    have l5 := ld65 h4
    by_cases c1 : i < ar.length
    · have z0 : ((i : Int) < (ar.length : Int)) = True := eq_true (by omega)
      have zi : IntKind.wrap .i64 ((i : Int) + 1) = ((i + 1 : Nat) : Int) := wrap_nat (by omega) (by omega)
      have zd : IntKind.wrap .i64 ((deep : Int) + 1) = ((deep + 1 : Nat) : Int) := wrap_nat (by omega) (by omega)
      have lx := idx_args (f := af) c1
      have ld := ld_args c1 h
      obtain ⟨t, et⟩ : ∃ t, t = ar[i] := ⟨_, rfl⟩
      have hd' : ar.drop i = t :: ar.drop (i + 1) := by rw [et]; exact List.drop_eq_getElem_cons c1
      rw [← et] at ld
      obtain ⟨h3, ho3, ch3, hw3, wc3⟩ := hP t (by rw [et]; exact List.getElem_mem c1) (deep + 1) n d w h ho hw hn (by omega) hd
      have bd := walk_le t (deep + 1) n d hn hd
      rw [hd', walkFs] at hQ
      have h43 := ch3.2 _ _ _ hne h4
      simp only [a32_l25, a32_22, a32_23, a32_24, wpo_u, wpc_draw, s3, reduceIte, Nat.reduceEqDiff, aBin, aInt, negIf, Option.some.injEq, exists_eq_left', Option.map_some, Option.bind_some, g0, g2, g4, g12, aFieldAddr, Nat.zero_add, aNil_ptr, l5, l2, nl, z0, eqs_nil, aPick, lx, ld, zd, wc_eq wc3, zi]
      cases e : (walkF t (deep + 1) n d) with
      | mk r nd =>
        obtain ⟨n', d'⟩ := nd
        rw [e] at hQ hw3 bd
        subst hb
        cases r with
        | none =>
          refine ih (i + 1) _ h3 n' d' (by omega) (by omega) ho3 hw3 h43 bd.1 bd.2 ?_ ?_ ?_ ?_ fun σ' h' q1 q2 q3 => hQ σ' h' q1 (ch3.trans q2) q3
          · simp only [get_put, reduceIte, Nat.reduceEqDiff, g0]
          · simp only [get_put, reduceIte, Nat.reduceEqDiff, g2]
          · simp only [get_put, reduceIte, Nat.reduceEqDiff, g4]
          · simp only [get_put, reduceIte, Nat.reduceEqDiff]
        | some er =>
          obtain ⟨N, D, hw3'⟩ := hw3
          refine part_stop (ar := ar) (af := af) (i := i + 1) (e := er) hw3' (ld65 h43) ?_ ?_ ?_ fun σ' => hQ σ' h3 ho3 ch3 ⟨N, D, hw3'⟩
          · simp only [get_put, reduceIte, Nat.reduceEqDiff, g0]
          · simp only [get_put, reduceIte, Nat.reduceEqDiff, g4]
          · simp only [get_put, reduceIte, Nat.reduceEqDiff]
    · have z0 : ((i : Int) < (ar.length : Int)) = False := eq_false (by omega)
      rw [List.drop_of_length_le (show ar.length ≤ i by omega), walkFs] at hQ
      simp only [a32_l25, a32_22, wpo_u, wpc_draw, s3, reduceIte, Nat.reduceEqDiff, aBin, aInt, negIf, Option.some.injEq, exists_eq_left', Option.map_some, Option.bind_some, g0, g4, g12, aFieldAddr, Nat.zero_add, aNil_ptr, l5, l2, nl, z0, aPick]
      exact hQ _ h ho Chg.refl hw
set_option maxHeartbeats 4000000 in
theorem part_ok : ∀ t : Tm, t.Ok → PartOk t := by
  refine tm_ind fun k i s c nf ns af ar ih ok deep n d w h ho hw hn hdeep hd => ?_
  obtain ⟨ss, sn, sa, sr⟩ := ok.lens
  have hP : ∀ t, t ∈ ar → PartOk t := fun t m => ih t m (sr.get m)
  obtain ⟨t, et⟩ : ∃ t : Tm, t = .mk k i s c nf ns af ar := ⟨_, rfl⟩
  rw [← et] at ok ⊢
  obtain ⟨cs, ec⟩ : ∃ cs, cs = tc t := ⟨_, rfl⟩
  have ec' : cs = [.int .i64 k, .int .i64 i, .str s, .int .u32 c, slAV nf ns.length (u32s ns), slAV af ar.length (tcs ar)] := by rw [ec, et]; rfl
  have iw := ho.lt hw
  obtain ⟨i4, e4⟩ : ∃ i4, i4 = h.next := ⟨_, rfl⟩
  have hne : i4 ≠ w := by omega
  obtain ⟨h1, eh1⟩ : ∃ h1, h1 = h.new cs := ⟨_, rfl⟩
  have ho1 : HeapOk h1 := by rw [eh1]; exact ho.new _
  have le1 : h.le h1 := by rw [eh1]; exact le_new ho _
  have a1 : h1.at_ i4 0 = some cs := by rw [eh1, e4]; exact at_new _
  rw [ec'] at a1
  have aw1 := le1.2 _ _ _ hw
  have y1 : (AV.agg cs).row = some cs := rfl
  have y2 : cs.length = 6 := by rw [ec']; rfl
  have l0 := ld30 aw1
  have l2 := ld32 aw1
  rw [← ec]
  have ef : walkF t deep n d = if n = 4096 then (some ((n : Int), 5, none), n, d)
    else if deep > 256 then (some ((n : Int), 9, none), n, d)
    else match formF t with
      | some (c, u) => (some ((n : Int), c, u), n, d)
      | none => walkFs ar (deep + 1) (n + 1) (max d deep) := by rw [et, walkF]; try rfl
  obtain ⟨h2, eh2⟩ : ∃ h2, h2 = h1.upd w 0 [.int .i64 ((n + 1 : Nat) : Int), .int .i64 d, .nils] := ⟨_, rfl⟩
  have ho2 : HeapOk h2 := by rw [eh2]; exact ho1.upd (at_look.1 aw1) _ _
  have aw2 : h2.at_ w 0 = some [.int .i64 ((n + 1 : Nat) : Int), .int .i64 d, .nils] := by rw [eh2]; exact at_upd
  have a2 : h2.at_ i4 0 = some [.int .i64 k, .int .i64 i, .str s, .int .u32 c, slAV nf ns.length (u32s ns), slAV af ar.length (tcs ar)] := by rw [eh2, at_upd_ne hne]; exact a1
  obtain ⟨h3, eh3⟩ : ∃ h3, h3 = h2.upd w 0 [.int .i64 ((n + 1 : Nat) : Int), .int .i64 ((max d deep : Nat) : Int), .nils] := ⟨_, rfl⟩
  have ho3 : HeapOk h3 := by rw [eh3]; exact ho2.upd (at_look.1 aw2) _ _
  have aw3 : h3.at_ w 0 = some [.int .i64 ((n + 1 : Nat) : Int), .int .i64 ((max d deep : Nat) : Int), .nils] := by rw [eh3]; exact at_upd
  have a3 : h3.at_ i4 0 = some [.int .i64 k, .int .i64 i, .str s, .int .u32 c, slAV nf ns.length (u32s ns), slAV af ar.length (tcs ar)] := by rw [eh3, at_upd_ne hne]; exact a2
  have s1 : aStore h1 1 (.ptr w 0 0) (.int .i64 ((n + 1 : Nat) : Int)) = some ⟨.undef, h2, .write⟩ := by rw [eh2]; exact st30 aw1
  have l1 := ld31 aw2
  have s2 : aStore h2 1 (.ptr w 0 1) (.int .i64 ((max d deep : Nat) : Int)) = some ⟨.undef, h3, .write⟩ := by rw [eh3]; exact st31 aw2
  have q0 := ld60 a3
  have q1 := ld61 a3
  have q2 := ld62 a3
  have q6 : aLoad h3 true 6 (.ptr i4 0 0) = some ⟨.agg cs, h3, .read⟩ := by rw [ec']; exact ld6 a3
  have zn : IntKind.wrap .i64 ((n : Int) + 1) = ((n + 1 : Nat) : Int) := wrap_nat (by omega) (by omega)
  have zm : aMinMax true (.int .i64 d) (.int .i64 deep) = some (.int .i64 ((max d deep : Nat) : Int)) := by
    show some (AV.int .i64 (if (d : Int) < deep then (deep : Int) else d)) = _
    split
    · rw [Nat.max_eq_right (by omega)]
    · rw [Nat.max_eq_left (by omega)]
  have ch : Chg (fun i => i = w) h h3 := by
    refine (le1.chg (S := fun i => i = w)).trans ?_
    rw [eh3, eh2]
    exact (upd_chg (S := fun i => i = w) rfl).trans (upd_chg (S := fun i => i = w) rfl)
  have hrun : WC env 32 [.ptr w 0 0, .agg cs, .int .i64 deep] h (fun o => ∃ h', o = .ret ⟨.tup [], h', .write⟩ ∧ HeapOk h' ∧ Chg (fun i => i = w) h h' ∧ PartEnd h' w (walkF t deep n d)) := by
    refine call_body rfl rfl (.inr (by simp only [AV.noRefs, AV.noRef, Bool.false_and])) ?_
    -- a fault is set: the end
    have stop : ∀ (e : Int × Int × Und) (n' d' : Nat), walkF t deep n d = (some e, n', d') → ∀ σ : Slots, σ.get 0 = .ptr w 0 0 → σ.get 4 = .ptr i4 0 0 → wpo env a32_21 ⟨σ, h3.upd w 0 [.int .i64 ((n + 1 : Nat) : Int), .int .i64 ((max d deep : Nat) : Int), rlinkAV (some e)]⟩ (seqQ env (.block 1 (.loop a32_l25)) (retQ env [] (fun o => ∃ h', o = .ret ⟨.tup [], h', .write⟩ ∧ HeapOk h' ∧ Chg (fun i => i = w) h h' ∧ PartEnd h' w (walkF t deep n d)))) := by
      intro e n' d' he σ g0 g4
      have a4 : (h3.upd w 0 [.int .i64 ((n + 1 : Nat) : Int), .int .i64 ((max d deep : Nat) : Int), rlinkAV (some e)]).at_ i4 0 = some [.int .i64 k, .int .i64 i, .str s, .int .u32 c, slAV nf ns.length (u32s ns), slAV af ar.length (tcs ar)] := by rw [at_upd_ne hne]; exact a3
      simp only [a32_21, wpc_draw, s3, reduceIte, Nat.reduceEqDiff, aBin, aInt, negIf, Option.some.injEq, exists_eq_left', Option.map_some, Option.bind_some]
      refine part_stop (ar := ar) (af := af) (i := 0) (e := e) at_upd (ld65 a4) ?_ ?_ ?_ fun σ' => ?_
      · simp only [get_put, reduceIte, Nat.reduceEqDiff, g0]
      · simp only [get_put, reduceIte, Nat.reduceEqDiff, g4]
      · simp only [get_put, reduceIte, Nat.reduceEqDiff]; rfl
      simp only [wpc_draw, s3, reduceIte, Nat.reduceEqDiff, aBin, aInt, negIf, Option.some.injEq, exists_eq_left', Option.map_some, Option.bind_some]
      exact ⟨[], rfl, _, rfl, ho3.upd (at_look.1 aw3) _ _, ch.trans (upd_chg (S := fun i => i = w) rfl), by rw [he]; exact ⟨_, _, at_upd⟩⟩
    have eb : a32.body = (.seq (.ops a32_0) (.seq (.seq (.ops a32_1) (.cond (.t 17) .ret .skip)) (.seq (.ops a32_2) (.seq (.ops a32_3) (.seq (.ops a32_4) (.seq (.block 0 (.seq (.ops a32_5) (.cond (.t 38) (.ops a32_6) (.seq (.ops a32_7) (.cond (.t 46) (.ops a32_8) (.seq (.ops a32_9) (.cond (.t 54) (.ops a32_10) (.seq (.ops a32_11) (.cond (.t 63) (.ops a32_12) (.seq (.ops a32_13) (.cond (.t 82) (.seq (.ops a32_14) (.seq (.ops a32_15) (.cond (.t 93) (.ops a32_16) .skip))) (.seq (.ops a32_17) (.cond (.t 100) (.seq (.ops a32_18) (.seq (.ops a32_19) (.cond (.t 117) (.ops a32_20) .skip))) .skip))))))))))))) (.seq (.ops a32_21) (.block 1 (.loop a32_l25))))))))) := rfl
    have er : a32.results = [] := rfl
    obtain ⟨L, eL⟩ : ∃ L, L = AC.block 1 (.loop a32_l25) := ⟨_, rfl⟩
    rw [← eL] at stop eb
    rw [eb, er]
    have s3' : ∀ e, aStore h3 1 (.ptr w 0 2) (rlinkAV (some e)) = some ⟨.undef, h3.upd w 0 [.int .i64 ((n + 1 : Nat) : Int), .int .i64 ((max d deep : Nat) : Int), rlinkAV (some e)], .write⟩ := fun e => st32 aw3 e
    have none_set : ∀ (x y : Int), True := fun _ _ => trivial
    by_cases c1 : n = 4096
    · have z : ((n : Int) ≥ 4096) = True := eq_true (by omega)
      have e1 : walkF t deep n d = (some ((n : Int), 5, none), n, d) := by rw [ef, if_pos c1]
      simp only [a32_0, a32_1, a32_2, a32_3, a32_4, a32_5, a32_6, Slots.ofList, wpc_draw, s3, reduceIte, Nat.reduceEqDiff, aBin, aInt, negIf, Option.some.injEq, exists_eq_left', Option.map_some, Option.bind_some, wp1_minmax, op_minmax, y1, y2, ← eh1, ← e4, aNil_ptr, aFieldAddr, Nat.zero_add, l0, l2, eqs_nil, Bool.not_true, zn, s1, l1, zm, s2, z, wc_eq (rno_spec _ _ _), s3']
      exact stop _ _ _ e1 _ (by simp only [get_put, reduceIte, Nat.reduceEqDiff]) (by simp only [get_put, reduceIte, Nat.reduceEqDiff])
    have z : ((n : Int) ≥ 4096) = False := eq_false (by omega)
    by_cases c2 : deep > 256
    · have z2 : ((deep : Int) > 256) = True := eq_true (by omega)
      have e1 : walkF t deep n d = (some ((n : Int), 9, none), n, d) := by rw [ef, if_neg c1, if_pos c2]
      simp only [a32_0, a32_1, a32_2, a32_3, a32_4, a32_5, a32_7, a32_8, Slots.ofList, wpc_draw, s3, reduceIte, Nat.reduceEqDiff, aBin, aInt, negIf, Option.some.injEq, exists_eq_left', Option.map_some, Option.bind_some, wp1_minmax, op_minmax, y1, y2, ← eh1, ← e4, aNil_ptr, aFieldAddr, Nat.zero_add, l0, l2, eqs_nil, Bool.not_true, zn, s1, l1, zm, s2, z, z2, wc_eq (rno_spec _ _ _), s3']
      exact stop _ _ _ e1 _ (by simp only [get_put, reduceIte, Nat.reduceEqDiff]) (by simp only [get_put, reduceIte, Nat.reduceEqDiff])
    have z2 : ((deep : Int) > 256) = False := eq_false (by omega)
    have wf : ∀ h, WC env 49 [.agg cs] h (fun o => o = .ret ⟨.bool (kindOk t), h, .none⟩) := fun h => by rw [ec]; exact rform_spec t ok h
    have ff : formF t = if kindOk t = false then some (40, none) else if k = 1 then if i < -576460752303423488 ∨ i > 576460752303423487 then some (2, none) else none else if k = 2 then (match quoteErr s with | some (p, c) => some (c, some (p, c)) | none => none) else if k = 3 ∨ k = 4 then if nodeF s then none else some (24, some (0, 24)) else none := by rw [et, formF]; rfl
    have eo : ∀ cd u, formF t = some (cd, u) → walkF t deep n d = (some ((n : Int), cd, u), n, d) := fun cd u e => by rw [ef, if_neg c1, if_neg c2, e]
    cases c3 : kindOk t with
    | false =>
      have wf : ∀ h, WC env 49 [.agg cs] h (fun o => o = .ret ⟨.bool false, h, .none⟩) := fun h => by have := wf h; rw [c3] at this; exact this
      have e1 := eo 40 none (by rw [ff, if_pos c3])
      simp only [a32_0, a32_1, a32_2, a32_3, a32_4, a32_5, a32_7, a32_9, a32_10, Slots.ofList, wpc_draw, s3, reduceIte, Nat.reduceEqDiff, aBin, aInt, negIf, Option.some.injEq, exists_eq_left', Option.map_some, Option.bind_some, wp1_minmax, op_minmax, y1, y2, ← eh1, ← e4, aNil_ptr, aFieldAddr, Nat.zero_add, l0, l2, eqs_nil, Bool.not_true, zn, s1, l1, zm, s2, z, z2, q6, wc_eq (wf _), aUn, Bool.not_false, wc_eq (rno_spec _ _ _), s3']
      exact stop _ _ _ e1 _ (by simp only [get_put, reduceIte, Nat.reduceEqDiff]) (by simp only [get_put, reduceIte, Nat.reduceEqDiff])
    | true =>
    have wf : ∀ h, WC env 49 [.agg cs] h (fun o => o = .ret ⟨.bool true, h, .none⟩) := fun h => by have := wf h; rw [c3] at this; exact this
    rw [if_neg (by rw [c3]; decide)] at ff
    -- no fault here: on to the parts
    have goon : formF t = none → ∀ σ : Slots, σ.get 0 = .ptr w 0 0 → σ.get 2 = .int .i64 deep → σ.get 4 = .ptr i4 0 0 → wpo env a32_21 ⟨σ, h3⟩ (seqQ env L (retQ env [] (fun o => ∃ h', o = .ret ⟨.tup [], h', .write⟩ ∧ HeapOk h' ∧ Chg (fun i => i = w) h h' ∧ PartEnd h' w (walkF t deep n d)))) := by
      intro e σ g0 g2 g4
      have e1 : walkF t deep n d = walkFs ar (deep + 1) (n + 1) (max d deep) := by rw [ef, if_neg c1, if_neg c2, e]
      rw [e1, eL]
      simp only [a32_21, wpc_draw, s3, reduceIte, Nat.reduceEqDiff, aBin, aInt, negIf, Option.some.injEq, exists_eq_left', Option.map_some, Option.bind_some]
      refine part_loop (ar := ar) hP sa (af := af) (w := w) (i4 := i4) (deep := deep) hne (by omega) (ar.length + 1) 0 _ h3 (n + 1) (max d deep) (by omega) (by omega) ho3 aw3 a3 (by omega) (by omega) ?_ ?_ ?_ ?_ fun σ' h' p1 p2 p3 => ?_
      · simp only [get_put, reduceIte, Nat.reduceEqDiff, g0]
      · simp only [get_put, reduceIte, Nat.reduceEqDiff, g2]
      · simp only [get_put, reduceIte, Nat.reduceEqDiff, g4]
      · simp only [get_put, reduceIte, Nat.reduceEqDiff]; rfl
      rw [List.drop_zero] at p3
      simp only [wpc_draw, s3, reduceIte, Nat.reduceEqDiff, aBin, aInt, negIf, Option.some.injEq, exists_eq_left', Option.map_some, Option.bind_some]
      exact ⟨[], rfl, h', rfl, p1, ch.trans p2, p3⟩
    by_cases k1 : k = 1
    · have y5 : (k == 1) = true := by simp [k1]
      rw [if_pos k1] at ff
      by_cases b1 : i < -576460752303423488
      · have z3 : (i < -576460752303423488) = True := eq_true b1
        have e1 := eo 2 none (by rw [ff, if_pos (.inl b1)])
        simp only [a32_0, a32_1, a32_2, a32_3, a32_4, a32_5, a32_7, a32_9, a32_11, a32_12, Slots.ofList, wpo_u, wpc_draw, s3, reduceIte, Nat.reduceEqDiff, aBin, aInt, negIf, Option.some.injEq, exists_eq_left', Option.map_some, Option.bind_some, wp1_minmax, op_minmax, y1, y2, ← eh1, ← e4, aNil_ptr, aFieldAddr, Nat.zero_add, l0, l2, eqs_nil, Bool.not_true, zn, s1, l1, zm, s2, z, z2, q0, q1, q6, wc_eq (wf _), aUn, aPick, y5, z3, wc_eq (rno_spec _ _ _), s3']
        exact stop _ _ _ e1 _ (by simp only [get_put, reduceIte, Nat.reduceEqDiff]) (by simp only [get_put, reduceIte, Nat.reduceEqDiff])
      have z3 : (i < -576460752303423488) = False := eq_false b1
      by_cases b2 : i > 576460752303423487
      · have z4 : (i > 576460752303423487) = True := eq_true b2
        have e1 := eo 2 none (by rw [ff, if_pos (.inr b2)])
        simp only [a32_0, a32_1, a32_2, a32_3, a32_4, a32_5, a32_7, a32_9, a32_11, a32_12, Slots.ofList, wpo_u, wpc_draw, s3, reduceIte, Nat.reduceEqDiff, aBin, aInt, negIf, Option.some.injEq, exists_eq_left', Option.map_some, Option.bind_some, wp1_minmax, op_minmax, y1, y2, ← eh1, ← e4, aNil_ptr, aFieldAddr, Nat.zero_add, l0, l2, eqs_nil, Bool.not_true, zn, s1, l1, zm, s2, z, z2, q0, q1, q6, wc_eq (wf _), aUn, aPick, y5, z3, z4, wc_eq (rno_spec _ _ _), s3']
        exact stop _ _ _ e1 _ (by simp only [get_put, reduceIte, Nat.reduceEqDiff]) (by simp only [get_put, reduceIte, Nat.reduceEqDiff])
      have z4 : (i > 576460752303423487) = False := eq_false b2
      rw [if_neg (by rintro (h | h); exact b1 h; exact b2 h)] at ff
      have y6 : (k == 2) = false := by simp; omega
      have y7 : (k == 3) = false := by simp; omega
      have y8 : (k == 4) = false := by simp; omega
      simp only [a32_0, a32_1, a32_2, a32_3, a32_4, a32_5, a32_7, a32_9, a32_11, a32_13, a32_17, Slots.ofList, wpo_u, wpc_draw, s3, reduceIte, Nat.reduceEqDiff, aBin, aInt, negIf, Option.some.injEq, exists_eq_left', Option.map_some, Option.bind_some, wp1_minmax, op_minmax, y1, y2, ← eh1, ← e4, aNil_ptr, aFieldAddr, Nat.zero_add, l0, l2, eqs_nil, Bool.not_true, zn, s1, l1, zm, s2, z, z2, q0, q1, q6, wc_eq (wf _), aUn, aPick, y5, y6, y7, y8, z3, z4]
      exact goon ff _ (by simp only [get_put, reduceIte, Nat.reduceEqDiff]) (by simp only [get_put, reduceIte, Nat.reduceEqDiff]) (by simp only [get_put, reduceIte, Nat.reduceEqDiff])
    have y5 : (k == 1) = false := by simpa using k1
    rw [if_neg k1] at ff
    by_cases k2 : k = 2
    · have y6 : (k == 2) = true := by simp [k2]
      have y7 : (k == 3) = false := by simp; omega
      have y8 : (k == 4) = false := by simp; omega
      rw [if_pos k2] at ff
      obtain ⟨q, wq⟩ := wc_ex (rquote_spec s h3)
      cases eq : quoteErr s with
      | some pc =>
        obtain ⟨pp, cc⟩ := pc
        rw [eq] at wq ff
        have e1 := eo cc (some (pp, cc)) ff
        simp only [a32_0, a32_1, a32_2, a32_3, a32_4, a32_5, a32_7, a32_9, a32_11, a32_13, a32_14, a32_15, a32_16, Slots.ofList, wpo_u, wpc_draw, s3, reduceIte, Nat.reduceEqDiff, aBin, aInt, negIf, Option.some.injEq, exists_eq_left', Option.map_some, Option.bind_some, wp1_minmax, op_minmax, y1, y2, ← eh1, ← e4, aNil_ptr, aFieldAddr, Nat.zero_add, l0, l2, eqs_nil, Bool.not_true, zn, s1, l1, zm, s2, z, z2, q0, q1, q2, q6, wc_eq (wf _), aUn, aPick, y5, y6, wc_eq wq, aExtract, ex0, ex1, eqs_err, Bool.not_false, wc_eq (rover_spec _ _ _ _), s3']
        exact stop _ _ _ e1 _ (by simp only [get_put, reduceIte, Nat.reduceEqDiff]) (by simp only [get_put, reduceIte, Nat.reduceEqDiff])
      | none =>
        rw [eq] at wq ff
        have wq : WC env 50 [.str s] h3 (fun o => o = .ret ⟨.tup [.str q, .nils], h3, .none⟩) := wq
        simp only [a32_0, a32_1, a32_2, a32_3, a32_4, a32_5, a32_7, a32_9, a32_11, a32_13, a32_14, a32_15, Slots.ofList, wpo_u, wpc_draw, s3, reduceIte, Nat.reduceEqDiff, aBin, aInt, negIf, Option.some.injEq, exists_eq_left', Option.map_some, Option.bind_some, wp1_minmax, op_minmax, y1, y2, ← eh1, ← e4, aNil_ptr, aFieldAddr, Nat.zero_add, l0, l2, eqs_nil, Bool.not_true, zn, s1, l1, zm, s2, z, z2, q0, q1, q2, q6, wc_eq (wf _), aUn, aPick, y5, y6, wc_eq wq, aExtract, ex0, ex1]
        exact goon ff _ (by simp only [get_put, reduceIte, Nat.reduceEqDiff]) (by simp only [get_put, reduceIte, Nat.reduceEqDiff]) (by simp only [get_put, reduceIte, Nat.reduceEqDiff])
    have y6 : (k == 2) = false := by simpa using k2
    rw [if_neg k2] at ff
    by_cases k34 : k = 3 ∨ k = 4
    case neg =>
      have y7 : (k == 3) = false := by simp; omega
      have y8 : (k == 4) = false := by simp; omega
      rw [if_neg k34] at ff
      simp only [a32_0, a32_1, a32_2, a32_3, a32_4, a32_5, a32_7, a32_9, a32_11, a32_13, a32_17, Slots.ofList, wpo_u, wpc_draw, s3, reduceIte, Nat.reduceEqDiff, aBin, aInt, negIf, Option.some.injEq, exists_eq_left', Option.map_some, Option.bind_some, wp1_minmax, op_minmax, y1, y2, ← eh1, ← e4, aNil_ptr, aFieldAddr, Nat.zero_add, l0, l2, eqs_nil, Bool.not_true, zn, s1, l1, zm, s2, z, z2, q0, q1, q6, wc_eq (wf _), aUn, aPick, y5, y6, y7, y8]
      exact goon ff _ (by simp only [get_put, reduceIte, Nat.reduceEqDiff]) (by simp only [get_put, reduceIte, Nat.reduceEqDiff]) (by simp only [get_put, reduceIte, Nat.reduceEqDiff])
    rw [if_pos k34] at ff
    obtain ⟨n1, n2, wq⟩ := wc_ex2 (rnode_spec s ss h3)
    have last : ∀ (σ : Slots), σ.get 0 = .ptr w 0 0 → σ.get 2 = .int .i64 deep → σ.get 4 = .ptr i4 0 0 → σ.get 6 = .int .i64 n → wpo env a32_18 ⟨σ, h3⟩ (seqQ env (.seq (.ops a32_19) (.cond (.t 117) (.ops a32_20) .skip)) (blockQ' 0 (seqQ env (.seq (.ops a32_21) L) (retQ env [] (fun o => ∃ h', o = .ret ⟨.tup [], h', .write⟩ ∧ HeapOk h' ∧ Chg (fun i => i = w) h h' ∧ PartEnd h' w (walkF t deep n d)))))) := by
      intro σ g0 g2 g4 g6
      cases eq : nodeF s with
      | true =>
        rw [eq, if_pos rfl] at wq ff
        have wq : WC env 52 [.str s] h3 (fun o => o = .ret ⟨.tup [.str n1, .str n2, .nils], h3, .none⟩) := wq
        simp only [a32_18, a32_19, wpc_draw, s3, reduceIte, Nat.reduceEqDiff, aBin, aInt, negIf, Option.some.injEq, exists_eq_left', Option.map_some, Option.bind_some, g0, g4, aFieldAddr, Nat.zero_add, q2, wc_eq wq, aExtract, x30, x31, x32, eqs_nil, Bool.not_true]
        exact goon ff _ (by simp only [get_put, reduceIte, Nat.reduceEqDiff, g0]) (by simp only [get_put, reduceIte, Nat.reduceEqDiff, g2]) (by simp only [get_put, reduceIte, Nat.reduceEqDiff, g4])
      | false =>
        rw [eq, if_neg (by decide)] at wq ff
        have e1 := eo 24 (some (0, 24)) ff
        simp only [a32_18, a32_19, a32_20, wpc_draw, s3, reduceIte, Nat.reduceEqDiff, aBin, aInt, negIf, Option.some.injEq, exists_eq_left', Option.map_some, Option.bind_some, g0, g4, g6, aNil_ptr, aFieldAddr, Nat.zero_add, q2, wc_eq wq, aExtract, x30, x31, x32, eqs_err, Bool.not_false, wc_eq (rover_spec _ _ _ _), s3']
        exact stop _ _ _ e1 _ (by simp only [get_put, reduceIte, Nat.reduceEqDiff, g0]) (by simp only [get_put, reduceIte, Nat.reduceEqDiff, g4])
    by_cases kk3 : k = 3
    · have y7 : (k == 3) = true := by simp [kk3]
      simp only [a32_0, a32_1, a32_2, a32_3, a32_4, a32_5, a32_7, a32_9, a32_11, a32_13, a32_17, Slots.ofList, wpo_u, wpc_draw, s3, reduceIte, Nat.reduceEqDiff, aBin, aInt, negIf, Option.some.injEq, exists_eq_left', Option.map_some, Option.bind_some, wp1_minmax, op_minmax, y1, y2, ← eh1, ← e4, aNil_ptr, aFieldAddr, Nat.zero_add, l0, l2, eqs_nil, Bool.not_true, zn, s1, l1, zm, s2, z, z2, q0, q1, q6, wc_eq (wf _), aUn, aPick, y5, y6, y7]
      exact last _ (by simp only [get_put, reduceIte, Nat.reduceEqDiff]) (by simp only [get_put, reduceIte, Nat.reduceEqDiff]) (by simp only [get_put, reduceIte, Nat.reduceEqDiff]) (by simp only [get_put, reduceIte, Nat.reduceEqDiff])
    · have y7 : (k == 3) = false := by simpa using kk3
      have y8 : (k == 4) = true := by simp; omega
      simp only [a32_0, a32_1, a32_2, a32_3, a32_4, a32_5, a32_7, a32_9, a32_11, a32_13, a32_17, Slots.ofList, wpo_u, wpc_draw, s3, reduceIte, Nat.reduceEqDiff, aBin, aInt, negIf, Option.some.injEq, exists_eq_left', Option.map_some, Option.bind_some, wp1_minmax, op_minmax, y1, y2, ← eh1, ← e4, aNil_ptr, aFieldAddr, Nat.zero_add, l0, l2, eqs_nil, Bool.not_true, zn, s1, l1, zm, s2, z, z2, q0, q1, q6, wc_eq (wf _), aUn, aPick, y5, y6, y7, y8]
      exact last _ (by simp only [get_put, reduceIte, Nat.reduceEqDiff]) (by simp only [get_put, reduceIte, Nat.reduceEqDiff]) (by simp only [get_put, reduceIte, Nat.reduceEqDiff]) (by simp only [get_put, reduceIte, Nat.reduceEqDiff])
  obtain ⟨o, hr, h', ho', p1, p2, p3⟩ := hrun
  exact ⟨h', p1, p2, p3, o, hr, ho'⟩
theorem rcheck_spec (t : Tm) (ok : t.Ok) (h : Heap) : WC env 16 [.agg (tc t)] h (fun o => o = .ret ⟨rlinkAV (chkF t), h, .none⟩) := by
  refine call_pure rfl rfl rfl (by simp only [AV.noRefs, AV.noRef, noRef_tc, Bool.and_self]) ?_
  obtain ⟨h1, eh1⟩ : ∃ h1, h1 = Heap.empty.new (tc t) := ⟨_, rfl⟩
  have ho1 : HeapOk h1 := by rw [eh1]; exact HeapOk.empty.new _
  have a1 : h1.at_ Heap.empty.next 0 = some (tc t) := by rw [eh1]; exact at_new _
  obtain ⟨h2, eh2⟩ : ∃ h2, h2 = h1.new [.int .i64 0, .int .i64 0, .nils] := ⟨_, rfl⟩
  have ho2 : HeapOk h2 := by rw [eh2]; exact ho1.new _
  have a2 : h2.at_ Heap.empty.next 0 = some (tc t) := by rw [eh2]; exact (le_new ho1 _).2 _ _ _ a1
  have aw2 : h2.at_ h1.next 0 = some [.int .i64 ((0 : Nat) : Int), .int .i64 ((0 : Nat) : Int), .nils] := by rw [eh2]; exact at_new _
  obtain ⟨h3, ho3, ch3, aw3, w3⟩ := part_ok t ok 1 0 0 _ h2 ho2 aw2 (by omega) (by omega) (by omega)
  have w3 : WC env 32 [.ptr h1.next 0 0, .agg (tc t), .int .i64 1] h2 (fun o => o = .ret ⟨.tup [], h3, .write⟩) := w3
  have y1 : (AV.agg (tc t)).row = some (tc t) := rfl
  have y2 : (tc t).length = 6 := tc_length t
  have y3 : aFill [.int .i64 0, .int .i64 0, .nils] [] = some [.int .i64 0, .int .i64 0, .nils] := rfl
  have y4 : (AV.agg [.int .i64 0, .int .i64 0, .nils]).row = some [.int .i64 0, .int .i64 0, .nils] := rfl
  have y5 : ([AV.int .i64 0, .int .i64 0, .nils] : List AV).length = 3 := rfl
  have l6 := ld_t a2
  have l2 : aLoad h3 false 1 (.ptr h1.next 0 2) = some ⟨rlinkAV (chkF t), h3, .read⟩ := by
    rw [chkF]
    cases e : walkF t 1 0 0 with
    | mk r nd =>
      obtain ⟨n, d⟩ := nd
      rw [e] at aw3
      cases r with
      | none => exact ld32 aw3
      | some er => obtain ⟨N, D, aw3⟩ := aw3; exact ld32 aw3
  simp only [a16, a16_0, a16_1, a16_2, a16_3, Slots.ofList, wpc_draw, s3, reduceIte, Nat.reduceEqDiff, aBin, aInt, negIf, Option.some.injEq, exists_eq_left', Option.map_some, Option.bind_some, y1, y2, y3, y4, y5, ← eh1, ← eh2, l6, wc_eq w3, aNil_ptr, aFieldAddr, Nat.zero_add, l2]
  exact ⟨[rlinkAV (chkF t)], rlinkAV (chkF t), by simp only [Env.results, Option.map_some, get_put, reduceIte, Nat.reduceEqDiff], (frz_noRef (v := rlinkAV (chkF t)) (noRef_link _)).2 rfl, rfl⟩
end Go.Bf

set_option linter.unusedVariables false
set_option linter.unusedSimpArgs false
set_option maxRecDepth 20000
namespace Go.Bf
open Go.AM
/-- a term that stands for a list, or what is left behind its elements -/
inductive LT : Tm → List Tm → Prop
  | list (i : Int) (s : List UInt8) (c : Int) (nf : Option Bool) (ns : List Int) (af : Option Bool) (l : List Tm) (h : 2 ≤ l.length) : LT (.mk 7 i s c nf ns af l) l
  | last (t : Tm) (h : t.kind ≠ 7) : LT t [t]
end Go.Bf

set_option linter.unusedVariables false
set_option linter.unusedSimpArgs false
set_option maxRecDepth 20000
namespace Go.Bf
open Go.AM
theorem LT.ne {t : Tm} {l : List Tm} (k : LT t l) : l ≠ [] := by
  cases k with
  | list i s c nf ns af l h => intro e; subst e; simp at h
  | last t h => simp
end Go.Bf

set_option linter.unusedVariables false
set_option linter.unusedSimpArgs false
set_option maxRecDepth 20000
namespace Go.Bf
open Go.AM
section
variable {h : Heap} {i2 i3 : Nat} {nf nf' : Option Bool} {ns ns' : List Int}
  (l4 : aLoad h false 1 (.ptr i2 0 4) = some ⟨slAV nf ns.length (u32s ns), h, .read⟩) (l4' : aLoad h false 1 (.ptr i3 0 4) = some ⟨slAV nf' ns'.length (u32s ns'), h, .read⟩)
include l4 l4'
end
section
variable {h : Heap} {i2 i3 : Nat} {af af' : Option Bool} {ar ar' : List Tm}
  (l5 : aLoad h false 1 (.ptr i2 0 5) = some ⟨slAV af ar.length (tcs ar), h, .read⟩) (l5' : aLoad h false 1 (.ptr i3 0 5) = some ⟨slAV af' ar'.length (tcs ar'), h, .read⟩)
include l5 l5'
end
theorem wf_list2 {i : Int} {s : List UInt8} {c : Int} {nf : Option Bool} {ns : List Int} {af : Option Bool} {ar : List Tm} (w : Wf (.mk 7 i s c nf ns af ar)) : 2 ≤ ar.length := by
  have h := w.1.1
  rw [kindOk] at h
  simp at h
  exact h.1.2
end Go.Bf

set_option linter.unusedVariables false
set_option linter.unusedSimpArgs false
set_option maxRecDepth 20000
namespace Go.AM
theorem frz_agg {h : Heap} {l l' : List AV} (k : FrzAll h l l') : Frz h (.agg l) (.agg l') := by
  cases hr : AV.noRef (.agg l) with
  | true =>
    have : l = l' := by
      simp only [AV.noRef] at hr
      induction l generalizing l' with
      | nil => exact Eq.symm k
      | cons v l ih =>
        obtain ⟨a, b, rfl, ha, hb⟩ := k
        simp only [AV.noRefs, Bool.and_eq_true] at hr
        rw [(frz_noRef hr.1).1 ha, ih hb hr.2]
    subst this
    exact (frz_noRef hr).2 rfl
  | false =>
    obtain ⟨n, hn⟩ := frzAll_mapM k
    refine ⟨n + 1, fun m hm => ?_⟩
    cases m with
    | zero => omega
    | succ m => simp only [freeze, hr, hn m (by omega), Option.map_some]
end Go.AM
namespace Go.Bf
open Go.AM
theorem frz_acc {h : Heap} {sz n : Nat} {v : AV} {cells : List AV} (k : Acc h sz v cells) (hn : AV.noRefs cells = true) (hl : aLen v = some n) : ∃ f, Frz h v (slAV f n cells) := by
  cases k with
  | nils => cases hl; exact ⟨none, (frz_noRef (v := .nils) rfl).2 rfl⟩
  | full m _ hc => cases hl; exact ⟨some true, (frz_noRef (v := .fs true n cells) hn).2 rfl⟩
  | sl id gen m _ hat hc =>
    cases hl
    have ht : (cells.drop 0).take (n * sz) = cells := by rw [List.drop_zero]; exact List.take_of_length_le (by omega)
    refine ⟨some false, (frz_sl hat (by omega) (by rw [ht]; exact hn)).2 ?_⟩
    rw [ht]; rfl
/-- a function that is pure answers in any heap what it answers in one -/
theorem pure_any {f : Nat} {fn : AFunc} {args : List AV} {h0 h : Heap} {v : AV} {c : Cls} (hp : env.prim f = none) (hf : env.func f = some fn) (hu : env.pure_ f = true) (hr : AV.noRefs args = true)
    (w : WC env f args h0 (fun o => o = .ret ⟨v, h0, c⟩)) : WC env f args h (fun o => o = .ret ⟨v, h, .none⟩) := by
  obtain ⟨n, o, hn, ho⟩ := run_of_wc w
  subst ho
  cases n with
  | zero => cases hn
  | succ n =>
    have key : ∀ h, env.call (n + 1) f args h = (env.body (env.call n) n fn args .empty).bind fun
          | .ret r => (Go.AM.freeze r.h n r.v).map fun v => .ret ⟨v, h, .none⟩
          | .panic _ _ => none := by
      intro h
      show (match env.prim f with | some p => _ | none => _) = _
      rw [hp]
      show (env.func f).bind _ = _
      rw [hf]
      show (match env.pure_ f with | true => _ | false => _) = _
      rw [hu]
      show (match AV.noRefs args with | true => _ | false => _) = _
      rw [hr]
      rfl
    refine wc_run (n := n + 1) ?_
    rw [key] at hn ⊢
    cases e : env.body (env.call n) n fn args .empty with
    | none => rw [e] at hn; cases hn
    | some o =>
      rw [e] at hn
      cases o with
      | panic v' h' => cases hn
      | ret r =>
        change (Option.bind (some (COut.ret r)) _) = _ at hn
        change (Option.bind (some (COut.ret r)) _) = _
        simp only [Option.bind_some] at hn ⊢
        cases e2 : Go.AM.freeze r.h n r.v with
        | none => rw [e2] at hn; cases hn
        | some v' =>
          rw [e2] at hn
          simp only [Option.map_some, Option.some.injEq, COut.ret.injEq, OpRes.mk.injEq] at hn
          simp only [Option.map_some]
          rw [hn.1]
mutual
def er : Tm → Tm
  | .mk k i s c nf ns af ar => .mk k i s c none ns none (ers ar)
def ers : List Tm → List Tm
  | [] => []
  | t :: l => er t :: ers l
end
theorem ers_append : ∀ (l m : List Tm), ers (l ++ m) = ers l ++ ers m
  | [], m => rfl
  | t :: l, m => by rw [List.cons_append, ers, ers_append l m]; rfl
theorem ers_length : ∀ l : List Tm, (ers l).length = l.length
  | [] => rfl
  | t :: l => by rw [ers, List.length_cons, List.length_cons, ers_length l]
theorem tcs_append : ∀ (l m : List Tm), tcs (l ++ m) = tcs l ++ tcs m
  | [], m => rfl
  | t :: l, m => by rw [List.cons_append, tcs, tcs_append l m, tcs, List.append_assoc]
theorem oks_append : ∀ {l m : List Tm}, Oks l → Oks m → Oks (l ++ m)
  | [], _, _, h => h
  | t :: l, m, h, h2 => by
    rw [Oks] at h
    rw [List.cons_append, Oks]
    exact ⟨h.1, oks_append h.2 h2⟩
theorem wf_nums {t : Tm} (w : Wf t) : ∀ {k i : Int} {s : List UInt8} {c : Int} {nf : Option Bool} {ns : List Int} {af : Option Bool} {ar : List Tm}, t = .mk k i s c nf ns af ar → ns.length ≤ 3 := by
  rintro k i s c nf ns af ar rfl
  have h := w.1.1
  rw [kindOk] at h
  split at h
  · simp [emptyF] at h; rw [h.1.1.2.1]; simp
  split at h
  · simp [emptyF] at h; rw [h.1.1.1]; simp
  split at h
  · simp at h; omega
  split at h
  · simp at h; omega
  split at h
  · simp [emptyF] at h; rw [h.1.2.1]; simp
  split at h
  · simp [emptyF] at h; rw [h.1.1.2.1]; simp
  split at h
  · simp [emptyF] at h; rw [h.1.1.1.2.1]; simp
  · cases h
theorem sliceCells_nums {h : Heap} (f : Option Bool) (ns : List Int) : ∃ c, sliceCells h 1 ns.length (slAV f ns.length (u32s ns)) = some (u32s ns, c) := by
  have hl := u32_length ns
  have ht : (u32s ns).take (ns.length * 1) = u32s ns := List.take_of_length_le (by omega)
  have go : ∀ b, sliceCells h 1 ns.length (.fs b ns.length (u32s ns)) = some (u32s ns, .none) := by
    intro b
    simp only [sliceCells]
    rw [if_pos ⟨Nat.le_refl _, by omega⟩, ht]
  cases f with
  | none =>
    cases ns with
    | nil => exact ⟨_, rfl⟩
    | cons x l => exact ⟨_, go false⟩
  | some b => exact ⟨_, go b⟩
theorem aLen_sl (f : Option Bool) (n : Nat) (cs : List AV) : aLen (slAV f n cs) = some n := by
  cases f with
  | none => cases n <;> rfl
  | some b => rfl
theorem eqs_sl (f : Option Bool) (n : Nat) (cs : List AV) : ∃ b, aEq .slice (slAV f n cs) .nils = some b ∧ (b = true → slAV f n cs = .nils ∧ n = 0) := by
  cases f with
  | none =>
    cases n with
    | zero => exact ⟨true, rfl, fun _ => ⟨rfl, rfl⟩⟩
    | succ n => exact ⟨false, rfl, fun h => by cases h⟩
  | some b => exact ⟨false, rfl, fun h => by cases h⟩
/-- slices.Clone of numbers -/
theorem clone_nums (f : Option Bool) (ns : List Int) (hn : ns.length ≤ 1000) {h : Heap} (ho : HeapOk h) : ∃ v h', WC env 69 [slAV f ns.length (u32s ns)] h (fun o => o = .ret ⟨v, h', .write⟩) ∧ HeapOk h' ∧ h.le h' ∧ Acc h' 1 v (u32s ns) ∧ aLen v = some ns.length ∧ ∀ id, v.own = some id → h.next ≤ id := by
  obtain ⟨b, eb, hb⟩ := eqs_sl f ns.length (u32s ns)
  cases b with
  | true =>
    obtain ⟨e1, e2⟩ := hb rfl
    have e3 : ns = [] := List.length_eq_zero_iff.1 e2
    subst e3
    refine ⟨.nils, h, ?_, ho, Heap.le_refl h, .nils, rfl, fun id e => by cases e⟩
    refine call_body rfl rfl (.inl rfl) ?_
    simp only [a69, a69_0, a69_1, a69_2, Slots.ofList, wpc_draw, s3, reduceIte, Nat.reduceEqDiff, aBin, aInt, negIf, Option.some.injEq, exists_eq_left', Option.map_some, Option.bind_some, eb]
    exact ⟨[.nils], by simp only [Env.results, Option.map_some, get_put, reduceIte, Nat.reduceEqDiff], rfl⟩
  | false =>
    obtain ⟨c0, hc⟩ := sliceCells_nums (h := h) f ns
    obtain ⟨v, h', c', w1, k, l1, ho', l3, l4⟩ := Acc.append (bt := 4) ho (by omega : 0 < 1) (Acc.full (h := h) (sz := 1) 0 [] rfl) (m := 0) rfl (aLen_sl f _ _) hc (by rw [u32_length]; omega) (by omega) (by omega)
    rw [List.nil_append] at k
    rw [Nat.zero_add] at l4
    refine ⟨v, h', ?_, ho', ⟨l1.1, fun id gen cs e => l1.2 id gen cs (by intro e2; cases e2) e⟩, k, l4, fun id e => (l3 id e).elim (fun e2 => by cases e2) (fun e2 => e2)⟩
    refine call_body rfl rfl (.inl rfl) ?_
    have y1 : aFill [] [] = some [] := rfl
    simp only [a69, a69_0, a69_1, a69_3, Slots.ofList, wpc_draw, s3, reduceIte, Nat.reduceEqDiff, aBin, aInt, negIf, Option.some.injEq, exists_eq_left', Option.map_some, Option.bind_some, eb, y1, List.length_nil, Nat.reduceMul, w1, isC c']
    exact ⟨[v], by simp only [Env.results, Option.map_some, get_put, reduceIte, Nat.reduceEqDiff], rfl⟩
end Go.Bf

set_option linter.unusedVariables false
set_option linter.unusedSimpArgs false
set_option maxRecDepth 20000
namespace Go.Bf
open Go.AM
section
variable {h : Heap} {i : Nat} {a b c d e f : AV} (hat : h.at_ i 0 = some [a, b, c, d, e, f])
include hat
theorem st64 {v : AV} (hv : v.row = some [v]) : aStore h 1 (.ptr i 0 4) v = some ⟨.undef, h.upd i 0 [a, b, c, d, v, f], .write⟩ := by
  simp only [aStore, hat, Option.bind_some, hv]; rfl
theorem st65 {v : AV} (hv : v.row = some [v]) : aStore h 1 (.ptr i 0 5) v = some ⟨.undef, h.upd i 0 [a, b, c, d, e, v], .write⟩ := by
  simp only [aStore, hat, Option.bind_some, hv]; rfl
end
theorem fill6 (t : Tm) : aFill [.int .i64 0, .int .i64 0, .str [], .int .u32 0, .nils, .nils] [(0, 6, .agg (tc t))] = some (tc t) := by
  cases t; rfl
theorem one_t (h : Heap) (t : Tm) : sliceCells h 6 1 (.fs true 1 (tc t)) = some (tc t, .none) := by
  have hl := tc_length t
  simp only [sliceCells]
  rw [if_pos ⟨Nat.le_refl _, by omega⟩, List.take_of_length_le (by omega)]
def CopyOk (t : Tm) : Prop := ∃ t', t'.Ok ∧ er t' = er t ∧ ∀ h, WC env 39 [.agg (tc t)] h (fun o => o = .ret ⟨.agg (tc t'), h, .none⟩)
theorem copy_loop {ar : List Tm} (hP : ∀ t, t ∈ ar → CopyOk t) (hlen : ar.length ≤ 4096) {af : Option Bool} {i1 i2 bd : Nat} {C Z : List AV} (b1 : i1 < bd) (b2 : i2 < bd) {Q : AExit → St → Prop} :
    ∀ (f i : Nat) (σ : Slots) (h : Heap) (v : AV) (l : List Tm), ar.length - i < f → i ≤ ar.length → HeapOk h → bd ≤ h.next → h.at_ i1 0 = some C → h.at_ i2 0 = some Z → Acc h 6 v (tcs l) → aLen v = some i → l.length = i → ers l = ers (ar.take i) → Oks l → (∀ id, v.own = some id → bd ≤ id) →
    σ.get 1 = .ptr i1 0 0 → σ.get 2 = .ptr i2 0 0 → σ.get 3 = v → σ.get 11 = slAV af ar.length (tcs ar) → σ.get 12 = .int .i64 ar.length → σ.get 13 = .int .i64 i →
    (∀ σ' h' v' l', Chg (fun j => bd ≤ j) h h' → HeapOk h' → h'.at_ i1 0 = some C → h'.at_ i2 0 = some Z → Acc h' 6 v' (tcs l') → aLen v' = some ar.length → l'.length = ar.length → ers l' = ers ar → Oks l' → (∀ id, v'.own = some id → bd ≤ id) → σ'.get 1 = .ptr i1 0 0 → σ'.get 2 = .ptr i2 0 0 → σ'.get 3 = v' → Q (.exit 0) ⟨σ', h'⟩) →
    WPr env a39_l8 ⟨σ, h⟩ Q := by
  intro f
  induction f with
  | zero => intro i σ h v l h1; omega
  | succ f ih =>
    intro i σ h v l hf hi ho hbd h1 h2 k hv hl he hok hown g1 g2 g3 g11 g12 g13 hQ
    refine wpr_round' fun b hb => ?_
    by_cases c1 : i < ar.length
    · have z0 : ((i : Int) < (ar.length : Int)) = True := eq_true (by omega)
      have zi : IntKind.wrap .i64 ((i : Int) + 1) = ((i + 1 : Nat) : Int) := wrap_nat (by omega) (by omega)
      have lx := idx_args (f := af) c1
      have ld := ld_args c1 h
      obtain ⟨t', ok', er', wc'⟩ := hP ar[i] (List.getElem_mem c1)
      obtain ⟨h3, st3, ho3, le3, at3⟩ := box_t ho ar[i]
      have lt3 := ld_t at3
      have y1 := fill6 t'
      have y2 : (tc t').length = 6 := tc_length t'
      obtain ⟨v', h4, c4, w4, k4, lb4, ho4, ow4, len4⟩ := Acc.append (bt := 88) ho3 (by omega : 0 < 6) (k.le le3) hv (show aLen (.fs true 1 (tc t')) = some 1 from rfl) (one_t h3 t') (by rw [y2]) (by omega) (by omega)
      have cg : Chg (fun j => bd ≤ j) h h4 := le3.chg.trans (lb4.chg fun j e => hown j e)
      have n1 : h4.at_ i1 0 = some C := lb4.2 _ _ _ (fun e => by have := hown _ e; omega) (le3.2 _ _ _ h1)
      have n2 : h4.at_ i2 0 = some Z := lb4.2 _ _ _ (fun e => by have := hown _ e; omega) (le3.2 _ _ _ h2)
      have k4' : Acc h4 6 v' (tcs (l ++ [t'])) := by rw [tcs_append, tcs, tcs, List.append_nil]; exact k4
      simp only [a39_l8, a39_4, a39_5, a39_6, a39_7, wpc_draw, s3, reduceIte, Nat.reduceEqDiff, aBin, aInt, negIf, Option.some.injEq, exists_eq_left', Option.map_some, Option.bind_some, g1, g2, g3, g11, g12, g13, z0, zi, lx, ld, st3, lt3, wc_eq (wc' _), y1, y2, Nat.reduceMul, w4, isC c4]
      subst hb
      refine ih (i + 1) _ h4 v' (l ++ [t']) (by omega) (by omega) ho4 (by have := le3.1; have := lb4.1; omega) n1 n2 k4' len4 (by simp [hl]) ?_ (oks_append hok ⟨ok', trivial⟩) (fun id e => ?_) ?_ ?_ ?_ ?_ ?_ ?_ fun σ' h' v'' l'' p0 => hQ σ' h' v'' l'' (cg.trans p0)
      · rw [List.take_succ_eq_append_getElem c1, ers_append, ers_append, he, ers, ers, ers, ers, er']
      · rcases ow4 id e with e2 | e2
        · exact hown id e2
        · have := le3.1; omega
      · simp only [get_put, reduceIte, Nat.reduceEqDiff, g1]
      · simp only [get_put, reduceIte, Nat.reduceEqDiff, g2]
      · simp only [get_put, reduceIte, Nat.reduceEqDiff]
      · simp only [get_put, reduceIte, Nat.reduceEqDiff, g11]
      · simp only [get_put, reduceIte, Nat.reduceEqDiff, g12]
      · simp only [get_put, reduceIte, Nat.reduceEqDiff]
    · have z0 : ((i : Int) < (ar.length : Int)) = False := eq_false (by omega)
      have hi' : i = ar.length := by omega
      subst hi'
      rw [List.take_length] at he
      simp only [a39_l8, a39_4, wpc_draw, s3, reduceIte, Nat.reduceEqDiff, aBin, aInt, negIf, Option.some.injEq, exists_eq_left', Option.map_some, Option.bind_some, g12, g13, z0]
      refine hQ _ h v l Chg.refl ho h1 h2 k hv hl he hok hown ?_ ?_ ?_ <;> simp only [get_put, reduceIte, Nat.reduceEqDiff, g1, g2, g3]
theorem copy_spec : ∀ t : Tm, t.Ok → Wf t → CopyOk t := by
  refine tm_ind fun k i s c nf ns af ar ih ok wf => ?_
  obtain ⟨ss, sn, sa, sr⟩ := ok.lens
  have hP : ∀ t, t ∈ ar → CopyOk t := fun t m => ih t m (sr.get m) (wf.2.get m)
  have hn3 : ns.length ≤ 3 := wf_nums wf rfl
  have ha4 : ar.length ≤ 4096 := wf.1.2
  rw [Tm.Ok] at ok
  obtain ⟨t, et⟩ : ∃ t : Tm, t = .mk k i s c nf ns af ar := ⟨_, rfl⟩
  have hr : AV.noRefs [.agg (tc t)] = true := by simp only [AV.noRefs, AV.noRef, noRef_tc, Bool.and_self]
  have run : WC env 39 [.agg (tc t)] .empty (fun o => ∃ t' : Tm, t'.Ok ∧ er t' = er t ∧ o = .ret ⟨.agg (tc t'), .empty, .none⟩) := by
    refine call_pure rfl rfl rfl hr ?_
    obtain ⟨cs, ec⟩ : ∃ cs, cs = tc t := ⟨_, rfl⟩
    have ec' : cs = [.int .i64 k, .int .i64 i, .str s, .int .u32 c, slAV nf ns.length (u32s ns), slAV af ar.length (tcs ar)] := by rw [ec, et]; rfl
    rw [← ec]
    obtain ⟨i1, ei1⟩ : ∃ i1, i1 = Heap.empty.next := ⟨_, rfl⟩
    obtain ⟨h1, eh1⟩ : ∃ h1, h1 = Heap.empty.new cs := ⟨_, rfl⟩
    have ho1 : HeapOk h1 := by rw [eh1]; exact HeapOk.empty.new _
    have a1 : h1.at_ i1 0 = some cs := by rw [eh1, ei1]; exact at_new _
    obtain ⟨i2, ei2⟩ : ∃ i2, i2 = h1.next := ⟨_, rfl⟩
    obtain ⟨h2, eh2⟩ : ∃ h2, h2 = h1.new [.int .i64 0, .int .i64 0, .str [], .int .u32 0, .nils, .nils] := ⟨_, rfl⟩
    have ho2 : HeapOk h2 := by rw [eh2]; exact ho1.new _
    have a2 : h2.at_ i1 0 = some cs := by rw [eh2]; exact (le_new ho1 _).2 _ _ _ a1
    have r2 : h2.at_ i2 0 = some [.int .i64 0, .int .i64 0, .str [], .int .u32 0, .nils, .nils] := by rw [eh2, ei2]; exact at_new _
    rw [ec'] at a2
    have y1 : (AV.agg cs).row = some cs := rfl
    have y2 : cs.length = 6 := by rw [ec']; rfl
    have l4 := ld64 a2
    obtain ⟨vn, h3, wn, ho3, le3, kn, len3, own3⟩ := clone_nums nf ns (by omega) ho2
    have a3 := le3.2 _ _ _ a2
    have r3 := le3.2 _ _ _ r2
    have t1 := ho2.lt a2
    have t2 := ho2.lt r2
    have s4 := st64 a3 kn.row
    obtain ⟨h4, eh4⟩ : ∃ h4, h4 = h3.upd i1 0 [.int .i64 k, .int .i64 i, .str s, .int .u32 c, vn, slAV af ar.length (tcs ar)] := ⟨_, rfl⟩
    rw [← eh4] at s4
    have ho4 : HeapOk h4 := by rw [eh4]; exact ho3.upd (at_look.1 a3) _ _
    have a4 : h4.at_ i1 0 = some [.int .i64 k, .int .i64 i, .str s, .int .u32 c, vn, slAV af ar.length (tcs ar)] := by rw [eh4]; exact at_upd
    have hne : i2 ≠ i1 := by have := ho1.lt a1; omega
    have r4 : h4.at_ i2 0 = _ := (by rw [eh4]; exact at_upd_ne hne : h4.at_ i2 0 = h3.at_ i2 0).trans r3
    have ch4 : Chg (fun j => j = i1) h3 h4 := by rw [eh4]; exact upd_chg rfl
    have kn4 : Acc h4 1 vn (u32s ns) := kn.chg ch4 (fun id e => by have := own3 id e; omega)
    have l5 := ld65 a4
    have al : ∀ h, aLenOp false h (slAV af ar.length (tcs ar)) = some ⟨.int .i64 ar.length, h, .none⟩ := fun h => len_sl _ _ _ (fun _ => trivial) h
    simp only [a39, a39_0, a39_1, a39_2, a39_3, Slots.ofList, wpc_draw, s3, reduceIte, Nat.reduceEqDiff, aBin, aInt, negIf, Option.some.injEq, exists_eq_left', Option.map_some, Option.bind_some, y1, y2, ← eh1, ← eh2, ← ei1, ← ei2, aFieldAddr, Nat.zero_add, l4, wc_eq wn, s4, l5, al]
    have hle : h2.next ≤ h4.next := Nat.le_trans le3.1 ch4.1
    have hvn : ∀ id, vn.own = some id → id < h4.next := fun id e => kn4.ownLt ho4 e
    refine copy_loop (ar := ar) hP ha4 (af := af) (i1 := i1) (i2 := i2) (bd := h4.next) (by omega) (by omega) (ar.length + 1) 0 _ h4 .nils [] (by omega) (by omega) ho4 (Nat.le_refl _) a4 r4 .nils rfl rfl rfl trivial (fun id e => by cases e) ?_ ?_ ?_ ?_ ?_ ?_ fun σ' h' v' l' p0 p1 p2 p3 p4 p5 p6 p7 p8 p9 q1 q2 q3 => ?_
    · simp only [get_put, reduceIte, Nat.reduceEqDiff]
    · simp only [get_put, reduceIte, Nat.reduceEqDiff]
    · simp only [get_put, reduceIte, Nat.reduceEqDiff]
    · simp only [get_put, reduceIte, Nat.reduceEqDiff]
    · simp only [get_put, reduceIte, Nat.reduceEqDiff]
    · simp only [get_put, reduceIte, Nat.reduceEqDiff]; rfl
    have kn5 : Acc h' 1 vn (u32s ns) := kn4.chg p0 (fun id e => by have := hvn id e; omega)
    have s5 := st65 p2 p4.row
    obtain ⟨h5, eh5⟩ : ∃ h5, h5 = h'.upd i1 0 [.int .i64 k, .int .i64 i, .str s, .int .u32 c, vn, v'] := ⟨_, rfl⟩
    rw [← eh5] at s5
    have a5 : h5.at_ i1 0 = some [.int .i64 k, .int .i64 i, .str s, .int .u32 c, vn, v'] := by rw [eh5]; exact at_upd
    have r5 : h5.at_ i2 0 = some [.int .i64 0, .int .i64 0, .str [], .int .u32 0, .nils, .nils] := (by rw [eh5]; exact at_upd_ne hne : h5.at_ i2 0 = h'.at_ i2 0).trans p3
    have lb := ld6 a5
    have sb := st6 (a' := .int .i64 k) (b' := .int .i64 i) (c' := .str s) (d' := .int .u32 c) (e' := vn) (f' := v') r5
    obtain ⟨h6, eh6⟩ : ∃ h6, h6 = h5.upd i2 0 [.int .i64 k, .int .i64 i, .str s, .int .u32 c, vn, v'] := ⟨_, rfl⟩
    rw [← eh6] at sb
    have r6 : h6.at_ i2 0 = some [.int .i64 k, .int .i64 i, .str s, .int .u32 c, vn, v'] := by rw [eh6]; exact at_upd
    have ch6 : Chg (fun j => j = i1 ∨ j = i2) h' h6 := by
      rw [eh6, eh5]
      exact (upd_chg (S := fun j => j = i1 ∨ j = i2) (.inl rfl)).trans (upd_chg (S := fun j => j = i1 ∨ j = i2) (.inr rfl))
    obtain ⟨f1, z1⟩ := frz_acc (kn5.chg ch6 (fun id e => by have := own3 id e; omega)) (noRefs_u32 ns) len3
    obtain ⟨f2, z2⟩ := frz_acc (p4.chg ch6 (fun id e => by have := p9 id e; omega)) (noRef_tcs l') p5
    simp only [a39_9, a39_10, wpc_draw, s3, reduceIte, Nat.reduceEqDiff, aBin, aInt, negIf, Option.some.injEq, exists_eq_left', Option.map_some, Option.bind_some, q1, q2, q3, aFieldAddr, Nat.zero_add, s5, lb, sb]
    rw [← p6] at z2
    refine ⟨[.agg [.int .i64 k, .int .i64 i, .str s, .int .u32 c, vn, v']], .agg (tc (.mk k i s c f1 ns f2 l')), ?_, ?_, .mk k i s c f1 ns f2 l', ?_, ?_, rfl⟩
    · simp only [Env.results, Option.map_some, get_put, reduceIte, Nat.reduceEqDiff, q2, ld6 r6, Option.bind_some]
    · exact frz_agg ⟨_, _, rfl, (frz_noRef (v := .int .i64 k) rfl).2 rfl, _, _, rfl, (frz_noRef (v := .int .i64 i) rfl).2 rfl, _, _, rfl, (frz_noRef (v := .str s) rfl).2 rfl, _, _, rfl, (frz_noRef (v := .int .u32 c) rfl).2 rfl, _, _, rfl, z1, _, _, rfl, z2, rfl⟩
    · rw [Tm.Ok]
      exact ⟨ok.1, ok.2.1, ok.2.2.1, ok.2.2.2.1, ss, sn, by omega, p8⟩
    · rw [et, er, er, p7]
  obtain ⟨o, hrun, t', ok', e', rfl⟩ := run
  refine ⟨t', ok', by rw [e', et], fun h => ?_⟩
  rw [← et]
  exact pure_any rfl rfl rfl hr (h0 := .empty) (c := .none) ⟨_, hrun, rfl⟩
end Go.Bf

set_option linter.unusedVariables false
set_option linter.unusedSimpArgs false
namespace Go.Bf
open Go.AM
theorem same_er : ∀ a b : Tm, sameF a b = true ↔ er a = er b := by
  refine tm_ind fun k i s c nf ns af ar ih b => ?_
  rcases b with ⟨k', i', s', c', nf', ns', af', ar'⟩
  have go : ∀ (l m : List Tm), (∀ t, t ∈ l → t ∈ ar) → (sameFs l m = true ↔ ers l = ers m) := by
    intro l
    induction l with
    | nil => intro m _; cases m <;> simp [sameFs, ers]
    | cons x l ihl =>
      intro m hl
      cases m with
      | nil => simp [sameFs, ers]
      | cons y m =>
        rw [sameFs, Bool.and_eq_true, ih x (hl x (by simp)) y, ihl m (fun t h => hl t (by simp [h])), ers, ers, List.cons.injEq]
  have g := go ar ar' (fun _ h => h)
  rw [sameF, er, er]
  simp only [Bool.and_eq_true, beq_iff_eq, g, Tm.mk.injEq, true_and]
  constructor
  · rintro ⟨⟨⟨⟨⟨⟨⟨h1, h2⟩, h3⟩, h4⟩, _⟩, _⟩, h7⟩, h8⟩
    exact ⟨h1, h2, h3, h4, h7, h8⟩
  · rintro ⟨h1, h2, h3, h4, h7, h8⟩
    have : ar.length = ar'.length := by rw [← ers_length ar, h8, ers_length]
    exact ⟨⟨⟨⟨⟨⟨⟨h1, h2⟩, h3⟩, h4⟩, by rw [h7]⟩, this⟩, h7⟩, h8⟩
theorem er_kind (t : Tm) : (er t).kind = t.kind := by cases t; rfl
end Go.Bf

set_option linter.unusedVariables false
set_option linter.unusedSimpArgs false
set_option maxRecDepth 20000
namespace Go.Bf
open Go.AM
def zeroT : Tm := .mk 0 0 [] 0 none [] none []
theorem zeroT_tc : tc zeroT = zero6 := rfl
/-- the arguments are looked at: no fault -/
theorem call_loop {ts : List Tm} (hok : Oks ts) (hall : ∀ t, t ∈ ts → isT t = true) {v : AV} (kv : Sl v ts) (hlen : ts.length < 1000000) {Q : AExit → St → Prop} :
    ∀ (f i : Nat) (σ : Slots) (h : Heap), ts.length - i < f → i ≤ ts.length → HeapOk h → σ.get 25 = v → σ.get 26 = .int .i64 ts.length → σ.get 27 = .int .i64 i →
    (∀ σ' h', HeapOk h' → h.le h' → (∀ n, n < 8 → σ'.get n = σ.get n) → Q (.exit 0) ⟨σ', h'⟩) → WPr env a18_l13 ⟨σ, h⟩ Q := by
  intro f
  induction f with
  | zero => intro i σ h h1; omega
  | succ f ih =>
    intro i σ h hf hi ho g25 g26 g27 hQ
    refine wpr_round' fun b hb => ?_
    by_cases c1 : i < ts.length
    · have z0 : ((i : Int) < (ts.length : Int)) = True := eq_true (by omega)
      have zi : IntKind.wrap .i64 ((i : Int) + 1) = ((i + 1 : Nat) : Int) := wrap_nat (by omega) (by omega)
      have lx := kv.idx c1
      have ld := ld_args c1 h
      obtain ⟨h3, st3, ho3, le3, at3⟩ := box_t ho ts[i]
      have lt3 := ld_t at3
      have q1 := eq_chk ts[i]
      rw [hall _ (List.getElem_mem c1)] at q1
      simp only [a18_l13, a18_5, a18_6, a18_7, a18_8, a18_12, wpc_draw, s3, reduceIte, Nat.reduceEqDiff, aBin, aInt, negIf, Option.some.injEq, exists_eq_left', Option.map_some, Option.bind_some, g25, g26, g27, z0, zi, lx, ld, st3, lt3, wc_eq (check_spec ts[i] (hok.get (List.getElem_mem c1)) _), q1, Bool.not_true]
      subst hb
      refine ih (i + 1) _ h3 (by omega) (by omega) ho3 ?_ ?_ ?_ fun σ' h' p1 p2 p3 => hQ σ' h' p1 ⟨Nat.le_trans le3.1 p2.1, fun id gen cs e => p2.2 _ _ _ (le3.2 _ _ _ e)⟩ fun n hn => ?_
      · simp only [get_put, reduceIte, Nat.reduceEqDiff, g25]
      · simp only [get_put, reduceIte, Nat.reduceEqDiff, g26]
      · simp only [get_put, reduceIte, Nat.reduceEqDiff]
      · rw [p3 n hn]
        simp only [get_put]
        by_cases e8 : n = 8
        · omega
        repeat rw [if_neg (by omega)]
    · have z0 : ((i : Int) < (ts.length : Int)) = False := eq_false (by omega)
      simp only [a18_l13, a18_5, wpc_draw, s3, reduceIte, Nat.reduceEqDiff, aBin, aInt, negIf, Option.some.injEq, exists_eq_left', Option.map_some, Option.bind_some, g26, g27, z0]
      refine hQ _ h ho (Heap.le_refl h) fun n hn => ?_
      simp only [get_put]
      rw [if_neg (by omega)]
theorem st_t {h : Heap} {i : Nat} {u t : Tm} (hat : h.at_ i 0 = some (tc u)) : aStore h 6 (.ptr i 0 0) (.agg (tc t)) = some ⟨.undef, h.upd i 0 (tc t), .write⟩ := by
  cases u with
  | mk k i s c nf ns af ar => cases t with
    | mk k' i' s' c' nf' ns' af' ar' => exact st6 hat
section
variable {name : List UInt8} {ts : List Tm} {v : AV} (hok : Oks ts) (hall : ∀ t, t ∈ ts → isT t = true) (kv : Sl v ts) (hlen : ts.length < 1000000) {a b c d : AV} (hf : findV name ts.length = .tup [.agg [a, b, c, d], .bool true])
include hok hall kv hlen hf
theorem callh {Q : AExit → St → Prop} (hQ : ∀ σ h i4, HeapOk h → h.at_ i4 0 = some zero6 → σ.get 0 = .str name → σ.get 1 = v → σ.get 4 = .ptr i4 0 0 →
      wpc env (.seq (.ops a18_14) (.seq (.seq (.ops a18_15) (.cond (.t 62) (.ops a18_16) .skip)) (.seq (.seq (.ops a18_17) (.cond (.t 64) (.seq (.ops a18_18) .ret) .skip)) (.seq (.ops a18_19) .ret)))) ⟨σ, h⟩ Q) :
    wpc env a18.body ⟨Slots.ofList 0 [.str name, v] .empty, .empty⟩ Q := by
  obtain ⟨i4, e4⟩ : ∃ i4, i4 = Heap.empty.next := ⟨_, rfl⟩
  obtain ⟨h1, eh1⟩ : ∃ h1, h1 = Heap.empty.new [.int .i64 0, .int .i64 0, .str [], .int .u32 0, .nils, .nils] := ⟨_, rfl⟩
  have ho1 : HeapOk h1 := by rw [eh1]; exact HeapOk.empty.new _
  have a1 : h1.at_ i4 0 = some zero6 := by rw [eh1, e4]; exact at_new _
  obtain ⟨h2, s2, ho2, hl2, a2⟩ := box4 ho1 a b c d
  have fs : ∀ h, WC env 13 [.str name, .int .i64 ts.length] h (fun o => o = .ret ⟨.tup [.agg [a, b, c, d], .bool true], h, .none⟩) := fun h => by rw [← hf]; exact find_spec h name ts.length
  have nl := kv.len
  have eb : a18.body = (.seq (.ops a18_0) (.seq (.seq (.ops a18_1) (.seq (.ops a18_2) (.cond (.t 22) (.seq (.ops a18_3) .ret) .skip))) (.seq (.seq (.ops a18_4) (.block 0 (.loop a18_l13))) (.seq (.ops a18_14) (.seq (.seq (.ops a18_15) (.cond (.t 62) (.ops a18_16) .skip)) (.seq (.seq (.ops a18_17) (.cond (.t 64) (.seq (.ops a18_18) .ret) .skip)) (.seq (.ops a18_19) .ret))))))) := rfl
  rw [eb, wpc_seq]
  obtain ⟨R, eR⟩ : ∃ R, R = AC.seq (.ops a18_14) (.seq (.seq (.ops a18_15) (.cond (.t 62) (.ops a18_16) .skip)) (.seq (.seq (.ops a18_17) (.cond (.t 64) (.seq (.ops a18_18) .ret) .skip)) (.seq (.ops a18_19) .ret))) := ⟨_, rfl⟩
  rw [← eR]
  rw [← eR] at hQ
  simp only [a18_0, a18_1, a18_2, a18_4, Slots.ofList, wpc_draw, s3, reduceIte, Nat.reduceEqDiff, aBin, aInt, negIf, Option.some.injEq, exists_eq_left', Option.map_some, Option.bind_some, ← eh1, ← e4, nl, wc_eq (fs _), aExtract, ex0, ex1, s2, aUn, Bool.not_true]
  refine call_loop hok hall kv hlen (ts.length + 1) 0 _ h2 (by omega) (by omega) ho2 ?_ ?_ ?_ fun σ' h' p1 p2 p3 => ?_
  · simp only [get_put, reduceIte, Nat.reduceEqDiff]
  · simp only [get_put, reduceIte, Nat.reduceEqDiff]
  · simp only [get_put, reduceIte, Nat.reduceEqDiff]; rfl
  refine hQ σ' h' i4 p1 (p2.2 _ _ _ (hl2.2 _ _ _ a1)) ?_ ?_ ?_
  · rw [p3 0 (by omega)]; simp only [get_put, reduceIte, Nat.reduceEqDiff]
  · rw [p3 1 (by omega)]; simp only [get_put, reduceIte, Nat.reduceEqDiff]
  · rw [p3 4 (by omega)]; simp only [get_put, reduceIte, Nat.reduceEqDiff]
theorem call_fine {r : Tm} (okr : r.Ok) (hr : isT r = true) (hc : ∀ h, WC env 38 [.str name, v] h (fun o => o = .ret ⟨.tup [.agg (tc r), .int .i64 0], h, .none⟩)) :
    ∃ r' : Tm, r'.Ok ∧ er r' = er r ∧ ∀ h, WC env 18 [.str name, v] h (fun o => o = .ret ⟨.tup [.agg (tc r'), .nili], h, .none⟩) := by
  obtain ⟨r', ok', er', wc'⟩ := copy_spec r okr (isT_wf hr)
  refine ⟨r', ok', er', fun h => call_pure rfl rfl rfl (by simp only [AV.noRefs, AV.noRef, kv.noRef, Bool.and_self]) (callh hok hall kv hlen hf fun σ h1 i4 ho1 a4 g0 g1 g4 => ?_)⟩
  obtain ⟨h2, s2, ho2, hl2, a2⟩ := box_t ho1 r
  have l2 := ld_t a2
  have sx := st_t (t := r') (u := zeroT) (hl2.2 _ _ _ a4)
  have l6 : aLoad (h2.upd i4 0 (tc r')) true 6 (.ptr i4 0 0) = some ⟨.agg (tc r'), h2.upd i4 0 (tc r'), .read⟩ := ld_t at_upd
  have q1 := eq_chk r
  rw [hr] at q1
  simp only [a18_14, a18_15, a18_17, a18_19, wpc_draw, s3, reduceIte, Nat.reduceEqDiff, aBin, aInt, negIf, Option.some.injEq, exists_eq_left', Option.map_some, Option.bind_some, g0, g1, g4, wc_eq (hc _), aExtract, ex0, ex1, s2, Int.reduceBEq, Int.reduceBNe, l2, wc_eq (check_spec r okr _), q1, Bool.not_true, aPick, wc_eq (wc' _), sx]
  exact ⟨[.agg (tc r'), .nili], .tup [.agg (tc r'), .nili], by simp only [a18, Env.results, Option.map_some, get_put, reduceIte, Nat.reduceEqDiff, g4, l6, Option.bind_some] <;> rfl, (frz_noRef (v := .tup [.agg (tc r'), .nili]) (by simp only [AV.noRef, AV.noRefs, noRef_tc, Bool.and_self])).2 rfl, rfl⟩
theorem call_limit {r : Tm} (okr : r.Ok) (hr : isT r = false) (hc : ∀ h, WC env 38 [.str name, v] h (fun o => o = .ret ⟨.tup [.agg (tc r), .int .i64 0], h, .none⟩)) (h : Heap) :
    WC env 18 [.str name, v] h (fun o => o = .ret ⟨.tup [.agg zero6, errB 262], h, .none⟩) := by
  refine call_pure rfl rfl rfl (by simp only [AV.noRefs, AV.noRef, kv.noRef, Bool.and_self]) (callh hok hall kv hlen hf fun σ h1 i4 ho1 a4 g0 g1 g4 => ?_)
  obtain ⟨h2, s2, ho2, hl2, a2⟩ := box_t ho1 r
  have l2 := ld_t a2
  have sx : aStore h2 6 (.ptr i4 0 0) (.agg zero6) = some ⟨.undef, h2.upd i4 0 zero6, .write⟩ := st6 (hl2.2 _ _ _ a4)
  have l6 : aLoad (h2.upd i4 0 zero6) true 6 (.ptr i4 0 0) = some ⟨.agg zero6, h2.upd i4 0 zero6, .read⟩ := ld6 at_upd
  have y5 : aFill [.int .i64 0, .int .i64 0, .str [], .int .u32 0, .nils, .nils] [] = some zero6 := rfl
  have q1 := eq_chk r
  rw [hr] at q1
  simp only [a18_14, a18_15, a18_16, a18_17, a18_18, wpc_draw, s3, reduceIte, Nat.reduceEqDiff, aBin, aInt, negIf, Option.some.injEq, exists_eq_left', Option.map_some, Option.bind_some, g0, g1, g4, wc_eq (hc _), aExtract, ex0, ex1, s2, Int.reduceBEq, Int.reduceBNe, l2, wc_eq (check_spec r okr _), q1, Bool.not_false, aPick, y5, wc_eq (refused_spec _ _), sx]
  exact ⟨[.agg zero6, errB 262], .tup [.agg zero6, errB 262], by simp only [a18, Env.results, Option.map_some, get_put, reduceIte, Nat.reduceEqDiff, g4, l6, Option.bind_some] <;> rfl, (frz_noRef (v := .tup [.agg zero6, errB 262]) rfl).2 rfl, rfl⟩
theorem call_code {r : Tm} {cd : Int} (hcd : cd ≠ 0) (hc : ∀ h, WC env 38 [.str name, v] h (fun o => o = .ret ⟨.tup [.agg (tc r), .int .i64 cd], h, .none⟩)) (h : Heap) :
    WC env 18 [.str name, v] h (fun o => o = .ret ⟨.tup [.agg zero6, errB cd], h, .none⟩) := by
  refine call_pure rfl rfl rfl (by simp only [AV.noRefs, AV.noRef, kv.noRef, Bool.and_self]) (callh hok hall kv hlen hf fun σ h1 i4 ho1 a4 g0 g1 g4 => ?_)
  obtain ⟨h2, s2, ho2, hl2, a2⟩ := box_t ho1 r
  have sx : aStore h2 6 (.ptr i4 0 0) (.agg zero6) = some ⟨.undef, h2.upd i4 0 zero6, .write⟩ := st6 (hl2.2 _ _ _ a4)
  have l6 : aLoad (h2.upd i4 0 zero6) true 6 (.ptr i4 0 0) = some ⟨.agg zero6, h2.upd i4 0 zero6, .read⟩ := ld6 at_upd
  have y5 : aFill [.int .i64 0, .int .i64 0, .str [], .int .u32 0, .nils, .nils] [] = some zero6 := rfl
  have u0 : (cd == 0) = false := by simpa using hcd
  have u1 : (cd != 0) = true := by simpa using hcd
  simp only [a18_14, a18_15, a18_17, a18_18, wpc_draw, s3, reduceIte, Nat.reduceEqDiff, aBin, aInt, negIf, Option.some.injEq, exists_eq_left', Option.map_some, Option.bind_some, g0, g1, g4, wc_eq (hc _), aExtract, ex0, ex1, s2, u0, aPick, u1, y5, wc_eq (refused_spec _ _), sx]
  exact ⟨[.agg zero6, errB cd], .tup [.agg zero6, errB cd], by simp only [a18, Env.results, Option.map_some, get_put, reduceIte, Nat.reduceEqDiff, g4, l6, Option.bind_some] <;> rfl, (frz_noRef (v := .tup [.agg zero6, errB cd]) rfl).2 rfl, rfl⟩
end
end Go.Bf

set_option linter.unusedVariables false
set_option linter.unusedSimpArgs false
namespace Go.Bf
open Go.AM
theorem last_er : ∀ l : List Tm, lastNot7 (ers l) = lastNot7 l
  | [] => rfl
  | [t] => by rw [ers, ers, lastNot7, lastNot7, er_kind]
  | t :: u :: l => last_er (u :: l)
theorem empty_er (t : Tm) (x y z : Bool) : emptyF (er t) x y z = emptyF t x y z := by
  cases t; rw [er, emptyF, emptyF, ers_length]
theorem kindOk_er (t : Tm) : kindOk (er t) = kindOk t := by
  cases t with
  | mk k i s c nf ns af ar =>
    have e := empty_er (.mk k i s c nf ns af ar)
    rw [er] at e ⊢
    rw [kindOk, kindOk]
    simp only [e, ers_length, last_er]
theorem form_er (t : Tm) : formF (er t) = formF t := by
  cases t with
  | mk k i s c nf ns af ar =>
    have e := kindOk_er (.mk k i s c nf ns af ar)
    rw [er] at e ⊢
    rw [formF, formF, e]
theorem walk_er : ∀ t deep n d, walkF (er t) deep n d = walkF t deep n d := by
  refine tm_ind fun k i s c nf ns af ar ih deep n d => ?_
  have go : ∀ (l : List Tm), (∀ t, t ∈ l → t ∈ ar) → ∀ deep n d, walkFs (ers l) deep n d = walkFs l deep n d := by
    intro l
    induction l with
    | nil => intro _ _ _ _; rfl
    | cons t l ihl =>
      intro hl deep n d
      rw [ers, walkFs, walkFs, ih t (hl t (by simp))]
      split
      · exact ihl (fun t h => hl t (by simp [h])) _ _ _
      · rfl
  have e := form_er (.mk k i s c nf ns af ar)
  rw [er] at e ⊢
  rw [walkF, walkF, e, go ar (fun _ h => h)]
theorem chk_er (t : Tm) : chkF (er t) = chkF t := by rw [chkF, walk_er, ← chkF]
theorem chk_same {a b : Tm} (h : er a = er b) : chkF a = chkF b := by rw [← chk_er a, h, chk_er]
theorem isT_same {a b : Tm} (h : er a = er b) : isT a = isT b := by rw [isT, isT, chk_same h]
theorem same_of {a b : Tm} (h : er a = er b) : sameF a b = true := (same_er a b).2 h
end Go.Bf

set_option linter.unusedVariables false
set_option linter.unusedSimpArgs false
set_option maxRecDepth 20000
namespace Go.Bf
open Go.AM
def nsAV : Tm → AV | .mk _ _ _ _ nf ns _ _ => slAV nf ns.length (u32s ns)
def arAV : Tm → AV | .mk _ _ _ _ _ _ af ar => slAV af ar.length (tcs ar)
def Tm.int : Tm → Int | .mk _ i _ _ _ _ _ _ => i
def Tm.cre : Tm → Int | .mk _ _ _ c _ _ _ _ => c
theorem ldc_t {t : Tm} : ldCells true 6 (tc t) = some (.agg (tc t)) := by cases t; rfl
theorem ldc_k {t : Tm} : ldCells false 1 (tc t) = some (.int .i64 t.kind) := by cases t; rfl
theorem ldc_i {t : Tm} : ldCells false 1 ((tc t).drop 1) = some (.int .i64 t.int) := by cases t; rfl
theorem ldc_s {t : Tm} : ldCells false 1 ((tc t).drop 2) = some (.str t.text) := by cases t; rfl
theorem ldc_c {t : Tm} : ldCells false 1 ((tc t).drop 3) = some (.int .u32 t.cre) := by cases t; rfl
theorem ldc_n {t : Tm} : ldCells false 1 ((tc t).drop 4) = some (nsAV t) := by cases t; rfl
theorem ldc_a {t : Tm} : ldCells false 1 ((tc t).drop 5) = some (arAV t) := by cases t; rfl
theorem arAV_sl (t : Tm) : Sl (arAV t) t.args := by
  cases t; exact sl_of _ _
theorem row_arAV {t : Tm} : (arAV t).row = some [arAV t] := by
  cases t with
  | mk k i s c nf ns af ar => cases af with
    | none => cases ar <;> rfl
    | some b => rfl
theorem fill12t {a b : Tm} : aFill [.int .i64 0, .int .i64 0, .str [], .int .u32 0, .nils, .nils, .int .i64 0, .int .i64 0, .str [], .int .u32 0, .nils, .nils] [(0, 6, .agg (tc a)), (6, 6, .agg (tc b))] = some (tc a ++ tc b) := by
  cases a; cases b; rfl
theorem fill6t {a : Tm} : aFill [.int .i64 0, .int .i64 0, .str [], .int .u32 0, .nils, .nils] [(0, 6, .agg (tc a))] = some (tc a) := by
  cases a; rfl
theorem fill60 : aFill [.int .i64 0, .int .i64 0, .str [], .int .u32 0, .nils, .nils] [] = some zero6 := id rfl
theorem len12t {a b : Tm} : (tc a ++ tc b).length = 12 := by cases a; cases b; rfl
theorem len_zero6 : zero6.length = 6 := id rfl
theorem ldc_z : ldCells true 6 zero6 = some (.agg zero6) := id rfl
theorem noRefs_zero6 : AV.noRefs zero6 = true := id rfl
theorem noRefs_tc {t : Tm} : AV.noRefs (tc t) = true := noRef_tc t
theorem tcs2 (a b : Tm) : tcs [a, b] = tc a ++ tc b := by simp [tcs]
theorem sl_two (a b : Tm) : Sl (.fs true 2 (tc a ++ tc b)) [a, b] := by
  rw [← tcs2]; exact .fs true [a, b]
theorem sl_one (a : Tm) : Sl (.fs true 1 (tc a)) [a] := by
  have : tc a = tcs [a] := by simp [tcs]
  rw [this]; exact .fs true [a]
theorem t3 : type_of% (And.intro (@ldc_t) (And.intro (@ldc_k) (And.intro (@ldc_i) (And.intro (@ldc_s) (And.intro (@ldc_c) (And.intro (@ldc_n) (And.intro (@ldc_a) (And.intro (@row_arAV) (And.intro (@fill12t) (And.intro (@fill6t) (And.intro (@fill60) (And.intro (@len12t) (And.intro (@len_zero6) (And.intro (@ldc_z) (And.intro (@noRefs_zero6) (And.intro (@noRefs_tc) (@tc_length))))))))))))))))) := And.intro (@ldc_t) (And.intro (@ldc_k) (And.intro (@ldc_i) (And.intro (@ldc_s) (And.intro (@ldc_c) (And.intro (@ldc_n) (And.intro (@ldc_a) (And.intro (@row_arAV) (And.intro (@fill12t) (And.intro (@fill6t) (And.intro (@fill60) (And.intro (@len12t) (And.intro (@len_zero6) (And.intro (@ldc_z) (And.intro (@noRefs_zero6) (And.intro (@noRefs_tc) (@tc_length))))))))))))))))
theorem sl1 {v : AV} {a : Tm} (k : Sl v [a]) : ∃ A, aIdxAddr 6 v (.int .i64 0) = some (.fp A) ∧ ldCells true 6 A = some (.agg (tc a)) ∧ ∀ h, aLenOp false h v = some ⟨.int .i64 1, h, .none⟩ := by
  cases k with
  | fs b' l => exact ⟨tc a ++ tcs [], by cases a; rfl, by cases a; rfl, fun h => rfl⟩
end Go.Bf

set_option linter.unusedVariables false
set_option linter.unusedSimpArgs false
set_option maxRecDepth 20000
namespace Go.Bf
open Go.AM
def last6 : List Tm → Bool
  | [] => false
  | [t] => t.kind == 6
  | _ :: t :: l => last6 (t :: l)
def elemsF (t : Tm) : Option (List Tm) := if t.kind = 6 then some [] else if t.kind = 7 ∧ last6 t.args = true then some t.args.dropLast else none
theorem last6_get : ∀ (l : List Tm) (h : l.length - 1 < l.length), last6 l = (l[l.length - 1].kind == 6)
  | [], h => by simp at h
  | [t], h => rfl
  | t :: u :: l, h => by
    rw [last6, last6_get (u :: l) (by simp)]
    simp
theorem tcs_take : ∀ (l : List Tm) (i : Nat), (tcs l).take (i * 6) = tcs (l.take i)
  | [], i => by simp [tcs]
  | t :: l, 0 => by simp [tcs]
  | t :: l, i + 1 => by
    have e : (i + 1) * 6 = (tc t).length + i * 6 := by rw [tc_length]; omega
    rw [tcs, e, List.take_append, List.take_of_length_le (by omega), Nat.add_sub_cancel_left, tcs_take l i, List.take_succ_cons, tcs]
theorem sb_ok {n i : Nat} {k : IntKind} (h : i ≤ n) : sbound n (.int k i) = some i := by
  show (if 0 ≤ (i : Int) ∧ (i : Int) ≤ n then some ((i : Int).toNat) else none) = some i
  rw [if_pos ⟨by omega, by omega⟩]; rfl
theorem Sl.init {v : AV} {l : List Tm} (k : Sl v l) (hl : l ≠ []) : ∃ v', aSlice 6 v none (some (.int .i64 ((l.length - 1 : Nat) : Int))) (some (.int .i64 ((l.length - 1 : Nat) : Int))) = some v' ∧ Sl v' l.dropLast := by
  cases k with
  | nil => exact absurd rfl hl
  | fs b l =>
    have hb : bounds l.length l.length none (some (.int .i64 ((l.length - 1 : Nat) : Int))) (some (.int .i64 ((l.length - 1 : Nat) : Int))) = some (0, l.length - 1, l.length - 1) := by
      simp only [bounds, sb_ok (Nat.sub_le _ _), sb_ok (Nat.le_refl _), Option.bind_some, Option.map_some]
    refine ⟨.fs true (l.length - 1) (tcs l.dropLast), ?_, ?_⟩
    · simp only [aSlice, tcs_length, hb, Option.map_some, if_true, Nat.sub_zero, Nat.zero_mul, List.drop_zero, beq_self_eq_true, tcs_take, List.dropLast_eq_take]
    · have := Sl.fs true l.dropLast
      rwa [List.length_dropLast] at this
  
/-- a slice of terms that can be read -/
structure Src (h : Heap) (v : AV) (l : List Tm) : Prop where
  len : aLen v = some l.length
  cells : ∃ c, sliceCells h 6 l.length v = some (tcs l, c)
  nil : ∃ b, aEq .slice v .nils = some b ∧ (b = true → l = [])
theorem Sl.src {v : AV} {l : List Tm} (k : Sl v l) (h : Heap) : Src h v l := by
  cases k with
  | nil => exact ⟨rfl, ⟨.none, rfl⟩, ⟨true, rfl, fun _ => rfl⟩⟩
  | fs b l =>
    refine ⟨rfl, ⟨.none, ?_⟩, ⟨false, rfl, fun e => by cases e⟩⟩
    simp only [sliceCells, tcs_length]
    rw [if_pos ⟨Nat.le_refl _, trivial⟩, List.take_of_length_le (by rw [tcs_length]; exact Nat.le_refl _)]
theorem aLenOp_of {v : AV} {n : Nat} (e : aLen v = some n) (hs : ∀ s, v ≠ .str s) (h : Heap) : aLenOp false h v = some ⟨.int .i64 n, h, .none⟩ := by
  cases v <;> simp only [aLen, Option.some.injEq, reduceCtorEq] at e <;> first | (subst e; rfl) | exact absurd rfl (hs _)
theorem Src.lenOp {h : Heap} {v : AV} {l : List Tm} (k : Src h v l) (h2 : Heap) : aLenOp false h2 v = some ⟨.int .i64 l.length, h2, .none⟩ := by
  refine aLenOp_of k.len (fun s e => ?_) h2
  subst e
  obtain ⟨b, e, _⟩ := k.nil
  cases e
/-- slices.Clone of terms -/
theorem clone_ts {h : Heap} {v : AV} {l : List Tm} (k : Src h v l) (hn : l.length ≤ 100000000) (ho : HeapOk h) : ∃ v' h', WC env 104 [v] h (fun o => o = .ret ⟨v', h', .write⟩) ∧ HeapOk h' ∧ h.le h' ∧ Acc h' 6 v' (tcs l) ∧ aLen v' = some l.length ∧ ∀ id, v'.own = some id → h.next ≤ id := by
  obtain ⟨b, eb, hb⟩ := k.nil
  cases b with
  | true =>
    have e3 := hb rfl
    subst e3
    refine ⟨.nils, h, ?_, ho, Heap.le_refl h, .nils, rfl, fun id e => by cases e⟩
    refine call_body rfl rfl (.inl rfl) ?_
    simp only [a104, a104_0, a104_1, a104_2, Slots.ofList, wpc_draw, s3, reduceIte, Nat.reduceEqDiff, aBin, aInt, negIf, Option.some.injEq, exists_eq_left', Option.map_some, Option.bind_some, eb, h3, List.length_cons, List.length_nil, List.drop_zero, List.drop_succ_cons, Nat.reduceAdd, Nat.le_refl, and_self, true_and, if_true, Bool.and_self, Nat.reduceLeDiff, _root_.eq_self, and_true]
  | false =>
    obtain ⟨c0, hc⟩ := k.cells
    obtain ⟨v', h', c', w1, k1, l1, ho', l3, l4⟩ := Acc.append (bt := 88) ho (by omega : 0 < 6) (Acc.full (h := h) (sz := 6) 0 [] rfl) (m := 0) rfl k.len hc (tcs_length l) (by omega) (by omega)
    rw [List.nil_append] at k1
    rw [Nat.zero_add] at l4
    refine ⟨v', h', ?_, ho', ⟨l1.1, fun id gen cs e => l1.2 id gen cs (by intro e2; cases e2) e⟩, k1, l4, fun id e => (l3 id e).elim (fun e2 => by cases e2) (fun e2 => e2)⟩
    refine call_body rfl rfl (.inl rfl) ?_
    have y1 : aFill [] [] = some [] := rfl
    simp only [a104, a104_0, a104_1, a104_3, Slots.ofList, wpc_draw, s3, reduceIte, Nat.reduceEqDiff, aBin, aInt, negIf, Option.some.injEq, exists_eq_left', Option.map_some, Option.bind_some, eb, y1, List.length_nil, Nat.reduceMul, Nat.zero_mul, w1, isC c', h3, List.length_cons, List.length_nil, List.drop_zero, List.drop_succ_cons, Nat.reduceAdd, Nat.le_refl, and_self, true_and, if_true, Bool.and_self, Nat.reduceLeDiff, _root_.eq_self, and_true]
def zeros6 (n : Nat) : List AV := (List.replicate n zero6).flatten
theorem zeros6_len (n : Nat) : (zeros6 n).length = n * 6 := by simp [zeros6, zero6]
theorem grow_spec {n : Nat} (hn : 0 < n) (hn2 : n ≤ 100000000) (h : Heap) : WC env 143 [.nils, .int .i64 n] h (fun o => o = .ret ⟨.sl h.next 0 0 6 0 none, h.new (zeros6 n), .write⟩) := by
  have z0 : ((n : Int) < 0) = False := eq_false (by omega)
  have z1 : IntKind.wrap .i64 ((0 : Int) - 0) = 0 := by decide
  have z2 : IntKind.wrap .i64 ((n : Int) - 0) = (n : Int) := wrap_nat (by omega) (by omega)
  have z3 : ((n : Int) > 0) = True := eq_true (by omega)
  have c0 : aCap .nils = some (.int .i64 0) := rfl
  have l0 : ∀ h, aLenOp false h .nils = some ⟨.int .i64 0, h, .none⟩ := fun h => rfl
  have s0 : aSlice 6 .nils none (some (.int .i64 0)) none = some .nils := rfl
  have w1 : aAppendZ h 6 88 [.int .i64 0, .int .i64 0, .str [], .int .u32 0, .nils, .nils] .nils (.int .i64 n) = some ⟨.sl h.next 0 0 6 n none, h.new (zeros6 n), .write⟩ := by
    simp only [aAppendZ]
    rw [if_pos ⟨by omega, by omega, by omega, by omega, rfl⟩]
    rfl
  have s1 : aSlice 6 (.sl h.next 0 0 6 n none) none (some (.int .i64 0)) none = some (.sl h.next 0 0 6 0 none) := by
    have hb : bounds n n none (some (.int .i64 0)) none = some (0, 0, n) := by
      have := sb_ok (n := n) (i := 0) (k := .i64) (Nat.zero_le _)
      have this : sbound n (.int .i64 0) = some 0 := this
      simp only [bounds, this, Option.bind_some, Option.map_some]
    simp only [aSlice, if_true, hb, Option.map_some, Option.map_none, Nat.zero_mul, Nat.sub_zero, Nat.add_zero]
  refine call_body rfl rfl (.inl rfl) ?_
  simp only [a143, a143_0, a143_1, a143_3, a143_4, a143_5, a143_6, Slots.ofList, wpc_draw, s3, reduceIte, Nat.reduceEqDiff, aBin, aInt, negIf, Option.some.injEq, exists_eq_left', Option.map_some, Option.bind_some, z0, z1, z2, z3, c0, l0, s0, w1, s1, h3, List.length_cons, List.length_nil, List.drop_zero, List.drop_succ_cons, Nat.reduceAdd, Nat.le_refl, and_self, true_and, if_true, Bool.and_self, Nat.reduceLeDiff, _root_.eq_self, and_true]
/-- an append where there is room -/
theorem append_in {h : Heap} {id n m : Nat} {cs new : List AV} {y : AV} {c : Cls} (hat : h.at_ id 0 = some cs) (hy : aLen y = some m) (hm : m ≠ 0) (hc : sliceCells h 6 m y = some (new, c)) (hr : (n + m) * 6 ≤ cs.length) (hb : n + m ≤ 100000000) :
    aAppend h 6 88 (.sl id 0 0 6 n none) y = some ⟨.sl id 0 0 6 (n + m) none, h.upd id 0 (splice cs (n * 6) new), .write⟩ := by
  unfold aAppend
  rw [hy, Option.bind_some]
  simp only [aLen, Option.bind_some]
  rw [if_pos ⟨by omega, by omega, by omega⟩, if_neg hm, hc]
  simp only [Option.bind_some, if_true, hat, Nat.zero_add]
  rw [if_pos hr]
theorem concat_spec {h : Heap} {v1 v2 : AV} {l m : List Tm} (k1 : Sl v1 l) (k2 : Sl v2 m) (h1 : l ≠ []) (h2 : m ≠ []) (hn : l.length + m.length ≤ 100000) (ho : HeapOk h) :
    ∃ h', WC env 131 [.fs true 2 [v1, v2]] h (fun o => o = .ret ⟨.sl h.next 0 0 6 (l.length + m.length) none, h', .write⟩) ∧ HeapOk h' ∧ h.le h' ∧ h'.at_ h.next 0 = some (tcs (l ++ m)) := by
  have ll : l.length ≠ 0 := fun e => h1 (List.length_eq_zero_iff.1 e)
  have ml : m.length ≠ 0 := fun e => h2 (List.length_eq_zero_iff.1 e)
  have nl : ∀ h, aLenOp false h (.fs true 2 [v1, v2]) = some ⟨.int .i64 2, h, .none⟩ := fun h => rfl
  have i0 : aIdxAddr 1 (.fs true 2 [v1, v2]) (.int .i64 0) = some (.fp [v1, v2]) := rfl
  have i1 : aIdxAddr 1 (.fs true 2 [v1, v2]) (.int .i64 1) = some (.fp [v2]) := rfl
  have n1 := k1.len
  have n2 := k2.len
  have w1 : IntKind.wrap .i64 ((0 : Int) + l.length) = (l.length : Int) := wrap_nat (by omega) (by omega)
  have w2 : IntKind.wrap .i64 ((l.length : Int) + m.length) = ((l.length + m.length : Nat) : Int) := wrap_nat (by omega) (by omega)
  have z1 : ((l.length : Int) < 0) = False := eq_false (by omega)
  have z2 : (((l.length + m.length : Nat) : Int) < 0) = False := eq_false (by omega)
  have e1 : IntKind.wrap .i64 ((0 : Int) + 1) = 1 := by decide
  have e2 : IntKind.wrap .i64 ((1 : Int) + 1) = 2 := by decide
  have t0 : ((0 : Int) < 2) = True := eq_true (by decide)
  have t1 : ((1 : Int) < 2) = True := eq_true (by decide)
  have t2 : ((2 : Int) < 2) = False := eq_false (by decide)
  have wg := grow_spec (n := l.length + m.length) (by omega) (by omega)
  obtain ⟨c1, s1⟩ := (k1.src (h.new (zeros6 (l.length + m.length)))).cells
  have a1 := append_in (n := 0) (at_new (h := h) (zeros6 (l.length + m.length))) (k1.src h).len ll s1 (by rw [zeros6_len]; omega) (by omega)
  rw [Nat.zero_add, Nat.zero_mul] at a1
  have q1 : splice (zeros6 (l.length + m.length)) 0 (tcs l) = tcs l ++ (zeros6 (l.length + m.length)).drop (l.length * 6) := by
    simp only [splice, List.take_zero, List.nil_append, Nat.zero_add, tcs_length]
  rw [q1] at a1
  obtain ⟨c2, s2⟩ := (k2.src ((h.new (zeros6 (l.length + m.length))).upd h.next 0 (tcs l ++ (zeros6 (l.length + m.length)).drop (l.length * 6)))).cells
  have a2 := append_in (n := l.length) (at_upd (h := h.new (zeros6 (l.length + m.length))) (id := h.next) (gen := 0) (cs := tcs l ++ (zeros6 (l.length + m.length)).drop (l.length * 6))) (k2.src h).len ml s2 (by rw [List.length_append, List.length_drop, tcs_length, zeros6_len]; omega) (by omega)
  have q2 : splice (tcs l ++ (zeros6 (l.length + m.length)).drop (l.length * 6)) (l.length * 6) (tcs m) = tcs (l ++ m) := by
    have d : (tcs l ++ (zeros6 (l.length + m.length)).drop (l.length * 6)).drop (l.length * 6 + m.length * 6) = [] := List.drop_of_length_le (by rw [List.length_append, List.length_drop, tcs_length, zeros6_len]; omega)
    simp only [splice, tcs_length, d, List.append_nil]
    rw [List.take_append_of_le_length (by rw [tcs_length]; exact Nat.le_refl _), List.take_of_length_le (by rw [tcs_length]; exact Nat.le_refl _), tcs_append]
  rw [q2] at a2
  refine ⟨((h.new (zeros6 (l.length + m.length))).upd h.next 0 (tcs l ++ (zeros6 (l.length + m.length)).drop (l.length * 6))).upd h.next 0 (tcs (l ++ m)), ?_, ((ho.new _).upd (at_look.1 (at_new _)) _ _).upd (at_look.1 at_upd) _ _, ⟨by simp only [next_upd, next_new]; omega, fun id gen cs e => ?_⟩, at_upd⟩
  · refine call_body rfl rfl (.inl rfl) ?_
    simp only [a131, a131_0, a131_1, a131_2, Slots.ofList, wpc_draw, s3, reduceIte, Nat.reduceEqDiff, aBin, aInt, negIf, Option.some.injEq, exists_eq_left', Option.map_some, Option.bind_some, nl]
    refine wpr_round' fun q hq => ?_
    simp only [a131_l9, a131_3, a131_4, a131_5, a131_6, a131_8, wpc_draw, s3, reduceIte, Nat.reduceEqDiff, aBin, aInt, negIf, Option.some.injEq, exists_eq_left', Option.map_some, Option.bind_some, h3, List.length_cons, List.length_nil, List.drop_zero, List.drop_succ_cons, Nat.reduceAdd, Nat.le_refl, and_self, true_and, if_true, Bool.and_self, Nat.reduceLeDiff, _root_.eq_self, and_true, t0, t1, t2, i0, i1, n1, n2, w1, w2, z1, z2, e1, e2]
    subst hq
    refine wpr_round' fun q hq => ?_
    simp only [a131_l9, a131_3, a131_4, a131_5, a131_6, a131_8, wpc_draw, s3, reduceIte, Nat.reduceEqDiff, aBin, aInt, negIf, Option.some.injEq, exists_eq_left', Option.map_some, Option.bind_some, h3, List.length_cons, List.length_nil, List.drop_zero, List.drop_succ_cons, Nat.reduceAdd, Nat.le_refl, and_self, true_and, if_true, Bool.and_self, Nat.reduceLeDiff, _root_.eq_self, and_true, t0, t1, t2, i0, i1, n1, n2, w1, w2, z1, z2, e1, e2]
    subst hq
    refine wpr_round' fun q hq => ?_
    simp only [a131_l9, a131_3, a131_10, a131_11, wpc_draw, s3, reduceIte, Nat.reduceEqDiff, aBin, aInt, negIf, Option.some.injEq, exists_eq_left', Option.map_some, Option.bind_some, t2, wc_eq (wg _), nl]
    refine wpr_round' fun q hq => ?_
    simp only [a131_l16, a131_12, a131_13, a131_14, a131_15, wpc_draw, s3, reduceIte, Nat.reduceEqDiff, aBin, aInt, negIf, Option.some.injEq, exists_eq_left', Option.map_some, Option.bind_some, h3, List.length_cons, List.length_nil, List.drop_zero, List.drop_succ_cons, Nat.reduceAdd, Nat.le_refl, and_self, true_and, if_true, Bool.and_self, Nat.reduceLeDiff, _root_.eq_self, and_true, t0, t1, t2, i0, i1, e1, e2, a1]
    subst hq
    refine wpr_round' fun q hq => ?_
    simp only [a131_l16, a131_12, a131_13, a131_14, a131_15, wpc_draw, s3, reduceIte, Nat.reduceEqDiff, aBin, aInt, negIf, Option.some.injEq, exists_eq_left', Option.map_some, Option.bind_some, h3, List.length_cons, List.length_nil, List.drop_zero, List.drop_succ_cons, Nat.reduceAdd, Nat.le_refl, and_self, true_and, if_true, Bool.and_self, Nat.reduceLeDiff, _root_.eq_self, and_true, t0, t1, t2, i0, i1, e1, e2, a2]
    subst hq
    refine wpr_round' fun q hq => ?_
    simp only [a131_l16, a131_12, a131_17, wpc_draw, s3, reduceIte, Nat.reduceEqDiff, aBin, aInt, negIf, Option.some.injEq, exists_eq_left', Option.map_some, Option.bind_some, h3, List.length_cons, List.length_nil, List.drop_zero, List.drop_succ_cons, Nat.reduceAdd, Nat.le_refl, and_self, true_and, if_true, Bool.and_self, Nat.reduceLeDiff, _root_.eq_self, and_true, t2]
  · have hlt := ho.lt e
    rw [at_upd_ne (by omega), at_upd_ne (by omega)]
    exact (le_new ho _).2 _ _ _ e
end Go.Bf

set_option linter.unusedVariables false
set_option linter.unusedSimpArgs false
set_option maxRecDepth 20000
namespace Go.Bf
open Go.AM
theorem _root_.Go.AM.Heap.le_trans2 {a b c : Heap} (x : a.le b) (y : b.le c) : a.le c := ⟨Nat.le_trans x.1 y.1, fun id gen cs e => y.2 _ _ _ (x.2 _ _ _ e)⟩
def nilT : Tm := .mk 6 0 [] 0 none [] none []
theorem null_spec (h : Heap) : WC env 108 [] h (fun o => o = .ret ⟨.agg (tc nilT), h, .none⟩) := wc_run (n := 30) (by kernel_rfl)
theorem fillKV {v : AV} {k : Int} (hv : v.row = some [v]) : aFill [.int .i64 0, .int .i64 0, .str [], .int .u32 0, .nils, .nils] [(0, 1, .int .i64 k), (5, 1, v)] = some [.int .i64 k, .int .i64 0, .str [], .int .u32 0, .nils, v] := by
  show ((some [AV.int .i64 k]).bind fun vs => if vs.length = 1 ∧ 0 + 1 ≤ 6 then aFill (splice _ 0 vs) [(5, 1, v)] else none) = _
  simp only [Option.bind_some, List.length_singleton]
  rw [if_pos ⟨trivial, by decide⟩]
  show (v.row.bind fun vs => if vs.length = 1 ∧ 5 + 1 ≤ _ then aFill (splice _ 5 vs) [] else none) = _
  rw [hv]
  rfl
/-- a term of elements and a tail -/
def listT (l : List Tm) (tail : Tm) (f : Option Bool) : Tm := if l = [] then tail else .mk 7 0 [] 0 none [] f (l ++ if tail.kind = 7 then tail.args else [tail])
theorem list_body {h0 : Heap} {v : AV} {l : List Tm} {tail : Tm} (ho : HeapOk h0) (hk : ∀ h, h0.le h → Src h v l) (hn : l.length ≤ 100000) (hc : l = [] ∨ tail.kind ≠ 7) {Q : AExit → St → Prop}
    (hQ : ∀ σ' h' i4 cells, HeapOk h' → h0.le h' → h'.at_ i4 0 = some cells → σ'.get 4 = .ptr i4 0 0 → (l = [] → cells = tc tail) → (l ≠ [] → ∃ v', cells = [.int .i64 7, .int .i64 0, .str [], .int .u32 0, .nils, v'] ∧ Acc h' 6 v' (tcs (l ++ [tail])) ∧ aLen v' = some (l.length + 1) ∧ (∀ id, v'.own = some id → h0.next ≤ id ∧ id ≠ i4)) → Q .ret ⟨σ', h'⟩) :
    wpc env a103.body ⟨Slots.ofList 0 [v, .agg (tc tail)] .empty, h0⟩ Q := by
  obtain ⟨h1, eh1⟩ : ∃ h1, h1 = h0.new (tc tail) := ⟨_, rfl⟩
  have ho1 : HeapOk h1 := by rw [eh1]; exact ho.new _
  have b1 : h1.at_ h0.next 0 = some (tc tail) := by rw [eh1]; exact at_new _
  obtain ⟨h2, eh2⟩ : ∃ h2, h2 = h1.new [.int .i64 0, .int .i64 0, .str [], .int .u32 0, .nils, .nils] := ⟨_, rfl⟩
  have ho2 : HeapOk h2 := by rw [eh2]; exact ho1.new _
  have b2 : h2.at_ h0.next 0 = some (tc tail) := by rw [eh2]; exact (le_new ho1 _).2 _ _ _ b1
  have z2 : h2.at_ h1.next 0 = some zero6 := by rw [eh2]; exact at_new _
  have le2 : h0.le h2 := by rw [eh2, eh1]; exact Heap.le_trans2 (le_new ho _) (le_new (ho.new _) _)
  obtain ⟨i3, e3⟩ : ∃ i3, i3 = h0.next := ⟨_, rfl⟩
  obtain ⟨i4, e4⟩ : ∃ i4, i4 = h1.next := ⟨_, rfl⟩
  have ne34 : (i3 = i4) = False := eq_false (by rw [e3, e4, eh1]; simp only [next_new]; omega)
  rw [← e3] at b1 b2
  rw [← e4] at z2
  have nl := (hk h2 le2).lenOp
  by_cases h : l = []
  · have z0 : (((l.length : Nat) : Int) == 0) = true := by rw [h]; rfl
    simp only [a103, a103_0, a103_1, a103_2, Slots.ofList, s3, reduceIte, Nat.reduceEqDiff, aBin, aInt, negIf, Option.some.injEq, exists_eq_left', Option.map_some, Option.bind_some, row_agg, tc_length, if_true, ← eh1, ← eh2, ← e3, ← e4, nl, z0, aLoad_ptr, aStore_w, b2, z2, t3, List.drop_zero, Nat.le_refl, and_self]
    refine hQ _ _ i4 (tc tail) (ho2.upd (at_look.1 z2) _ _) ⟨le2.1, fun id gen cs e => ?_⟩ at_upd (by simp only [get_put, reduceIte, Nat.reduceEqDiff]) (fun _ => rfl) (fun hne => absurd h hne)
    have hlt := ho.lt e
    rw [at_upd_ne (by rw [e4, eh1]; simp only [next_new]; omega)]
    exact le2.2 _ _ _ e
  · have ll : l.length ≠ 0 := fun e => h (List.length_eq_zero_iff.1 e)
    have hk7 : tail.kind ≠ 7 := hc.resolve_left h
    have z0 : (((l.length : Nat) : Int) == 0) = false := by simp; omega
    have z7 : (tail.kind == 7) = false := by simpa using hk7
    obtain ⟨v1, h3, wc1, ho3, le3, k1, n1, ow1⟩ := clone_ts (hk h2 le2) (by omega) ho2
    have b3 := le3.2 _ _ _ b2
    have z3 := le3.2 _ _ _ z2
    have hi3 := ho2.lt b2
    have hi4 := ho2.lt z2
    obtain ⟨v2, h4, c4, w4, k4, lb4, ho4, ow4, n4⟩ := Acc.append (bt := 88) ho3 (by omega : 0 < 6) k1 n1 (show aLen (.fs true 1 (tc tail)) = some 1 from rfl) (one_t h3 tail) (by rw [tc_length]) (by omega) (by omega)
    have fresh : ∀ id, v2.own = some id → h2.next ≤ id := fun id e => by
      rcases ow4 id e with e2 | e2
      · exact ow1 _ e2
      · exact Nat.le_trans le3.1 e2
    have b4 : h4.at_ i3 0 = some (tc tail) := lb4.2 _ _ _ (fun e => by have := ow1 _ e; omega) b3
    have z4 : h4.at_ i4 0 = some zero6 := lb4.2 _ _ _ (fun e => by have := ow1 _ e; omega) z3
    have fl := fillKV (k := 7) k4.row
    have rt : (tcs l ++ tc tail) = tcs (l ++ [tail]) := by rw [tcs_append, tcs, tcs, List.append_nil]
    rw [rt] at k4
    simp only [a103, a103_0, a103_1, a103_3, Slots.ofList, s3, reduceIte, Nat.reduceEqDiff, aBin, aInt, negIf, Option.some.injEq, exists_eq_left', Option.map_some, Option.bind_some, row_agg, tc_length, if_true, ← eh1, ← eh2, ← e3, ← e4, nl, z0, aLoad_ptr, aFld_p, Nat.zero_add, b2, t3, List.drop_zero, z7]
    apply draw_to
    · simp only [a103_5, s3, reduceIte, Nat.reduceEqDiff, aBin, aInt, negIf, Option.some.injEq, exists_eq_left', Option.map_some, Option.bind_some, wpl_nil', wpl_none, wpl_some, gval_bool, logK_c, logQ_apply, guardL_tt, guardL_ff, guardL_tf, guardL_ft, drawQ_apply, endQ_apply, wc_eq wc1, aLoad_ptr, aStore_w, b3, z4, t3, List.drop_zero, Nat.mul_one, Nat.one_mul, if_true, w4, isC c4, fl, List.length_cons, List.length_nil, len_zero6, Nat.reduceAdd, Nat.le_refl, and_self]
      refine ⟨draw_of_cls3 [2] (by cases c4 <;> rfl) ⟨?_, trivial⟩, rfl⟩
      refine steady_load (.ptr i3 0 0) (.agg (tc tail)) ?_ ?_
      · simp only [opd_t, get_put, reduceIte, Nat.reduceEqDiff]
      · simp only [allLd_cons, allLd_nil, List.map_cons, List.map_nil, aLoad_ptr, at_upd_if, ne34, if_false, b2, b3, b4, Option.map_some, Option.bind_some, t3, List.drop_zero, and_self]
    simp only [s3, reduceIte, Nat.reduceEqDiff, aBin, aInt, negIf, Option.some.injEq, exists_eq_left', Option.map_some, Option.bind_some]
    refine hQ _ _ i4 _ (ho4.upd (at_look.1 z4) _ _) ⟨Nat.le_trans le2.1 (Nat.le_trans le3.1 lb4.1), fun id gen cs e => ?_⟩ at_upd (by simp only [get_put, reduceIte, Nat.reduceEqDiff]) (fun e => absurd e h) (fun _ => ⟨v2, rfl, ?_, n4, fun id e => ⟨?_, ?_⟩⟩)
    · have hlt := ho.lt e
      rw [at_upd_ne (by rw [e4, eh1]; simp only [next_new]; omega)]
      exact lb4.2 _ _ _ (fun e2 => by have := ow1 _ e2; have := le2.1; omega) (le3.2 _ _ _ (le2.2 _ _ _ e))
    · refine k4.chg (upd_chg (S := fun j => j = i4) rfl) fun id e => ?_
      have := fresh _ e; omega
    · have := fresh _ e; have := le2.1; omega
    · have := fresh _ e; omega
theorem list_spec {v : AV} {l : List Tm} (k : Sl v l) (tail : Tm) (hn : l.length ≤ 50000) (hm : tail.args.length ≤ 50000) (h7 : tail.kind = 7 → tail.args ≠ []) : ∃ f, ∀ h, WC env 103 [v, .agg (tc tail)] h (fun o => o = .ret ⟨.agg (tc (listT l tail f)), h, .none⟩) := by
  have hr : AV.noRefs [v, .agg (tc tail)] = true := by simp only [AV.noRefs, AV.noRef, k.noRef, noRef_tc, Bool.and_self]
  by_cases h0 : l = [] ∨ tail.kind ≠ 7
  · have key : ∃ f, ∀ h, WC env 103 [v, .agg (tc tail)] h (fun o => o = .ret ⟨.agg (tc (listT l tail f)), h, .none⟩) := by
      have base : ∃ f, WC env 103 [v, .agg (tc tail)] .empty (fun o => o = .ret ⟨.agg (tc (listT l tail f)), .empty, .none⟩) := by
        have out : ∃ o : COut, WC env 103 [v, .agg (tc tail)] .empty (fun o' => o' = o) ∧ ∃ f, o = .ret ⟨.agg (tc (listT l tail f)), .empty, .none⟩ := by
          have hw : WC env 103 [v, .agg (tc tail)] .empty (fun o => ∃ f, o = .ret ⟨.agg (tc (listT l tail f)), .empty, .none⟩) := by
            refine call_pure rfl rfl rfl hr (list_body HeapOk.empty (fun h _ => k.src h) (by omega) h0 fun σ' h' i4 cells ho' hle hat g4 c0 c1 => ?_)
            by_cases hl : l = []
            · have ec := c0 hl
              subst ec
              refine ⟨[AV.agg (tc tail)], AV.agg (tc tail), by simp only [a103, Env.results, Option.map_some, g4, aLoad_ptr, hat, Option.bind_some, List.drop_zero, t3], (frz_noRef (v := .agg (tc tail)) (noRef_tc _)).2 rfl, none, ?_⟩
              rw [listT, if_pos hl]
            · obtain ⟨v', rfl, ka, na, _⟩ := c1 hl
              obtain ⟨f, hf⟩ := frz_acc ka (noRef_tcs _) na
              have e7 : ¬ tail.kind = 7 := h0.resolve_left hl
              refine ⟨[AV.agg [.int .i64 7, .int .i64 0, .str [], .int .u32 0, .nils, v']], AV.agg (tc (listT l tail f)), by simp only [a103, Env.results, Option.map_some, g4, aLoad_ptr, hat, Option.bind_some, List.drop_zero, ldc6], ?_, f, rfl⟩
              rw [listT, if_neg hl, if_neg e7]
              refine frz_agg ⟨_, _, rfl, (frz_noRef (v := .int .i64 7) rfl).2 rfl, _, _, rfl, (frz_noRef (v := .int .i64 0) rfl).2 rfl, _, _, rfl, (frz_noRef (v := .str []) rfl).2 rfl, _, _, rfl, (frz_noRef (v := .int .u32 0) rfl).2 rfl, _, _, rfl, (frz_noRef (v := .nils) rfl).2 rfl, _, _, rfl, ?_, rfl⟩
              have := hf
              rwa [show l.length + 1 = (l ++ [tail]).length by simp] at this
          obtain ⟨o, hn, f, e⟩ := hw
          exact ⟨o, ⟨o, hn, rfl⟩, f, e⟩
        obtain ⟨o, w, f, rfl⟩ := out
        exact ⟨f, w⟩
      obtain ⟨f, w⟩ := base
      exact ⟨f, fun h => pure_any rfl rfl rfl hr w⟩
    exact key
  · have hl : l ≠ [] := fun e => h0 (.inl e)
    have e7 : tail.kind = 7 := Decidable.not_not.1 fun e => h0 (.inr e)
    refine ⟨some false, fun h => call_pure rfl rfl rfl hr ?_⟩
    have ll : l.length ≠ 0 := fun e => hl (List.length_eq_zero_iff.1 e)
    have z0 : (((l.length : Nat) : Int) == 0) = false := by simp; omega
    have z7 : (tail.kind == 7) = true := by simpa using e7
    obtain ⟨h1, eh1⟩ : ∃ h1, h1 = Heap.empty.new (tc tail) := ⟨_, rfl⟩
    have ho1 : HeapOk h1 := by rw [eh1]; exact HeapOk.empty.new _
    have b1 : h1.at_ Heap.empty.next 0 = some (tc tail) := by rw [eh1]; exact at_new _
    obtain ⟨h2, eh2⟩ : ∃ h2, h2 = h1.new [.int .i64 0, .int .i64 0, .str [], .int .u32 0, .nils, .nils] := ⟨_, rfl⟩
    have ho2 : HeapOk h2 := by rw [eh2]; exact ho1.new _
    have b2 : h2.at_ Heap.empty.next 0 = some (tc tail) := by rw [eh2]; exact (le_new ho1 _).2 _ _ _ b1
    have z2 : h2.at_ h1.next 0 = some zero6 := by rw [eh2]; exact at_new _
    have ka := arAV_sl tail
    obtain ⟨h3, wc3, ho3, le3, a3⟩ := concat_spec k ka hl (h7 e7) (by omega) ho2
    have z3 := le3.2 _ _ _ z2
    have hi4 := ho2.lt z2
    have fl := fillKV (v := .sl h2.next 0 0 6 (l.length + tail.args.length) none) (k := 7) rfl
    have f2 : aFill [.nils, .nils] [(0, 1, v), (1, 1, arAV tail)] = some [v, arAV tail] := by
      have r1 : v.row = some [v] := by cases k <;> rfl
      show (v.row.bind fun vs => if vs.length = 1 ∧ 0 + 1 ≤ 2 then aFill (splice [.nils, .nils] 0 vs) [(1, 1, arAV tail)] else none) = _
      rw [r1]
      show (((arAV tail).row).bind fun vs => if vs.length = 1 ∧ 1 + 1 ≤ 2 then aFill (splice [v, .nils] 1 vs) [] else none) = _
      rw [row_arAV]
      rfl
    have l2 : ([v, arAV tail] : List AV).length = 2 * 1 := rfl
    have nl := k.len
    simp only [a103, a103_0, a103_1, a103_3, a103_4, Slots.ofList, s3, reduceIte, Nat.reduceEqDiff, aBin, aInt, negIf, Option.some.injEq, exists_eq_left', Option.map_some, Option.bind_some, row_agg, tc_length, if_true, ← eh1, ← eh2, nl, z0, aLoad_ptr, aStore_w, aFld_p, Nat.zero_add, b2, t3, List.drop_zero, z7, f2, l2, wc_eq wc3, fl, z3, List.length_cons, List.length_nil, len_zero6, Nat.reduceAdd, Nat.le_refl, and_self]
    refine ⟨[.agg [.int .i64 7, .int .i64 0, .str [], .int .u32 0, .nils, .sl h2.next 0 0 6 (l.length + tail.args.length) none]], _, by simp only [Env.results, Option.map_some, get_put, reduceIte, Nat.reduceEqDiff, aLoad_ptr, at_upd_if, if_true, Option.bind_some, List.drop_zero, ldc6] <;> rfl, ?_, rfl⟩
    have a4 : (h3.upd h1.next 0 [.int .i64 7, .int .i64 0, .str [], .int .u32 0, .nils, .sl h2.next 0 0 6 (l.length + tail.args.length) none]).at_ h2.next 0 = some (tcs (l ++ tail.args)) := by
      rw [at_upd_ne (by omega)]; exact a3
    have kc : Acc (h3.upd h1.next 0 [.int .i64 7, .int .i64 0, .str [], .int .u32 0, .nils, .sl h2.next 0 0 6 (l.length + tail.args.length) none]) 6 (.sl h2.next 0 0 6 (l.length + tail.args.length) none) (tcs (l ++ tail.args)) := .sl _ _ _ _ a4 (by rw [tcs_length, List.length_append])
    have ht : (tcs (l ++ tail.args)).drop 0 = tcs (l ++ tail.args) := rfl
    rw [listT, if_neg hl, if_pos e7]
    refine frz_agg ⟨_, _, rfl, (frz_noRef (v := .int .i64 7) rfl).2 rfl, _, _, rfl, (frz_noRef (v := .int .i64 0) rfl).2 rfl, _, _, rfl, (frz_noRef (v := .str []) rfl).2 rfl, _, _, rfl, (frz_noRef (v := .int .u32 0) rfl).2 rfl, _, _, rfl, (frz_noRef (v := .nils) rfl).2 rfl, _, _, rfl, ?_, rfl⟩
    have htk : ((tcs (l ++ tail.args)).drop 0).take ((l.length + tail.args.length) * 6) = tcs (l ++ tail.args) := by
      rw [List.drop_zero]; exact List.take_of_length_le (by rw [tcs_length, List.length_append]; exact Nat.le_refl _)
    refine (frz_sl a4 (by rw [tcs_length, List.length_append]; omega) (by rw [htk]; exact noRef_tcs _)).2 ?_
    rw [htk, List.length_append]
    rfl
end Go.Bf

set_option linter.unusedVariables false
set_option linter.unusedSimpArgs false
set_option maxRecDepth 20000
namespace Go.Bf
open Go.AM
theorem wf_any {t : Tm} (w : Wf t) : t.args.length ≤ 4096 ∧ (t.kind = 7 → 2 ≤ t.args.length) ∧ Wfs t.args := by
  cases t with
  | mk k i s c nf ns af ar =>
    refine ⟨w.1.2, fun e => ?_, w.2⟩
    have e : k = 7 := e
    subst e
    exact wf_list2 w
theorem ok_args {t : Tm} (ok : t.Ok) : Oks t.args := by
  cases t with
  | mk k i s c nf ns af ar => exact ok.lens.2.2.2
theorem ldk {l : List Tm} {i : Nat} (hi : i < l.length) : ldCells false 1 ((tcs l).drop (i * 6)) = some (.int .i64 l[i].kind) := by
  rw [tcs_drop l i hi]
  cases l[i]; rfl
theorem elements_spec (t : Tm) (w : Wf t) : ∃ v, Sl v ((elemsF t).getD []) ∧ ∀ h, WC env 102 [.agg (tc t)] h (fun o => o = .ret ⟨.tup [v, .bool (elemsF t).isSome], h, .none⟩) := by
  obtain ⟨hl, h2, _⟩ := wf_any w
  have ka := arAV_sl t
  have nl := ka.len
  have hr : AV.noRefs [.agg (tc t)] = true := by simp only [AV.noRefs, AV.noRef, noRef_tc, Bool.and_self]
  obtain ⟨m, em⟩ : ∃ m, m = IntKind.wrap .i64 ((t.args.length : Int) - 1) := ⟨_, rfl⟩
  by_cases k6 : t.kind = 6
  · have e : elemsF t = some [] := by rw [elemsF, if_pos k6]
    have z6 : (t.kind == 6) = true := by simpa using k6
    rw [e]
    refine ⟨.nils, .nil, fun h => call_pure rfl rfl rfl hr ?_⟩
    simp only [a102, a102_0, a102_1, a102_2, a102_3, Slots.ofList, wpc_draw, s3, reduceIte, Nat.reduceEqDiff, aBin, aInt, negIf, Option.some.injEq, exists_eq_left', Option.map_some, Option.bind_some, h3, List.length_cons, List.length_nil, List.drop_zero, List.drop_succ_cons, Nat.reduceAdd, Nat.le_refl, and_self, true_and, if_true, Bool.and_self, Nat.reduceLeDiff, _root_.eq_self, and_true, exists_eq', t3, nl, z6, reduceIte, Nat.reduceEqDiff, Option.isSome_some]
  have z6 : (t.kind == 6) = false := by simpa using k6
  by_cases k7 : t.kind = 7
  · have z7 : (t.kind == 7) = true := by simpa using k7
    have hm : IntKind.wrap .i64 ((t.args.length : Int) - 1) = ((t.args.length - 1 : Nat) : Int) := wrap_nat (by have := h2 k7; omega) (by omega)
    have hi : t.args.length - 1 < t.args.length := by have := h2 k7; omega
    have hne : t.args ≠ [] := fun e => by rw [e] at hi; simp at hi
    have lx := ka.idx hi
    have lk := ldk hi
    have d0 : ∀ l : List AV, l.drop 0 = l := fun _ => rfl
    cases e6 : last6 t.args with
    | true =>
      have e : elemsF t = some t.args.dropLast := by rw [elemsF, if_neg k6, if_pos ⟨k7, e6⟩]
      have zk : (t.args[t.args.length - 1].kind == 6) = true := by rw [← last6_get _ hi]; exact e6
      obtain ⟨v, hv, kv⟩ := ka.init hne
      rw [e]
      refine ⟨v, kv, fun h => call_pure rfl rfl rfl hr ?_⟩
      have hvr := kv.noRef
      simp only [a102, a102_0, a102_1, a102_2, a102_4, a102_5, Slots.ofList, wpc_draw, s3, reduceIte, Nat.reduceEqDiff, aBin, aInt, negIf, Option.some.injEq, exists_eq_left', Option.map_some, Option.bind_some, h3, List.length_cons, List.length_nil, List.drop_zero, List.drop_succ_cons, Nat.reduceAdd, Nat.le_refl, and_self, true_and, if_true, Bool.and_self, Nat.reduceLeDiff, _root_.eq_self, and_true, exists_eq', t3, nl, z6, z7, hm, lx, d0, lk, zk, hv, hvr, reduceIte, Nat.reduceEqDiff, Option.isSome_some]
    | false =>
      have e : elemsF t = none := by rw [elemsF, if_neg k6, if_neg (fun h => by rw [e6] at h; cases h.2)]
      have zk : (t.args[t.args.length - 1].kind == 6) = false := by rw [← last6_get _ hi]; exact e6
      rw [e]
      refine ⟨.nils, .nil, fun h => call_pure rfl rfl rfl hr ?_⟩
      simp only [a102, a102_0, a102_1, a102_2, a102_4, a102_6, Slots.ofList, wpc_draw, s3, reduceIte, Nat.reduceEqDiff, aBin, aInt, negIf, Option.some.injEq, exists_eq_left', Option.map_some, Option.bind_some, h3, List.length_cons, List.length_nil, List.drop_zero, List.drop_succ_cons, Nat.reduceAdd, Nat.le_refl, and_self, true_and, if_true, Bool.and_self, Nat.reduceLeDiff, _root_.eq_self, and_true, exists_eq', t3, nl, z6, z7, hm, lx, d0, lk, zk, reduceIte, Nat.reduceEqDiff, Option.isSome_none]
  · have z7 : (t.kind == 7) = false := by simpa using k7
    have e : elemsF t = none := by rw [elemsF, if_neg k6, if_neg (fun h => k7 h.1)]
    rw [e]
    refine ⟨.nils, .nil, fun h => call_pure rfl rfl rfl hr ?_⟩
    simp only [a102, a102_0, a102_1, a102_2, a102_4, a102_6, Slots.ofList, wpc_draw, s3, reduceIte, Nat.reduceEqDiff, aBin, aInt, negIf, Option.some.injEq, exists_eq_left', Option.map_some, Option.bind_some, h3, List.length_cons, List.length_nil, List.drop_zero, List.drop_succ_cons, Nat.reduceAdd, Nat.le_refl, and_self, true_and, if_true, Bool.and_self, Nat.reduceLeDiff, _root_.eq_self, and_true, exists_eq', t3, nl, z6, z7, reduceIte, Nat.reduceEqDiff, Option.isSome_none]
theorem elems_len {t : Tm} {l : List Tm} (w : Wf t) (e : elemsF t = some l) : l.length ≤ 4096 ∧ ∀ x, x ∈ l → x ∈ t.args := by
  obtain ⟨hl, _⟩ := wf_any w
  rw [elemsF] at e
  split at e
  · cases e; exact ⟨by simp, fun x m => by simp at m⟩
  split at e
  · cases e
    exact ⟨by rw [List.length_dropLast]; omega, fun x m => List.dropLast_subset _ m⟩
  · cases e
end Go.Bf

set_option linter.unusedVariables false
set_option linter.unusedSimpArgs false
set_option maxRecDepth 20000
namespace Go.Bf
open Go.AM
/-- a slice of terms that is written: its array may be longer -/
inductive Own6 (h : Heap) (lo : Nat) : AV → List Tm → Prop
  | nils : Own6 h lo .nils []
  | full : Own6 h lo (.fs true 0 []) []
  | sl (id : Nat) (cs : List AV) (l : List Tm) : h.at_ id 0 = some cs → lo ≤ id → l.length * 6 ≤ cs.length → cs.take (l.length * 6) = tcs l → Own6 h lo (.sl id 0 0 6 l.length none) l
theorem Own6.chg {h h' : Heap} {lo : Nat} {v : AV} {l : List Tm} (k : Own6 h lo v l) (c : ∀ id cs, lo ≤ id → h.at_ id 0 = some cs → h'.at_ id 0 = some cs) : Own6 h' lo v l := by
  cases k with
  | nils => exact .nils
  | full => exact .full
  | sl id cs l h1 h2 h3 h4 => exact .sl id cs l (c _ _ h2 h1) h2 h3 h4
theorem Own6.lenOp {h : Heap} {lo : Nat} {v : AV} {l : List Tm} (k : Own6 h lo v l) (h2 : Heap) : aLenOp false h2 v = some ⟨.int .i64 l.length, h2, .none⟩ := by
  cases k <;> rfl
theorem Own6.src {h : Heap} {lo : Nat} {v : AV} {l : List Tm} (k : Own6 h lo v l) : Src h v l := by
  cases k with
  | nils => exact ⟨rfl, ⟨.none, rfl⟩, ⟨true, rfl, fun _ => rfl⟩⟩
  | full => exact ⟨rfl, ⟨.none, rfl⟩, ⟨false, rfl, fun e => by cases e⟩⟩
  | sl id cs l h1 h2 h3 h4 =>
    refine ⟨rfl, ⟨.read, ?_⟩, ⟨false, rfl, fun e => by cases e⟩⟩
    show (if 6 = 6 ∧ l.length ≤ l.length then (h.at_ id 0).bind fun cs => if 0 + l.length * 6 ≤ cs.length then some ((cs.drop 0).take (l.length * 6), Cls.read) else none else none) = _
    rw [if_pos ⟨rfl, Nat.le_refl _⟩, h1, Option.bind_some, if_pos (by omega), List.drop_zero, h4]
theorem Own6.ld {h : Heap} {lo : Nat} {v : AV} {l : List Tm} (k : Own6 h lo v l) {i : Nat} (hi : i < l.length) : ∃ p, aIdxAddr 6 v (.int .i64 i) = some p ∧ aLoad h true 6 p = some ⟨.agg (tc l[i]), h, .read⟩ := by
  cases k with
  | nils => simp at hi
  | full => simp at hi
  | sl id cs l h1 h2 h3 h4 =>
    refine ⟨.ptr id 0 (0 + i * 6), ?_, ?_⟩
    · simp only [aIdxAddr, if_true, aIndex_nat (kd := .i64) hi, Option.map_some]
    · have e : ldCells true 6 (cs.drop (0 + i * 6)) = some (.agg (tc l[i])) := by
        have hd := tcs_drop l i hi
        rw [← h4, List.drop_take] at hd
        have ht : (cs.drop (i * 6)).take 6 = tc l[i] := by
          have h6 : 6 ≤ l.length * 6 - i * 6 := by omega
          have := congrArg (List.take 6) hd
          rw [tc_take, List.take_take, Nat.min_eq_left h6] at this
          exact this
        rw [Nat.zero_add]
        show (if 6 ≤ (cs.drop (i * 6)).length then some (AV.agg ((cs.drop (i * 6)).take 6)) else none) = _
        rw [if_pos (by rw [List.length_drop]; omega), ht]
      rw [aLoad_ptr, h1, Option.bind_some, e]; rfl
end Go.Bf

set_option linter.unusedVariables false
set_option linter.unusedSimpArgs false
set_option maxRecDepth 20000
namespace Go.Bf
open Go.AM
end Go.Bf

set_option linter.unusedVariables false
set_option linter.unusedSimpArgs false
set_option maxRecDepth 20000
namespace Go.Bf
open Go.AM
end Go.Bf

set_option linter.unusedVariables false
set_option linter.unusedSimpArgs false
set_option maxRecDepth 20000
namespace Go.Bf
open Go.AM
end Go.Bf

set_option linter.unusedVariables false
set_option linter.unusedSimpArgs false
set_option maxRecDepth 20000
namespace Go.Bf
open Go.AM
def intT (n : Int) : Tm := .mk 1 n [] 0 none [] none []
theorem rint_spec' (x : Int) (h : Heap) : WC env 22 [.int .i64 x] h (fun o => o = .ret ⟨.agg (tc (intT x)), h, .none⟩) := rint_spec x h
theorem Sl.row {v : AV} {l : List Tm} (k : Sl v l) : v.row = some [v] := by cases k <;> rfl
theorem c38_l2t {v : AV} {r : Tm} {cd : Int} (hv : v.noRef = true) (hr : ∀ h, WC env 68 [.str [108, 105, 115, 116, 95, 116, 111, 95, 116, 117, 112, 108, 101], v] h (fun o => o = .ret ⟨.tup [.agg (tc r), .int .i64 cd], h, .none⟩)) (h : Heap) : WC env 38 [.str [108, 105, 115, 116, 95, 116, 111, 95, 116, 117, 112, 108, 101], v] h (fun o => o = .ret ⟨.tup [.agg (tc r), .int .i64 cd], h, .none⟩) := by
  have n0 : (([108, 105, 115, 116, 95, 116, 111, 95, 116, 117, 112, 108, 101] : List UInt8) == [43]) = false := by decide
  have n1 : (([108, 105, 115, 116, 95, 116, 111, 95, 116, 117, 112, 108, 101] : List UInt8) == [45]) = false := by decide
  have n2 : (([108, 105, 115, 116, 95, 116, 111, 95, 116, 117, 112, 108, 101] : List UInt8) == [42]) = false := by decide
  have n3 : (([108, 105, 115, 116, 95, 116, 111, 95, 116, 117, 112, 108, 101] : List UInt8) == [100, 105, 118]) = false := by decide
  have n4 : (([108, 105, 115, 116, 95, 116, 111, 95, 116, 117, 112, 108, 101] : List UInt8) == [114, 101, 109]) = false := by decide
  have n5 : (([108, 105, 115, 116, 95, 116, 111, 95, 116, 117, 112, 108, 101] : List UInt8) == [97, 110, 100]) = false := by decide
  have n6 : (([108, 105, 115, 116, 95, 116, 111, 95, 116, 117, 112, 108, 101] : List UInt8) == [111, 114]) = false := by decide
  have n7 : (([108, 105, 115, 116, 95, 116, 111, 95, 116, 117, 112, 108, 101] : List UInt8) == [120, 111, 114]) = false := by decide
  have n8 : (([108, 105, 115, 116, 95, 116, 111, 95, 116, 117, 112, 108, 101] : List UInt8) == [110, 111, 116]) = false := by decide
  have n9 : (([108, 105, 115, 116, 95, 116, 111, 95, 116, 117, 112, 108, 101] : List UInt8) == [61, 61]) = false := by decide
  have n10 : (([108, 105, 115, 116, 95, 116, 111, 95, 116, 117, 112, 108, 101] : List UInt8) == [47, 61]) = false := by decide
  have n11 : (([108, 105, 115, 116, 95, 116, 111, 95, 116, 117, 112, 108, 101] : List UInt8) == [61, 60]) = false := by decide
  have n12 : (([108, 105, 115, 116, 95, 116, 111, 95, 116, 117, 112, 108, 101] : List UInt8) == [60]) = false := by decide
  have n13 : (([108, 105, 115, 116, 95, 116, 111, 95, 116, 117, 112, 108, 101] : List UInt8) == [62, 61]) = false := by decide
  have n14 : (([108, 105, 115, 116, 95, 116, 111, 95, 116, 117, 112, 108, 101] : List UInt8) == [62]) = false := by decide
  have n15 : (([108, 105, 115, 116, 95, 116, 111, 95, 116, 117, 112, 108, 101] : List UInt8) == [61, 58, 61]) = false := by decide
  have n16 : (([108, 105, 115, 116, 95, 116, 111, 95, 116, 117, 112, 108, 101] : List UInt8) == [61, 47, 61]) = false := by decide
  have n17 : (([108, 105, 115, 116, 95, 116, 111, 95, 116, 117, 112, 108, 101] : List UInt8) == [109, 97, 120]) = false := by decide
  have n18 : (([108, 105, 115, 116, 95, 116, 111, 95, 116, 117, 112, 108, 101] : List UInt8) == [109, 105, 110]) = false := by decide
  have n19 : (([108, 105, 115, 116, 95, 116, 111, 95, 116, 117, 112, 108, 101] : List UInt8) == [43, 43]) = false := by decide
  have n20 : (([108, 105, 115, 116, 95, 116, 111, 95, 116, 117, 112, 108, 101] : List UInt8) == [45, 45]) = false := by decide
  have wp : ∀ h, WC env 66 [.str [108, 105, 115, 116, 95, 116, 111, 95, 116, 117, 112, 108, 101], .str [105, 115, 95]] h (fun o => o = .ret ⟨.bool false, h, .none⟩) := fun h => wc_run (n := 30) (by kernel_rfl)
  refine call_pure rfl rfl rfl (by simp only [AV.noRefs, AV.noRef, hv, Bool.and_self]) ?_
  simp only [a38, a38_0, a38_1, a38_2, a38_3, a38_4, a38_5, a38_6, a38_10, a38_11, a38_12, a38_14, a38_16, a38_17, a38_18, a38_19, a38_20, a38_21, a38_22, a38_23, a38_25, a38_26, a38_31, a38_32, a38_34, a38_36, Slots.ofList, wpc_draw, s3, reduceIte, Nat.reduceEqDiff, aBin, aInt, negIf, Option.some.injEq, exists_eq_left', Option.map_some, Option.bind_some, aStr, n0, n1, n2, n3, n4, n5, n6, n7, n8, n9, n10, n11, n12, n13, n14, n15, n16, n17, n18, n19, n20, wc_eq (wp _), wc_eq (hr _), h3, List.length_cons, List.length_nil, List.drop_zero, List.drop_succ_cons, Nat.reduceAdd, Nat.le_refl, and_self, true_and, if_true, Bool.and_self, Nat.reduceLeDiff, _root_.eq_self, and_true, exists_eq', t3, reduceIte, Nat.reduceEqDiff]
theorem part_l2t {v : AV} {t : Tm} (kv : Sl v [t]) (w : Wf t) {l : List Tm} (e : elemsF t = some l) : ∃ f, ∀ h, WC env 68 [.str [108, 105, 115, 116, 95, 116, 111, 95, 116, 117, 112, 108, 101], v] h (fun o => o = .ret ⟨.tup [.agg (tc (.mk 5 0 [] 0 none [] f l)), .int .i64 0], h, .none⟩) := by
  obtain ⟨A, x0, lA, nl⟩ := sl1 kv
  obtain ⟨u, ku, we⟩ := elements_spec t w
  rw [e] at we ku
  have e1 : (Option.isSome (some l : Option (List Tm))) = true := rfl
  rw [e1] at we
  have ku : Sl u l := ku
  obtain ⟨f, ef⟩ := ku.eq
  have fl := fillKV (v := u) (k := 5) ku.row
  have er : AV.agg [.int .i64 5, .int .i64 0, .str [], .int .u32 0, .nils, u] = .agg (tc (.mk 5 0 [] 0 none [] f l)) := by rw [ef]; rfl
  have n0 : (([108, 105, 115, 116, 95, 116, 111, 95, 116, 117, 112, 108, 101] : List UInt8) == [97, 98, 115]) = false := by decide
  have n1 : (([108, 105, 115, 116, 95, 116, 111, 95, 116, 117, 112, 108, 101] : List UInt8) == [101, 108, 101, 109, 101, 110, 116]) = false := by decide
  have n2 : (([108, 105, 115, 116, 95, 116, 111, 95, 116, 117, 112, 108, 101] : List UInt8) == [115, 101, 116, 101, 108, 101, 109, 101, 110, 116]) = false := by decide
  have n3 : (([108, 105, 115, 116, 95, 116, 111, 95, 116, 117, 112, 108, 101] : List UInt8) == [104, 100]) = false := by decide
  have n4 : (([108, 105, 115, 116, 95, 116, 111, 95, 116, 117, 112, 108, 101] : List UInt8) == [116, 108]) = false := by decide
  have n5 : (([108, 105, 115, 116, 95, 116, 111, 95, 116, 117, 112, 108, 101] : List UInt8) == [110, 111, 100, 101]) = false := by decide
  have n6 : (([108, 105, 115, 116, 95, 116, 111, 95, 116, 117, 112, 108, 101] : List UInt8) == [116, 117, 112, 108, 101, 95, 115, 105, 122, 101]) = false := by decide
  have n7 : (([108, 105, 115, 116, 95, 116, 111, 95, 116, 117, 112, 108, 101] : List UInt8) == [116, 117, 112, 108, 101, 95, 116, 111, 95, 108, 105, 115, 116]) = false := by decide
  have n8 : (([108, 105, 115, 116, 95, 116, 111, 95, 116, 117, 112, 108, 101] : List UInt8) == [108, 101, 110, 103, 116, 104]) = false := by decide
  have n9 : (([108, 105, 115, 116, 95, 116, 111, 95, 116, 117, 112, 108, 101] : List UInt8) == [108, 105, 115, 116, 95, 116, 111, 95, 116, 117, 112, 108, 101]) = true := by decide
  refine ⟨f, fun h => call_pure rfl rfl rfl (by simp only [AV.noRefs, AV.noRef, kv.noRef, Bool.and_self]) ?_⟩
  simp only [a68, a68_0, a68_1, a68_2, a68_3, a68_6, a68_10, a68_16, a68_17, a68_23, a68_26, a68_29, a68_32, a68_36, a68_37, a68_38, a68_39, Slots.ofList, wpc_draw, s3, reduceIte, Nat.reduceEqDiff, aBin, aInt, negIf, Option.some.injEq, exists_eq_left', Option.map_some, Option.bind_some, h3, List.length_cons, List.length_nil, List.drop_zero, List.drop_succ_cons, Nat.reduceAdd, Nat.le_refl, and_self, true_and, if_true, Bool.and_self, Nat.reduceLeDiff, _root_.eq_self, and_true, exists_eq', t3, aStr, n0, n1, n2, n3, n4, n5, n6, n7, n8, n9, x0, lA, wc_eq (we _), fl, er, reduceIte, Nat.reduceEqDiff]
theorem c38_t2l {v : AV} {r : Tm} {cd : Int} (hv : v.noRef = true) (hr : ∀ h, WC env 68 [.str [116, 117, 112, 108, 101, 95, 116, 111, 95, 108, 105, 115, 116], v] h (fun o => o = .ret ⟨.tup [.agg (tc r), .int .i64 cd], h, .none⟩)) (h : Heap) : WC env 38 [.str [116, 117, 112, 108, 101, 95, 116, 111, 95, 108, 105, 115, 116], v] h (fun o => o = .ret ⟨.tup [.agg (tc r), .int .i64 cd], h, .none⟩) := by
  have n0 : (([116, 117, 112, 108, 101, 95, 116, 111, 95, 108, 105, 115, 116] : List UInt8) == [43]) = false := by decide
  have n1 : (([116, 117, 112, 108, 101, 95, 116, 111, 95, 108, 105, 115, 116] : List UInt8) == [45]) = false := by decide
  have n2 : (([116, 117, 112, 108, 101, 95, 116, 111, 95, 108, 105, 115, 116] : List UInt8) == [42]) = false := by decide
  have n3 : (([116, 117, 112, 108, 101, 95, 116, 111, 95, 108, 105, 115, 116] : List UInt8) == [100, 105, 118]) = false := by decide
  have n4 : (([116, 117, 112, 108, 101, 95, 116, 111, 95, 108, 105, 115, 116] : List UInt8) == [114, 101, 109]) = false := by decide
  have n5 : (([116, 117, 112, 108, 101, 95, 116, 111, 95, 108, 105, 115, 116] : List UInt8) == [97, 110, 100]) = false := by decide
  have n6 : (([116, 117, 112, 108, 101, 95, 116, 111, 95, 108, 105, 115, 116] : List UInt8) == [111, 114]) = false := by decide
  have n7 : (([116, 117, 112, 108, 101, 95, 116, 111, 95, 108, 105, 115, 116] : List UInt8) == [120, 111, 114]) = false := by decide
  have n8 : (([116, 117, 112, 108, 101, 95, 116, 111, 95, 108, 105, 115, 116] : List UInt8) == [110, 111, 116]) = false := by decide
  have n9 : (([116, 117, 112, 108, 101, 95, 116, 111, 95, 108, 105, 115, 116] : List UInt8) == [61, 61]) = false := by decide
  have n10 : (([116, 117, 112, 108, 101, 95, 116, 111, 95, 108, 105, 115, 116] : List UInt8) == [47, 61]) = false := by decide
  have n11 : (([116, 117, 112, 108, 101, 95, 116, 111, 95, 108, 105, 115, 116] : List UInt8) == [61, 60]) = false := by decide
  have n12 : (([116, 117, 112, 108, 101, 95, 116, 111, 95, 108, 105, 115, 116] : List UInt8) == [60]) = false := by decide
  have n13 : (([116, 117, 112, 108, 101, 95, 116, 111, 95, 108, 105, 115, 116] : List UInt8) == [62, 61]) = false := by decide
  have n14 : (([116, 117, 112, 108, 101, 95, 116, 111, 95, 108, 105, 115, 116] : List UInt8) == [62]) = false := by decide
  have n15 : (([116, 117, 112, 108, 101, 95, 116, 111, 95, 108, 105, 115, 116] : List UInt8) == [61, 58, 61]) = false := by decide
  have n16 : (([116, 117, 112, 108, 101, 95, 116, 111, 95, 108, 105, 115, 116] : List UInt8) == [61, 47, 61]) = false := by decide
  have n17 : (([116, 117, 112, 108, 101, 95, 116, 111, 95, 108, 105, 115, 116] : List UInt8) == [109, 97, 120]) = false := by decide
  have n18 : (([116, 117, 112, 108, 101, 95, 116, 111, 95, 108, 105, 115, 116] : List UInt8) == [109, 105, 110]) = false := by decide
  have n19 : (([116, 117, 112, 108, 101, 95, 116, 111, 95, 108, 105, 115, 116] : List UInt8) == [43, 43]) = false := by decide
  have n20 : (([116, 117, 112, 108, 101, 95, 116, 111, 95, 108, 105, 115, 116] : List UInt8) == [45, 45]) = false := by decide
  have wp : ∀ h, WC env 66 [.str [116, 117, 112, 108, 101, 95, 116, 111, 95, 108, 105, 115, 116], .str [105, 115, 95]] h (fun o => o = .ret ⟨.bool false, h, .none⟩) := fun h => wc_run (n := 30) (by kernel_rfl)
  refine call_pure rfl rfl rfl (by simp only [AV.noRefs, AV.noRef, hv, Bool.and_self]) ?_
  simp only [a38, a38_0, a38_1, a38_2, a38_3, a38_4, a38_5, a38_6, a38_10, a38_11, a38_12, a38_14, a38_16, a38_17, a38_18, a38_19, a38_20, a38_21, a38_22, a38_23, a38_25, a38_26, a38_31, a38_32, a38_34, a38_36, Slots.ofList, wpc_draw, s3, reduceIte, Nat.reduceEqDiff, aBin, aInt, negIf, Option.some.injEq, exists_eq_left', Option.map_some, Option.bind_some, aStr, n0, n1, n2, n3, n4, n5, n6, n7, n8, n9, n10, n11, n12, n13, n14, n15, n16, n17, n18, n19, n20, wc_eq (wp _), wc_eq (hr _), h3, List.length_cons, List.length_nil, List.drop_zero, List.drop_succ_cons, Nat.reduceAdd, Nat.le_refl, and_self, true_and, if_true, Bool.and_self, Nat.reduceLeDiff, _root_.eq_self, and_true, exists_eq', t3, reduceIte, Nat.reduceEqDiff]
theorem part_t2l {v : AV} {t : Tm} (kv : Sl v [t]) (k5 : t.kind = 5) (hn : t.args.length ≤ 50000) : ∃ f, ∀ h, WC env 68 [.str [116, 117, 112, 108, 101, 95, 116, 111, 95, 108, 105, 115, 116], v] h (fun o => o = .ret ⟨.tup [.agg (tc (listT t.args nilT f)), .int .i64 0], h, .none⟩) := by
  obtain ⟨A, x0, lA, nl⟩ := sl1 kv
  obtain ⟨f, wl⟩ := list_spec (arAV_sl t) nilT hn (by show (0 : Nat) ≤ _; omega) (fun e => by cases e)
  have z5 : (t.kind == 5) = true := by simpa using k5
  have n0 : (([116, 117, 112, 108, 101, 95, 116, 111, 95, 108, 105, 115, 116] : List UInt8) == [97, 98, 115]) = false := by decide
  have n1 : (([116, 117, 112, 108, 101, 95, 116, 111, 95, 108, 105, 115, 116] : List UInt8) == [101, 108, 101, 109, 101, 110, 116]) = false := by decide
  have n2 : (([116, 117, 112, 108, 101, 95, 116, 111, 95, 108, 105, 115, 116] : List UInt8) == [115, 101, 116, 101, 108, 101, 109, 101, 110, 116]) = false := by decide
  have n3 : (([116, 117, 112, 108, 101, 95, 116, 111, 95, 108, 105, 115, 116] : List UInt8) == [104, 100]) = false := by decide
  have n4 : (([116, 117, 112, 108, 101, 95, 116, 111, 95, 108, 105, 115, 116] : List UInt8) == [116, 108]) = false := by decide
  have n5 : (([116, 117, 112, 108, 101, 95, 116, 111, 95, 108, 105, 115, 116] : List UInt8) == [110, 111, 100, 101]) = false := by decide
  have n6 : (([116, 117, 112, 108, 101, 95, 116, 111, 95, 108, 105, 115, 116] : List UInt8) == [116, 117, 112, 108, 101, 95, 115, 105, 122, 101]) = false := by decide
  have n7 : (([116, 117, 112, 108, 101, 95, 116, 111, 95, 108, 105, 115, 116] : List UInt8) == [116, 117, 112, 108, 101, 95, 116, 111, 95, 108, 105, 115, 116]) = true := by decide
  refine ⟨f, fun h => call_pure rfl rfl rfl (by simp only [AV.noRefs, AV.noRef, kv.noRef, Bool.and_self]) ?_⟩
  simp only [a68, a68_0, a68_1, a68_2, a68_3, a68_6, a68_10, a68_16, a68_17, a68_23, a68_26, a68_29, a68_30, Slots.ofList, s3, reduceIte, Nat.reduceEqDiff, aBin, aInt, negIf, Option.some.injEq, exists_eq_left', Option.map_some, Option.bind_some, h3, List.length_cons, List.length_nil, List.drop_zero, List.drop_succ_cons, Nat.reduceAdd, Nat.le_refl, and_self, true_and, if_true, Bool.and_self, Nat.reduceLeDiff, _root_.eq_self, and_true, exists_eq', t3, aStr, n0, n1, n2, n3, n4, n5, n6, n7, x0, lA, z5, reduceIte, Nat.reduceEqDiff]
  refine wpc_draw_k ?_
  simp only [s3, reduceIte, Nat.reduceEqDiff, aBin, aInt, negIf, Option.some.injEq, exists_eq_left', Option.map_some, Option.bind_some, k3, h3, List.length_cons, List.length_nil, List.drop_zero, List.drop_succ_cons, Nat.reduceAdd, Nat.le_refl, and_self, true_and, if_true, Bool.and_self, Nat.reduceLeDiff, _root_.eq_self, and_true, exists_eq', t3, a68_31, wc_eq (null_spec _), wc_eq (wl _), reduceIte, Nat.reduceEqDiff]
  rfl
end Go.Bf

set_option linter.unusedVariables false
set_option linter.unusedSimpArgs false
namespace Go.Bf
open Go.AM
theorem walk_mono : ∀ t : Tm, ∀ deep n d deep' n' d', n ≤ 4096 → d ≤ 256 → deep' ≤ deep → n' ≤ n → (walkF t deep n d).1 = none → (walkF t deep' n' d').1 = none ∧ (walkF t deep' n' d').2.1 ≤ (walkF t deep n d).2.1 := by
  refine tm_ind fun k i s c nf ns af ar ih deep n d deep' n' d' hn hdd hd hn' h => ?_
  have go : ∀ (l : List Tm), (∀ t, t ∈ l → t ∈ ar) → ∀ deep n d deep' n' d', n ≤ 4096 → d ≤ 256 → deep' ≤ deep → n' ≤ n → (walkFs l deep n d).1 = none → (walkFs l deep' n' d').1 = none ∧ (walkFs l deep' n' d').2.1 ≤ (walkFs l deep n d).2.1 := by
    intro l
    induction l with
    | nil => intro _ _ _ _ _ _ _ _ _ _ h2 _; exact ⟨rfl, h2⟩
    | cons t l ihl =>
      intro hl deep n d deep' n' d' hn hdd hd hn' h
      rw [walkFs] at h ⊢
      have h1 := ih t (hl t (by simp)) deep n d deep' n' d' hn hdd hd hn'
      have hle := walk_le t deep n d hn hdd
      cases e : walkF t deep n d with
      | mk r nd =>
        obtain ⟨n1, d1⟩ := nd
        rw [e] at h h1 hle
        cases r with
        | some _ => cases h
        | none =>
          obtain ⟨g1, g2⟩ := h1 rfl
          cases e' : walkF t deep' n' d' with
          | mk r' nd' =>
            obtain ⟨n1', d1'⟩ := nd'
            rw [e'] at g1 g2
            have g1 : r' = none := g1
            subst g1
            have h : (walkFs l deep n1 d1).1 = none := h
            have := ihl (fun t m => hl t (by simp [m])) deep n1 d1 deep' n1' d1' hle.1 hle.2 hd g2 h
            rw [walkFs, e]
            exact this
  rw [walkF] at h ⊢
  split at h
  · cases h
  rename_i c1
  split at h
  · cases h
  rename_i c2
  rw [if_neg (by omega), if_neg (by omega)]
  cases ef : formF (.mk k i s c nf ns af ar) with
  | some x => rw [ef] at h; cases h
  | none =>
    rw [ef] at h
    have := go ar (fun _ m => m) (deep + 1) (n + 1) (max d deep) (deep' + 1) (n' + 1) (max d' deep') (by omega) (by omega) (by omega) (by omega) h
    rw [walkF, if_neg c1, if_neg c2, ef]
    exact this
theorem isT_iff (t : Tm) : isT t = true ↔ chkF t = none := by
  rw [isT]
  split
  · rename_i e; simp [e]
  · rename_i e; simp [e]
theorem isT_args {t : Tm} (h : isT t = true) : ∀ x, x ∈ t.args → isT x = true := by
  rcases t with ⟨k, i, s, c, nf, ns, af, ar⟩
  rw [isT_iff, chkF, walkF] at h
  rw [if_neg (by decide), if_neg (by decide)] at h
  cases ef : formF (.mk k i s c nf ns af ar) with
  | some x => rw [ef] at h; cases h
  | none =>
    rw [ef] at h
    have go : ∀ (l : List Tm) deep n d, n ≤ 4096 → d ≤ 256 → 1 ≤ deep → (walkFs l deep n d).1 = none → ∀ x, x ∈ l → isT x = true := by
      intro l
      induction l with
      | nil => intro _ _ _ _ _ _ _ x m; simp at m
      | cons t l ihl =>
        intro deep n d hn hd hdeep h x m
        rw [walkFs] at h
        have hle := walk_le t deep n d hn hd
        cases e : walkF t deep n d with
        | mk r nd =>
          obtain ⟨n1, d1⟩ := nd
          rw [e] at h hle
          cases r with
          | some _ => cases h
          | none =>
            have h : (walkFs l deep n1 d1).1 = none := h
            rcases List.mem_cons.1 m with rfl | m
            · rw [isT_iff, chkF]
              exact (walk_mono x deep n d 1 0 0 hn hd hdeep (Nat.zero_le _) (by rw [e])).1
            · exact ihl deep n1 d1 hle.1 hle.2 hdeep h x m
    exact go ar _ _ _ (by omega) (by omega) (by omega) h
theorem ers_map : ∀ l : List Tm, ers l = l.map er
  | [] => rfl
  | t :: l => by rw [ers, ers_map l]; rfl
theorem er_args (t : Tm) : (er t).args = ers t.args := by cases t; rfl
theorem last6_concat : ∀ l : List Tm, last6 (l ++ [nilT]) = true
  | [] => rfl
  | [t] => rfl
  | t :: u :: l => by
    show last6 (u :: l ++ [nilT]) = true
    exact last6_concat (u :: l)
theorem elems_list (l : List Tm) (f : Option Bool) : elemsF (listT l nilT f) = some l := by
  rw [listT]
  split
  · rename_i e; subst e; rfl
  · have e7 : ¬ nilT.kind = 7 := by decide
    rw [if_neg e7, elemsF]
    have h6 : ¬ (Tm.mk 7 0 [] 0 none [] f (l ++ [nilT])).kind = 6 := by show ¬ (7 : Int) = 6; decide
    have h7 : (Tm.mk 7 0 [] 0 none [] f (l ++ [nilT])).kind = 7 ∧ last6 (Tm.mk 7 0 [] 0 none [] f (l ++ [nilT])).args = true := ⟨rfl, last6_concat l⟩
    rw [if_neg h6, if_pos h7]
    show some (l ++ [nilT]).dropLast = some l
    rw [List.dropLast_concat]
theorem er_listT {l m : List Tm} (h : ers l = ers m) (f g : Option Bool) : er (listT l nilT f) = er (listT m nilT g) := by
  have hlen : l.length = m.length := by rw [← ers_length l, h, ers_length]
  have e7 : ¬ nilT.kind = 7 := by decide
  by_cases hl : l = []
  · subst hl
    have hm : m = [] := List.length_eq_zero_iff.1 hlen.symm
    subst hm
    rfl
  · have hm : m ≠ [] := fun e => hl (List.length_eq_zero_iff.1 (by rw [hlen, e]; rfl))
    rw [listT, listT, if_neg hl, if_neg hm, if_neg e7, er, er, ers_append, ers_append, h]
theorem isT_int {n : Int} (h : Small n) : isT (intT n) = true := by
  have hk : kindOk (intT n) = true := rfl
  have hf : formF (intT n) = none := by
    rw [intT, formF]
    have hk' : ¬ kindOk (.mk 1 n [] 0 none [] none []) = false := by rw [show kindOk (.mk 1 n [] 0 none [] none []) = true from rfl]; decide
    rw [if_neg hk', if_pos rfl, if_neg (by have := h.1; have := h.2; omega)]
  rw [isT_iff, chkF, intT, walkF, if_neg (by decide), if_neg (by decide)]
  rw [intT] at hf
  rw [hf]; rfl
theorem ok_int {n : Int} (h : Small n) : (intT n).Ok := by
  rw [intT, Tm.Ok, Oks]
  exact ⟨⟨by decide, by decide⟩, ⟨by have := h.1; omega, by have := h.2; omega⟩, ⟨by decide, by decide⟩, by simp, by decide, by decide, by decide, trivial⟩
theorem oks_of : ∀ {l : List Tm}, (∀ x, x ∈ l → x.Ok) → Oks l
  | [], _ => trivial
  | t :: l, h => ⟨h t (by simp), oks_of fun x m => h x (by simp [m])⟩
theorem ok_nilT : nilT.Ok := by
  rw [nilT, Tm.Ok, Oks]
  exact ⟨⟨by decide, by decide⟩, ⟨by decide, by decide⟩, ⟨by decide, by decide⟩, by simp, by decide, by decide, by decide, trivial⟩
theorem ok_listT {l : List Tm} {t : Tm} (h : Oks l) (ht : t.Ok) (f : Option Bool) (hn : l.length ≤ 1000000000) (hm : t.args.length ≤ 1000000000) : (listT l t f).Ok := by
  rw [listT]
  split
  · exact ht
  · split
    · rw [Tm.Ok]
      exact ⟨⟨by decide, by decide⟩, ⟨by decide, by decide⟩, ⟨by decide, by decide⟩, by simp, by decide, by decide, by rw [List.length_append]; omega, oks_append h (ok_args ht)⟩
    · rw [Tm.Ok]
      exact ⟨⟨by decide, by decide⟩, ⟨by decide, by decide⟩, ⟨by decide, by decide⟩, by simp, by decide, by decide, by rw [List.length_append]; simp; omega, oks_append h ⟨ht, trivial⟩⟩
end Go.Bf

set_option linter.unusedVariables false
set_option linter.unusedSimpArgs false
set_option maxRecDepth 20000
namespace Go.Bf
open Go.AM
def elemI (t u : Tm) : Option Nat := if t.kind = 1 ∧ u.kind = 5 ∧ 1 ≤ t.int ∧ t.int ≤ (u.args.length : Int) then some (t.int - 1).toNat else none
def elemN (t u : Tm) : Int := match elemI t u with
  | some i => (i : Int)
  | none => -1
theorem elemI_some {t u : Tm} {i : Nat} (h : elemI t u = some i) : t.kind = 1 ∧ u.kind = 5 ∧ i < u.args.length ∧ t.int = (i : Int) + 1 := by
  rw [elemI] at h
  split at h
  · rename_i c
    cases h
    exact ⟨c.1, c.2.1, by omega, by omega⟩
  · cases h
theorem element_spec (t u : Tm) (hu : u.args.length < 1000000000) (h : Heap) : WC env 110 [.agg (tc t), .agg (tc u)] h (fun o => o = .ret ⟨.int .i64 (elemN t u), h, .none⟩) := by
  have nu := (arAV_sl u).len
  refine call_pure rfl rfl rfl (by simp only [AV.noRefs, AV.noRef, noRef_tc, Bool.and_self]) ?_
  by_cases c1 : t.kind = 1
  · have z1 : (t.kind != 1) = false := by simpa using c1
    by_cases c2 : u.kind = 5
    · have z2 : (u.kind != 5) = false := by simpa using c2
      by_cases c3 : t.int < 1
      · have e : elemN t u = -1 := by rw [elemN, elemI, if_neg (by omega)]
        have z3 : (t.int < 1) = True := eq_true c3
        rw [e]
        simp only [a110, a110_0, a110_1, a110_2, Slots.ofList, wpc_draw, s3, reduceIte, Nat.reduceEqDiff, aBin, aInt, negIf, Option.some.injEq, exists_eq_left', Option.map_some, Option.bind_some, h3, List.length_cons, List.length_nil, List.drop_zero, List.drop_succ_cons, Nat.reduceAdd, Nat.le_refl, and_self, true_and, if_true, Bool.and_self, Nat.reduceLeDiff, _root_.eq_self, and_true, exists_eq', t3, nu, z1, z2, z3, reduceIte, Nat.reduceEqDiff, if_false]
      · have z3 : (t.int < 1) = False := eq_false c3
        by_cases c4 : t.int > (u.args.length : Int)
        · have e : elemN t u = -1 := by rw [elemN, elemI, if_neg (by omega)]
          have z4 : (t.int > (u.args.length : Int)) = True := eq_true c4
          rw [e]
          simp only [a110, a110_0, a110_1, a110_2, Slots.ofList, wpc_draw, s3, reduceIte, Nat.reduceEqDiff, aBin, aInt, negIf, Option.some.injEq, exists_eq_left', Option.map_some, Option.bind_some, h3, List.length_cons, List.length_nil, List.drop_zero, List.drop_succ_cons, Nat.reduceAdd, Nat.le_refl, and_self, true_and, if_true, Bool.and_self, Nat.reduceLeDiff, _root_.eq_self, and_true, exists_eq', t3, nu, z1, z2, z3, z4, reduceIte, Nat.reduceEqDiff, if_false]
        · have e : elemN t u = t.int - 1 := by
            rw [elemN, elemI, if_pos ⟨c1, c2, by omega, by omega⟩]
            show (((t.int - 1).toNat : Nat) : Int) = _
            omega
          have z4 : (t.int > (u.args.length : Int)) = False := eq_false c4
          have w : IntKind.wrap .i64 (t.int - 1) = t.int - 1 := wrap_id ⟨by omega, by omega⟩
          rw [e]
          simp only [a110, a110_0, a110_1, a110_3, Slots.ofList, wpc_draw, s3, reduceIte, Nat.reduceEqDiff, aBin, aInt, negIf, Option.some.injEq, exists_eq_left', Option.map_some, Option.bind_some, h3, List.length_cons, List.length_nil, List.drop_zero, List.drop_succ_cons, Nat.reduceAdd, Nat.le_refl, and_self, true_and, if_true, Bool.and_self, Nat.reduceLeDiff, _root_.eq_self, and_true, exists_eq', t3, nu, z1, z2, z3, z4, w, reduceIte, Nat.reduceEqDiff, if_false]
    · have z2 : (u.kind != 5) = true := by simpa using c2
      have e : elemN t u = -1 := by rw [elemN, elemI, if_neg (fun h => c2 h.2.1)]
      rw [e]
      simp only [a110, a110_0, a110_1, a110_2, Slots.ofList, wpc_draw, s3, reduceIte, Nat.reduceEqDiff, aBin, aInt, negIf, Option.some.injEq, exists_eq_left', Option.map_some, Option.bind_some, h3, List.length_cons, List.length_nil, List.drop_zero, List.drop_succ_cons, Nat.reduceAdd, Nat.le_refl, and_self, true_and, if_true, Bool.and_self, Nat.reduceLeDiff, _root_.eq_self, and_true, exists_eq', t3, nu, z1, z2, reduceIte, Nat.reduceEqDiff, if_false]
  · have z1 : (t.kind != 1) = true := by simpa using c1
    have e : elemN t u = -1 := by rw [elemN, elemI, if_neg (fun h => c1 h.1)]
    rw [e]
    simp only [a110, a110_0, a110_1, a110_2, Slots.ofList, wpc_draw, s3, reduceIte, Nat.reduceEqDiff, aBin, aInt, negIf, Option.some.injEq, exists_eq_left', Option.map_some, Option.bind_some, h3, List.length_cons, List.length_nil, List.drop_zero, List.drop_succ_cons, Nat.reduceAdd, Nat.le_refl, and_self, true_and, if_true, Bool.and_self, Nat.reduceLeDiff, _root_.eq_self, and_true, exists_eq', t3, nu, z1, reduceIte, Nat.reduceEqDiff, if_false]
theorem rd_tc {t : Tm} {R : List AV} : ldCells true 6 (tc t ++ R) = some (.agg (tc t)) := by cases t; rfl
theorem rd_a {t : Tm} {R : List AV} : ldCells false 1 ((tc t ++ R).drop 5) = some (arAV t) := by cases t; rfl
theorem sl2r {v : AV} {a b : Tm} (k : Sl v [a, b]) : ∃ A B, aIdxAddr 6 v (.int .i64 0) = some (.fp (tc a ++ A)) ∧ aIdxAddr 6 v (.int .i64 1) = some (.fp (tc b ++ B)) := by
  cases k with
  | fs b' l => exact ⟨tcs [b], tcs [], by cases a; rfl, by cases a; rfl⟩
theorem sl3r {v : AV} {a b c : Tm} (k : Sl v [a, b, c]) : ∃ A B C, aIdxAddr 6 v (.int .i64 0) = some (.fp (tc a ++ A)) ∧ aIdxAddr 6 v (.int .i64 1) = some (.fp (tc b ++ B)) ∧ aIdxAddr 6 v (.int .i64 2) = some (.fp (tc c ++ C)) := by
  cases k with
  | fs b' l => exact ⟨tcs [b, c], tcs [c], tcs [], by cases a; rfl, by cases a; rfl, by cases a; cases b; rfl⟩
theorem c38_element {v : AV} {r : Tm} {cd : Int} (hv : v.noRef = true) (hr : ∀ h, WC env 68 [.str [101, 108, 101, 109, 101, 110, 116], v] h (fun o => o = .ret ⟨.tup [.agg (tc r), .int .i64 cd], h, .none⟩)) (h : Heap) : WC env 38 [.str [101, 108, 101, 109, 101, 110, 116], v] h (fun o => o = .ret ⟨.tup [.agg (tc r), .int .i64 cd], h, .none⟩) := by
  have n0 : (([101, 108, 101, 109, 101, 110, 116] : List UInt8) == [43]) = false := by decide
  have n1 : (([101, 108, 101, 109, 101, 110, 116] : List UInt8) == [45]) = false := by decide
  have n2 : (([101, 108, 101, 109, 101, 110, 116] : List UInt8) == [42]) = false := by decide
  have n3 : (([101, 108, 101, 109, 101, 110, 116] : List UInt8) == [100, 105, 118]) = false := by decide
  have n4 : (([101, 108, 101, 109, 101, 110, 116] : List UInt8) == [114, 101, 109]) = false := by decide
  have n5 : (([101, 108, 101, 109, 101, 110, 116] : List UInt8) == [97, 110, 100]) = false := by decide
  have n6 : (([101, 108, 101, 109, 101, 110, 116] : List UInt8) == [111, 114]) = false := by decide
  have n7 : (([101, 108, 101, 109, 101, 110, 116] : List UInt8) == [120, 111, 114]) = false := by decide
  have n8 : (([101, 108, 101, 109, 101, 110, 116] : List UInt8) == [110, 111, 116]) = false := by decide
  have n9 : (([101, 108, 101, 109, 101, 110, 116] : List UInt8) == [61, 61]) = false := by decide
  have n10 : (([101, 108, 101, 109, 101, 110, 116] : List UInt8) == [47, 61]) = false := by decide
  have n11 : (([101, 108, 101, 109, 101, 110, 116] : List UInt8) == [61, 60]) = false := by decide
  have n12 : (([101, 108, 101, 109, 101, 110, 116] : List UInt8) == [60]) = false := by decide
  have n13 : (([101, 108, 101, 109, 101, 110, 116] : List UInt8) == [62, 61]) = false := by decide
  have n14 : (([101, 108, 101, 109, 101, 110, 116] : List UInt8) == [62]) = false := by decide
  have n15 : (([101, 108, 101, 109, 101, 110, 116] : List UInt8) == [61, 58, 61]) = false := by decide
  have n16 : (([101, 108, 101, 109, 101, 110, 116] : List UInt8) == [61, 47, 61]) = false := by decide
  have n17 : (([101, 108, 101, 109, 101, 110, 116] : List UInt8) == [109, 97, 120]) = false := by decide
  have n18 : (([101, 108, 101, 109, 101, 110, 116] : List UInt8) == [109, 105, 110]) = false := by decide
  have n19 : (([101, 108, 101, 109, 101, 110, 116] : List UInt8) == [43, 43]) = false := by decide
  have n20 : (([101, 108, 101, 109, 101, 110, 116] : List UInt8) == [45, 45]) = false := by decide
  have wp : ∀ h, WC env 66 [.str [101, 108, 101, 109, 101, 110, 116], .str [105, 115, 95]] h (fun o => o = .ret ⟨.bool false, h, .none⟩) := fun h => wc_run (n := 30) (by kernel_rfl)
  refine call_pure rfl rfl rfl (by simp only [AV.noRefs, AV.noRef, hv, Bool.and_self]) ?_
  simp only [a38, a38_0, a38_1, a38_2, a38_3, a38_4, a38_5, a38_6, a38_10, a38_11, a38_12, a38_14, a38_16, a38_17, a38_18, a38_19, a38_20, a38_21, a38_22, a38_23, a38_25, a38_26, a38_31, a38_32, a38_34, a38_36, Slots.ofList, wpc_draw, s3, reduceIte, Nat.reduceEqDiff, aBin, aInt, negIf, Option.some.injEq, exists_eq_left', Option.map_some, Option.bind_some, aStr, n0, n1, n2, n3, n4, n5, n6, n7, n8, n9, n10, n11, n12, n13, n14, n15, n16, n17, n18, n19, n20, wc_eq (wp _), wc_eq (hr _), h3, List.length_cons, List.length_nil, List.drop_zero, List.drop_succ_cons, Nat.reduceAdd, Nat.le_refl, and_self, true_and, if_true, Bool.and_self, Nat.reduceLeDiff, _root_.eq_self, and_true, exists_eq', t3, reduceIte, Nat.reduceEqDiff]
theorem part_element {v : AV} {t u : Tm} (kv : Sl v [t, u]) (hu : u.args.length < 1000000000) {i : Nat} (e : elemI t u = some i) (hi : i < u.args.length) (h : Heap) : WC env 68 [.str [101, 108, 101, 109, 101, 110, 116], v] h (fun o => o = .ret ⟨.tup [.agg (tc u.args[i]), .int .i64 0], h, .none⟩) := by
  obtain ⟨A, B, x0, x1⟩ := sl2r kv
  have we := element_spec t u hu
  have en : elemN t u = (i : Int) := by rw [elemN, e]
  rw [en] at we
  have z0 : ((i : Int) ≥ 0) = True := eq_true (by omega)
  have lx := (arAV_sl u).idx hi
  have ld : ldCells true 6 ((tcs u.args).drop (i * 6)) = some (.agg (tc u.args[i])) := by
    rw [tcs_drop _ _ hi]; exact rd_tc
  have n0 : (([101, 108, 101, 109, 101, 110, 116] : List UInt8) == [97, 98, 115]) = false := by decide
  have n1 : (([101, 108, 101, 109, 101, 110, 116] : List UInt8) == [101, 108, 101, 109, 101, 110, 116]) = true := by decide
  refine call_pure rfl rfl rfl (by simp only [AV.noRefs, AV.noRef, kv.noRef, Bool.and_self]) ?_
  simp only [a68, a68_0, a68_1, a68_2, a68_3, a68_6, Slots.ofList, s3, reduceIte, Nat.reduceEqDiff, aBin, aInt, negIf, Option.some.injEq, exists_eq_left', Option.map_some, Option.bind_some, h3, List.length_cons, List.length_nil, List.drop_zero, List.drop_succ_cons, Nat.reduceAdd, Nat.le_refl, and_self, true_and, if_true, Bool.and_self, Nat.reduceLeDiff, _root_.eq_self, and_true, exists_eq', t3, aStr, n0, n1, x0, rd_tc, reduceIte, Nat.reduceEqDiff]
  refine wpc_draw_k ?_
  simp only [s3, reduceIte, Nat.reduceEqDiff, aBin, aInt, negIf, Option.some.injEq, exists_eq_left', Option.map_some, Option.bind_some, k3, h3, List.length_cons, List.length_nil, List.drop_zero, List.drop_succ_cons, Nat.reduceAdd, Nat.le_refl, and_self, true_and, if_true, Bool.and_self, Nat.reduceLeDiff, _root_.eq_self, and_true, exists_eq', t3, a68_7, a68_8, a68_9, x1, rd_tc, rd_a, wc_eq (we _), z0, lx, ld, reduceIte, Nat.reduceEqDiff]
  rfl
theorem c38_setelement {v : AV} {r : Tm} {cd : Int} (hv : v.noRef = true) (hr : ∀ h, WC env 68 [.str [115, 101, 116, 101, 108, 101, 109, 101, 110, 116], v] h (fun o => o = .ret ⟨.tup [.agg (tc r), .int .i64 cd], h, .none⟩)) (h : Heap) : WC env 38 [.str [115, 101, 116, 101, 108, 101, 109, 101, 110, 116], v] h (fun o => o = .ret ⟨.tup [.agg (tc r), .int .i64 cd], h, .none⟩) := by
  have n0 : (([115, 101, 116, 101, 108, 101, 109, 101, 110, 116] : List UInt8) == [43]) = false := by decide
  have n1 : (([115, 101, 116, 101, 108, 101, 109, 101, 110, 116] : List UInt8) == [45]) = false := by decide
  have n2 : (([115, 101, 116, 101, 108, 101, 109, 101, 110, 116] : List UInt8) == [42]) = false := by decide
  have n3 : (([115, 101, 116, 101, 108, 101, 109, 101, 110, 116] : List UInt8) == [100, 105, 118]) = false := by decide
  have n4 : (([115, 101, 116, 101, 108, 101, 109, 101, 110, 116] : List UInt8) == [114, 101, 109]) = false := by decide
  have n5 : (([115, 101, 116, 101, 108, 101, 109, 101, 110, 116] : List UInt8) == [97, 110, 100]) = false := by decide
  have n6 : (([115, 101, 116, 101, 108, 101, 109, 101, 110, 116] : List UInt8) == [111, 114]) = false := by decide
  have n7 : (([115, 101, 116, 101, 108, 101, 109, 101, 110, 116] : List UInt8) == [120, 111, 114]) = false := by decide
  have n8 : (([115, 101, 116, 101, 108, 101, 109, 101, 110, 116] : List UInt8) == [110, 111, 116]) = false := by decide
  have n9 : (([115, 101, 116, 101, 108, 101, 109, 101, 110, 116] : List UInt8) == [61, 61]) = false := by decide
  have n10 : (([115, 101, 116, 101, 108, 101, 109, 101, 110, 116] : List UInt8) == [47, 61]) = false := by decide
  have n11 : (([115, 101, 116, 101, 108, 101, 109, 101, 110, 116] : List UInt8) == [61, 60]) = false := by decide
  have n12 : (([115, 101, 116, 101, 108, 101, 109, 101, 110, 116] : List UInt8) == [60]) = false := by decide
  have n13 : (([115, 101, 116, 101, 108, 101, 109, 101, 110, 116] : List UInt8) == [62, 61]) = false := by decide
  have n14 : (([115, 101, 116, 101, 108, 101, 109, 101, 110, 116] : List UInt8) == [62]) = false := by decide
  have n15 : (([115, 101, 116, 101, 108, 101, 109, 101, 110, 116] : List UInt8) == [61, 58, 61]) = false := by decide
  have n16 : (([115, 101, 116, 101, 108, 101, 109, 101, 110, 116] : List UInt8) == [61, 47, 61]) = false := by decide
  have n17 : (([115, 101, 116, 101, 108, 101, 109, 101, 110, 116] : List UInt8) == [109, 97, 120]) = false := by decide
  have n18 : (([115, 101, 116, 101, 108, 101, 109, 101, 110, 116] : List UInt8) == [109, 105, 110]) = false := by decide
  have n19 : (([115, 101, 116, 101, 108, 101, 109, 101, 110, 116] : List UInt8) == [43, 43]) = false := by decide
  have n20 : (([115, 101, 116, 101, 108, 101, 109, 101, 110, 116] : List UInt8) == [45, 45]) = false := by decide
  have wp : ∀ h, WC env 66 [.str [115, 101, 116, 101, 108, 101, 109, 101, 110, 116], .str [105, 115, 95]] h (fun o => o = .ret ⟨.bool false, h, .none⟩) := fun h => wc_run (n := 30) (by kernel_rfl)
  refine call_pure rfl rfl rfl (by simp only [AV.noRefs, AV.noRef, hv, Bool.and_self]) ?_
  simp only [a38, a38_0, a38_1, a38_2, a38_3, a38_4, a38_5, a38_6, a38_10, a38_11, a38_12, a38_14, a38_16, a38_17, a38_18, a38_19, a38_20, a38_21, a38_22, a38_23, a38_25, a38_26, a38_31, a38_32, a38_34, a38_36, Slots.ofList, wpc_draw, s3, reduceIte, Nat.reduceEqDiff, aBin, aInt, negIf, Option.some.injEq, exists_eq_left', Option.map_some, Option.bind_some, aStr, n0, n1, n2, n3, n4, n5, n6, n7, n8, n9, n10, n11, n12, n13, n14, n15, n16, n17, n18, n19, n20, wc_eq (wp _), wc_eq (hr _), h3, List.length_cons, List.length_nil, List.drop_zero, List.drop_succ_cons, Nat.reduceAdd, Nat.le_refl, and_self, true_and, if_true, Bool.and_self, Nat.reduceLeDiff, _root_.eq_self, and_true, exists_eq', t3, reduceIte, Nat.reduceEqDiff]
theorem tcs_set : ∀ (l : List Tm) (i : Nat) (x : Tm), i < l.length → splice (tcs l) (i * 6) (tc x) = tcs (l.set i x)
  | [], i, x, h => by simp at h
  | t :: l, 0, x, h => by
    simp only [splice, tcs, Nat.zero_mul, List.take_zero, List.nil_append, Nat.zero_add, tc_length, List.set_cons_zero]
    rw [List.drop_append, List.drop_of_length_le (by rw [tc_length]; exact Nat.le_refl _), tc_length]
    simp
  | t :: l, i + 1, x, h => by
    have ih := tcs_set l i x (by simpa using h)
    have e : (i + 1) * 6 = (tc t).length + i * 6 := by rw [tc_length]; omega
    rw [List.set_cons_succ, tcs, tcs, ← ih]
    simp only [splice, e]
    rw [List.take_append, List.take_of_length_le (by omega), Nat.add_sub_cancel_left, Nat.add_assoc, List.drop_append, List.drop_of_length_le (by omega), Nat.add_sub_cancel_left, List.nil_append, List.append_assoc, List.append_assoc, List.append_assoc]
theorem aStore_at {h : Heap} {id off : Nat} {cs : List AV} {x : Tm} (hat : h.at_ id 0 = some cs) (hf : off + 6 ≤ cs.length) : aStore h 6 (.ptr id 0 off) (.agg (tc x)) = some ⟨.undef, h.upd id 0 (splice cs off (tc x)), .write⟩ := by
  show ((h.at_ id 0).bind fun cs => (some (tc x)).bind fun vs => if vs.length = 6 ∧ off + 6 ≤ cs.length then (some ⟨.undef, h.upd id 0 (splice cs off vs), .write⟩ : Option OpRes) else none) = _
  rw [hat, Option.bind_some, Option.bind_some, if_pos ⟨tc_length x, hf⟩]
theorem part_setelement {v : AV} {t u w : Tm} (kv : Sl v [t, u, w]) (hu : u.args.length < 100000) {i : Nat} (e : elemI t u = some i) : ∃ f, ∀ h, WC env 68 [.str [115, 101, 116, 101, 108, 101, 109, 101, 110, 116], v] h (fun o => o = .ret ⟨.tup [.agg (tc (.mk 5 0 [] 0 none [] f (u.args.set i w))), .int .i64 0], h, .none⟩) := by
  obtain ⟨_, _, hi, _⟩ := elemI_some e
  obtain ⟨A, B, C, x0, x1, x2⟩ := sl3r kv
  have we := element_spec t u (by omega)
  have en : elemN t u = (i : Int) := by rw [elemN, e]
  rw [en] at we
  have z0 : ((i : Int) ≥ 0) = True := eq_true (by omega)
  have hne : u.args ≠ [] := fun e => by rw [e] at hi; simp at hi
  refine ⟨some false, fun h => call_pure rfl rfl rfl (by simp only [AV.noRefs, AV.noRef, kv.noRef, Bool.and_self]) ?_⟩
  have n0 : (([115, 101, 116, 101, 108, 101, 109, 101, 110, 116] : List UInt8) == [97, 98, 115]) = false := by decide
  have n1 : (([115, 101, 116, 101, 108, 101, 109, 101, 110, 116] : List UInt8) == [101, 108, 101, 109, 101, 110, 116]) = false := by decide
  have n2 : (([115, 101, 116, 101, 108, 101, 109, 101, 110, 116] : List UInt8) == [115, 101, 116, 101, 108, 101, 109, 101, 110, 116]) = true := by decide
  obtain ⟨H, eH⟩ : ∃ H, H = ((Heap.empty.new [.int .i64 0, .int .i64 0, .str [], .int .u32 0, .nils, .nils]).new [.int .i64 0, .int .i64 0, .str [], .int .u32 0, .nils, .nils]).upd 1 0 (tc t) := ⟨_, rfl⟩
  have ho : HeapOk H := by rw [eH]; exact ((HeapOk.empty.new _).new _).upd (at_look.1 (at_new _)) _ _
  have hn : H.next = 2 := by rw [eH]; rfl
  have a0 : H.at_ 0 0 = some zero6 := by rw [eH]; simp only [h3, List.length_cons, List.length_nil, List.drop_zero, List.drop_succ_cons, Nat.reduceAdd, Nat.le_refl, and_self, true_and, if_true, Bool.and_self, Nat.reduceLeDiff, _root_.eq_self, and_true, exists_eq', reduceIte, Nat.reduceEqDiff]; rfl
  have a1 : H.at_ 1 0 = some (tc t) := by rw [eH]; simp only [h3, List.length_cons, List.length_nil, List.drop_zero, List.drop_succ_cons, Nat.reduceAdd, Nat.le_refl, and_self, true_and, if_true, Bool.and_self, Nat.reduceLeDiff, _root_.eq_self, and_true, exists_eq', reduceIte, Nat.reduceEqDiff]
  have ks := (arAV_sl u).src H
  obtain ⟨c, hc⟩ := ks.cells
  have ll : u.args.length ≠ 0 := by omega
  have bf : aEq .slice (arAV u) .nils = some false := by
    obtain ⟨b, eb, hb⟩ := ks.nil
    cases b with
    | true => exact absurd (hb rfl) hne
    | false => exact eb
  have ap : aAppend H 6 88 (.fs true 0 []) (arAV u) = some ⟨.sl 2 0 0 6 u.args.length none, H.new (tcs u.args), .write⟩ := by
    unfold aAppend
    rw [ks.len, Option.bind_some]
    simp only [aLen, Option.bind_some]
    rw [if_pos ⟨by omega, by omega, by omega⟩, if_neg ll, hc, hn]
    simp [sliceCells]
  have y1 : aFill [] [] = some [] := rfl
  have wcl : WC env 104 [arAV u] H (fun o => o = .ret ⟨.sl 2 0 0 6 u.args.length none, H.new (tcs u.args), .write⟩) := by
    refine call_body rfl rfl (.inl rfl) ?_
    simp only [a104, a104_0, a104_1, a104_3, Slots.ofList, wpc_draw, s3, reduceIte, Nat.reduceEqDiff, aBin, aInt, negIf, Option.some.injEq, exists_eq_left', Option.map_some, Option.bind_some, bf, y1, Nat.reduceMul, Nat.zero_mul, ap, h3, List.length_cons, List.length_nil, List.drop_zero, List.drop_succ_cons, Nat.reduceAdd, Nat.le_refl, and_self, true_and, if_true, Bool.and_self, Nat.reduceLeDiff, _root_.eq_self, and_true, exists_eq']
  obtain ⟨G, eG⟩ : ∃ G, G = H.new (tcs u.args) := ⟨_, rfl⟩
  rw [← eG] at wcl
  have hG : G.next = 3 := by rw [eG, next_new, hn]
  have g0 : G.at_ 0 0 = some zero6 := by rw [eG]; exact (le_new ho _).2 _ _ _ a0
  have g2 : G.at_ 2 0 = some (tcs u.args) := by rw [eG, ← hn]; exact at_new _
  have fl := fillKV (v := .sl 2 0 0 6 u.args.length none) (k := 5) rfl
  have ix : aIdxAddr 6 (.sl 2 0 0 6 u.args.length none) (.int .i64 i) = some (.ptr 2 0 (0 + i * 6)) := by
    simp only [aIdxAddr, if_true, aIndex_nat (kd := .i64) hi, Option.map_some]
  rw [Nat.zero_add] at ix
  have st : ∀ g : Heap, g.at_ 2 0 = some (tcs u.args) → aStore g 6 (.ptr 2 0 (i * 6)) (.agg (tc w)) = some ⟨.undef, g.upd 2 0 (tcs (u.args.set i w)), .write⟩ := by
    intro g hg
    rw [aStore_at hg (by rw [tcs_length]; omega), tcs_set _ _ _ hi]
  simp only [a68, a68_0, a68_1, a68_2, a68_3, a68_6, a68_10, Slots.ofList, s3, reduceIte, Nat.reduceEqDiff, aBin, aInt, negIf, Option.some.injEq, exists_eq_left', Option.map_some, Option.bind_some, h3, List.length_cons, List.length_nil, List.drop_zero, List.drop_succ_cons, Nat.reduceAdd, Nat.le_refl, and_self, true_and, if_true, Bool.and_self, Nat.reduceLeDiff, _root_.eq_self, and_true, exists_eq', t3, aStr, n0, n1, n2, x0, rd_tc, reduceIte, Nat.reduceEqDiff]
  refine wpc_draw_k ?_
  simp only [s3, reduceIte, Nat.reduceEqDiff, aBin, aInt, negIf, Option.some.injEq, exists_eq_left', Option.map_some, Option.bind_some, k3, h3, List.length_cons, List.length_nil, List.drop_zero, List.drop_succ_cons, Nat.reduceAdd, Nat.le_refl, and_self, true_and, if_true, Bool.and_self, Nat.reduceLeDiff, _root_.eq_self, and_true, exists_eq', t3, a68_11, a68_12, a68_13, x1, rd_tc, rd_a, wc_eq (we _), z0, ← eH, a1, wc_eq wcl, fl, hG, reduceIte, Nat.reduceEqDiff]
  refine ⟨rfl, ?_⟩
  refine wpc_draw_k ?_
  have stK := st ((G.new [.int .i64 0, .int .i64 0, .str [], .int .u32 0, .nils, .nils]).upd 3 0 [.int .i64 5, .int .i64 0, .str [], .int .u32 0, .nils, .sl 2 0 0 6 u.args.length none]) (by simp only [at_upd_if, at_new_if, hG, g2, reduceIte, Nat.reduceEqDiff])
  simp only [s3, reduceIte, Nat.reduceEqDiff, aBin, aInt, negIf, Option.some.injEq, exists_eq_left', Option.map_some, Option.bind_some, k3, h3, List.length_cons, List.length_nil, List.drop_zero, List.drop_succ_cons, Nat.reduceAdd, Nat.le_refl, and_self, true_and, if_true, Bool.and_self, Nat.reduceLeDiff, _root_.eq_self, and_true, exists_eq', t3, a68_14, a68_15, x2, rd_tc, ix, hG, g0, g2, stK, reduceIte, Nat.reduceEqDiff]
  refine ⟨rfl, ?_⟩
  have ls : (u.args.set i w).length = u.args.length := List.length_set
  have ht : ((tcs (u.args.set i w)).drop 0).take (u.args.length * 6) = tcs (u.args.set i w) := by
    rw [List.drop_zero]; exact List.take_of_length_le (by rw [tcs_length, ls]; exact Nat.le_refl _)
  refine ⟨.tup [.agg (tc (.mk 5 0 [] 0 none [] (some false) (u.args.set i w))), .int .i64 0], frz_tup ⟨_, _, rfl, frz_agg ⟨_, _, rfl, (frz_noRef (v := .int .i64 5) rfl).2 rfl, _, _, rfl, (frz_noRef (v := .int .i64 0) rfl).2 rfl, _, _, rfl, (frz_noRef (v := .str []) rfl).2 rfl, _, _, rfl, (frz_noRef (v := .int .u32 0) rfl).2 rfl, _, _, rfl, (frz_noRef (v := .nils) rfl).2 rfl, _, _, rfl, ?_, rfl⟩, _, _, rfl, (frz_noRef (v := .int .i64 0) rfl).2 rfl, rfl⟩, rfl⟩
  refine (frz_sl (cs := tcs (u.args.set i w)) (by simp only [at_upd_if, at_new_if, hG, g2, reduceIte, Nat.reduceEqDiff]) (by rw [tcs_length, ls]; omega) (by rw [ht]; exact noRef_tcs _)).2 ?_
  rw [ht, ls]
  rfl
theorem part_setelement_no {v : AV} {t u w : Tm} (kv : Sl v [t, u, w]) (hu : u.args.length < 1000000000) (e : elemI t u = none) (h : Heap) : WC env 68 [.str [115, 101, 116, 101, 108, 101, 109, 101, 110, 116], v] h (fun o => o = .ret ⟨.tup [.agg (tc zeroT), .int .i64 261], h, .none⟩) := by
  obtain ⟨A, B, C, x0, x1, x2⟩ := sl3r kv
  have we := element_spec t u hu
  have en : elemN t u = -1 := by rw [elemN, e]
  rw [en] at we
  have z0 : ((-1 : Int) ≥ 0) = False := eq_false (by decide)
  have n0 : (([115, 101, 116, 101, 108, 101, 109, 101, 110, 116] : List UInt8) == [97, 98, 115]) = false := by decide
  have n1 : (([115, 101, 116, 101, 108, 101, 109, 101, 110, 116] : List UInt8) == [101, 108, 101, 109, 101, 110, 116]) = false := by decide
  have n2 : (([115, 101, 116, 101, 108, 101, 109, 101, 110, 116] : List UInt8) == [115, 101, 116, 101, 108, 101, 109, 101, 110, 116]) = true := by decide
  refine call_pure rfl rfl rfl (by simp only [AV.noRefs, AV.noRef, kv.noRef, Bool.and_self]) ?_
  simp only [a68, a68_0, a68_1, a68_2, a68_3, a68_6, a68_10, Slots.ofList, s3, reduceIte, Nat.reduceEqDiff, aBin, aInt, negIf, Option.some.injEq, exists_eq_left', Option.map_some, Option.bind_some, h3, List.length_cons, List.length_nil, List.drop_zero, List.drop_succ_cons, Nat.reduceAdd, Nat.le_refl, and_self, true_and, if_true, Bool.and_self, Nat.reduceLeDiff, _root_.eq_self, and_true, exists_eq', t3, aStr, n0, n1, n2, x0, rd_tc, reduceIte, Nat.reduceEqDiff]
  refine wpc_draw_k ?_
  simp only [s3, reduceIte, Nat.reduceEqDiff, aBin, aInt, negIf, Option.some.injEq, exists_eq_left', Option.map_some, Option.bind_some, k3, h3, List.length_cons, List.length_nil, List.drop_zero, List.drop_succ_cons, Nat.reduceAdd, Nat.le_refl, and_self, true_and, if_true, Bool.and_self, Nat.reduceLeDiff, _root_.eq_self, and_true, exists_eq', t3, a68_11, a68_12, a68_41, x1, rd_tc, rd_a, wc_eq (we _), z0, zeroT_tc, reduceIte, Nat.reduceEqDiff]
  rfl
end Go.Bf

set_option linter.unusedVariables false
set_option linter.unusedSimpArgs false
set_option maxRecDepth 20000
namespace Go.Bf
open Go.AM
end Go.Bf

set_option linter.unusedVariables false
set_option linter.unusedSimpArgs false
set_option maxRecDepth 20000
namespace Go.Bf
open Go.AM
def rlen : WFlt → Int
  | none => 0
  | some (_, _, none) => 1
  | some (_, _, some _) => 2
theorem len_rlink (x : WFlt) (h : Heap) : aLenOp false h (rlinkAV x) = some ⟨.int .i64 (rlen x), h, .none⟩ := by
  rcases x with _ | ⟨a, c, _ | ⟨p, d⟩⟩ <;> rfl
theorem rlen_ok {t : Tm} (h : isT t = true) : chkF t = none := by
  rw [isT] at h; split at h
  · assumption
  · cases h
theorem rlen_bad {t : Tm} (h : isT t = false) : rlen (chkF t) > 0 := by
  rw [isT] at h; split at h
  · cases h
  · rename_i e
    rw [e]
    rename_i x
    rcases x with ⟨a, c, _ | ⟨p, d⟩⟩ <;> simp [rlen]
section
variable {σ : Slots} {h : Heap} {a b x y : Tm} (ho : HeapOk h) (ha : h.at_ 0 0 = some (tc a)) (hb : h.at_ 1 0 = some (tc b)) (g2 : σ.get 2 = .ptr 0 0 0) (g3 : σ.get 3 = .ptr 1 0 0) (g5 : σ.get 5 = .int .i64 1)
  (oka : a.Ok) (okb : b.Ok) (okx : x.Ok) (oky : y.Ok) (tx : isT x = true) (ty : isT y = true) (hc : ordF x y ≥ 0)
  (wx : ∀ h, WC env 18 [.str [109, 97, 120], .fs true 2 (tc a ++ tc b)] h (fun o => o = .ret ⟨.tup [.agg (tc x), .nili], h, .none⟩))
  (wy : ∀ h, WC env 18 [.str [109, 105, 110], .fs true 2 (tc a ++ tc b)] h (fun o => o = .ret ⟨.tup [.agg (tc y), .nili], h, .none⟩))
include ho ha hb g2 g3 g5 oka okb okx oky tx ty hc wx wy
end
end Go.Bf

set_option linter.unusedVariables false
set_option linter.unusedSimpArgs false
set_option maxRecDepth 20000
namespace Go.Bf
open Go.AM
/-- the reference's List -/
theorem rlist_spec {v : AV} {l : List Tm} (k : Sl v l) (tail : Tm) (hn : l.length ≤ 100000000) (hm : tail.args.length ≤ 100000000) : ∃ f, ∀ h, WC env 41 [v, .agg (tc tail)] h (fun o => o = .ret ⟨.agg (tc (listT l tail f)), h, .none⟩) := by
  have hr : AV.noRefs [v, .agg (tc tail)] = true := by simp only [AV.noRefs, AV.noRef, k.noRef, noRef_tc, Bool.and_self]
  have nl := k.len
  by_cases hl : l = []
  · refine ⟨none, fun h => call_pure rfl rfl rfl hr ?_⟩
    have z0 : (((l.length : Nat) : Int) == 0) = true := by rw [hl]; rfl
    rw [listT, if_pos hl]
    simp only [a41, a41_0, a41_1, a41_2, Slots.ofList, wpc_draw, s3, reduceIte, Nat.reduceEqDiff, aBin, aInt, negIf, Option.some.injEq, exists_eq_left', Option.map_some, Option.bind_some, h3, List.length_cons, List.length_nil, List.drop_zero, List.drop_succ_cons, Nat.reduceAdd, Nat.le_refl, and_self, true_and, if_true, Bool.and_self, Nat.reduceLeDiff, _root_.eq_self, and_true, exists_eq', t3, nl, z0, reduceIte, Nat.reduceEqDiff]
  have ll : l.length ≠ 0 := fun e => hl (List.length_eq_zero_iff.1 e)
  have z0 : (((l.length : Nat) : Int) == 0) = false := by simp; omega
  have hw : WC env 41 [v, .agg (tc tail)] .empty (fun o => ∃ f, o = .ret ⟨.agg (tc (listT l tail f)), .empty, .none⟩) := by
    refine call_pure rfl rfl rfl hr ?_
    obtain ⟨H, eH⟩ : ∃ H, H = (Heap.empty.new (tc tail)).new [.int .i64 0, .int .i64 0, .str [], .int .u32 0, .nils, .nils] := ⟨_, rfl⟩
    have ho : HeapOk H := by rw [eH]; exact (HeapOk.empty.new _).new _
    have b0 : H.at_ 0 0 = some (tc tail) := by rw [eH]; simp only [h3, List.length_cons, List.length_nil, List.drop_zero, List.drop_succ_cons, Nat.reduceAdd, Nat.le_refl, and_self, true_and, if_true, Bool.and_self, Nat.reduceLeDiff, _root_.eq_self, and_true, exists_eq', reduceIte, Nat.reduceEqDiff]
    have b1 : H.at_ 1 0 = some zero6 := by rw [eH]; simp only [h3, List.length_cons, List.length_nil, List.drop_zero, List.drop_succ_cons, Nat.reduceAdd, Nat.le_refl, and_self, true_and, if_true, Bool.and_self, Nat.reduceLeDiff, _root_.eq_self, and_true, exists_eq', reduceIte, Nat.reduceEqDiff]; rfl
    have hn2 : H.next = 2 := by rw [eH]; rfl
    have y1 : aFill [] [] = some [] := rfl
    obtain ⟨c0, hc0⟩ := (k.src H).cells
    obtain ⟨v1, g1, c1, w1, k1, lb1, ho1, ow1, n1⟩ := Acc.append (bt := 88) ho (by omega : 0 < 6) (Acc.full (h := H) (sz := 6) 0 [] rfl) (m := 0) rfl (k.src H).len hc0 (tcs_length l) (by omega) (by omega)
    rw [List.nil_append] at k1
    rw [Nat.zero_add] at n1
    have fr1 : ∀ id, v1.own = some id → 2 ≤ id := fun id e => (ow1 id e).elim (fun e2 => by cases e2) (fun e2 => by omega)
    have b0' : g1.at_ 0 0 = some (tc tail) := lb1.2 _ _ _ (fun e => by cases e) b0
    have b1' : g1.at_ 1 0 = some zero6 := lb1.2 _ _ _ (fun e => by cases e) b1
    -- what is appended
    have fin : ∀ (y : AV) (more : List Tm) (c : Cls), aLen y = some more.length → sliceCells g1 6 more.length y = some (tcs more, c) → more.length ≤ 100000000 → (more = if tail.kind = 7 then tail.args else [tail]) →
        ∃ v2 g2 c2, aAppend g1 6 88 v1 y = some ⟨v2, g2, c2⟩ ∧ HeapOk g2 ∧ g2.at_ 1 0 = some zero6 ∧ v2.row = some [v2] ∧ ∃ f, Frz (g2.upd 1 0 [.int .i64 7, .int .i64 0, .str [], .int .u32 0, .nils, v2]) (.agg [.int .i64 7, .int .i64 0, .str [], .int .u32 0, .nils, v2]) (.agg (tc (listT l tail f))) := by
      intro y more c hy hc hmore hmo
      obtain ⟨v2, g2, c2, w2, k2, lb2, ho2, ow2, n2⟩ := Acc.append (bt := 88) ho1 (by omega : 0 < 6) k1 n1 hy hc (tcs_length more) (by omega) (by omega)
      have d1 : g2.at_ 1 0 = some zero6 := lb2.2 _ _ _ (fun e => by have := fr1 _ e; omega) b1'
      have fr2 : ∀ id, v2.own = some id → 2 ≤ id := fun id e => by
        rcases ow2 id e with e2 | e2
        · exact fr1 _ e2
        · have := lb1.1; omega
      have k3 : Acc (g2.upd 1 0 [.int .i64 7, .int .i64 0, .str [], .int .u32 0, .nils, v2]) 6 v2 (tcs l ++ tcs more) := k2.chg (upd_chg (S := fun j => j = 1) rfl) fun id e => by have := fr2 _ e; omega
      rw [← tcs_append] at k3
      obtain ⟨f, hf⟩ := frz_acc k3 (noRef_tcs _) n2
      refine ⟨v2, g2, c2, w2, ho2, d1, k2.row, f, ?_⟩
      rw [listT, if_neg hl, ← hmo]
      refine frz_agg ⟨_, _, rfl, (frz_noRef (v := .int .i64 7) rfl).2 rfl, _, _, rfl, (frz_noRef (v := .int .i64 0) rfl).2 rfl, _, _, rfl, (frz_noRef (v := .str []) rfl).2 rfl, _, _, rfl, (frz_noRef (v := .int .u32 0) rfl).2 rfl, _, _, rfl, (frz_noRef (v := .nils) rfl).2 rfl, _, _, rfl, ?_, rfl⟩
      rw [List.length_append]; exact hf
    by_cases e7 : tail.kind = 7
    · have z7 : (tail.kind == 7) = true := by simpa using e7
      have ka := (arAV_sl tail).src g1
      obtain ⟨c, hc⟩ := ka.cells
      obtain ⟨v2, g2, c2, w2, ho2, d1, rw2, f, hf⟩ := fin (arAV tail) tail.args c ka.len hc hm (by rw [if_pos e7])
      have fl := fillKV (v := v2) (k := 7) rw2
      simp only [a41, a41_0, a41_1, a41_3, a41_4, a41_5, Slots.ofList, wpc_draw, s3, reduceIte, Nat.reduceEqDiff, aBin, aInt, negIf, Option.some.injEq, exists_eq_left', Option.map_some, Option.bind_some, row_agg, tc_length, if_true, next_empty, next_new, Nat.zero_add, ← eH, nl, z0, y1, Nat.reduceMul, Nat.zero_mul, w1, isC c1, aFld_p, aLoad_ptr, b0', t3, List.drop_zero, z7, w2, isC c2, fl, aStore_w, d1, List.length_cons, List.length_nil, len_zero6, Nat.reduceAdd, Nat.le_refl, and_self]
      exact ⟨[.agg [.int .i64 7, .int .i64 0, .str [], .int .u32 0, .nils, v2]], _, by simp only [Env.results, Option.map_some, get_put, reduceIte, Nat.reduceEqDiff, aLoad_ptr, at_upd_if, if_true, Option.bind_some, List.drop_zero, ldc6], hf, f, rfl⟩
    · have z7 : (tail.kind == 7) = false := by simpa using e7
      have ht : tcs [tail] = tc tail := by simp [tcs]
      obtain ⟨v2, g2, c2, w2, ho2, d1, rw2, f, hf⟩ := fin (.fs true 1 (tc tail)) [tail] .none rfl (by rw [ht]; exact one_t g1 tail) (by simp) (by rw [if_neg e7])
      have fl := fillKV (v := v2) (k := 7) rw2
      simp only [a41, a41_0, a41_1, a41_3, a41_4, a41_6, Slots.ofList, wpc_draw, s3, reduceIte, Nat.reduceEqDiff, aBin, aInt, negIf, Option.some.injEq, exists_eq_left', Option.map_some, Option.bind_some, row_agg, tc_length, if_true, next_empty, next_new, Nat.zero_add, ← eH, nl, z0, y1, Nat.reduceMul, Nat.zero_mul, w1, isC c1, aFld_p, aLoad_ptr, b0', t3, List.drop_zero, z7, w2, isC c2, fl, aStore_w, d1, List.length_cons, List.length_nil, len_zero6, Nat.reduceAdd, Nat.le_refl, and_self]
      exact ⟨[.agg [.int .i64 7, .int .i64 0, .str [], .int .u32 0, .nils, v2]], _, by simp only [Env.results, Option.map_some, get_put, reduceIte, Nat.reduceEqDiff, aLoad_ptr, at_upd_if, if_true, Option.bind_some, List.drop_zero, ldc6], hf, f, rfl⟩
  obtain ⟨o, hn, f, e⟩ := hw
  subst e
  exact ⟨f, fun h => pure_any rfl rfl rfl hr ⟨_, hn, rfl⟩⟩
theorem fillK {k : Int} : aFill [.int .i64 0, .int .i64 0, .str [], .int .u32 0, .nils, .nils] [(0, 1, .int .i64 k)] = some [.int .i64 k, .int .i64 0, .str [], .int .u32 0, .nils, .nils] := rfl
theorem proper_spec {v : AV} {l : List Tm} (k : Sl v l) (okl : Oks l) (hn : l.length ≤ 100000000) : ∃ f, ∀ h, WC env 21 [v] h (fun o => o = .ret ⟨.tup [.agg (tc (listT l nilT f)), .bool (isT (listT l nilT f))], h, .none⟩) := by
  obtain ⟨f, wl⟩ := rlist_spec k nilT hn (by show (0 : Nat) ≤ _; omega)
  have wl : ∀ h, WC env 41 [v, .agg [.int .i64 6, .int .i64 0, .str [], .int .u32 0, .nils, .nils]] h (fun o => o = .ret ⟨.agg (tc (listT l nilT f)), h, .none⟩) := wl
  have okr : (listT l nilT f).Ok := ok_listT okl ok_nilT f (by omega) (by show (0 : Nat) ≤ _; omega)
  have wc := rcheck_spec _ okr
  have zz : (rlen (chkF (listT l nilT f)) == 0) = isT (listT l nilT f) := by
    cases e : isT (listT l nilT f) with
    | true => rw [rlen_ok e]; rfl
    | false => have := rlen_bad e; simp; omega
  refine ⟨f, fun h => call_pure rfl rfl rfl (by simp only [AV.noRefs, k.noRef, Bool.and_self]) ?_⟩
  simp only [a21, a21_0, a21_1, Slots.ofList, s3, reduceIte, Nat.reduceEqDiff, aBin, aInt, negIf, Option.some.injEq, exists_eq_left', Option.map_some, Option.bind_some, h3, List.length_cons, List.length_nil, List.drop_zero, List.drop_succ_cons, Nat.reduceAdd, Nat.le_refl, and_self, true_and, if_true, Bool.and_self, Nat.reduceLeDiff, _root_.eq_self, and_true, exists_eq', t3, fillK, wc_eq (wl _), reduceIte, Nat.reduceEqDiff]
  refine wpc_draw_k ?_
  simp only [s3, reduceIte, Nat.reduceEqDiff, aBin, aInt, negIf, Option.some.injEq, exists_eq_left', Option.map_some, Option.bind_some, k3, h3, List.length_cons, List.length_nil, List.drop_zero, List.drop_succ_cons, Nat.reduceAdd, Nat.le_refl, and_self, true_and, if_true, Bool.and_self, Nat.reduceLeDiff, _root_.eq_self, and_true, exists_eq', t3, a21_2, wc_eq (wc _), len_rlink, zz, reduceIte, Nat.reduceEqDiff]
  rfl
end Go.Bf

set_option linter.unusedVariables false
set_option linter.unusedSimpArgs false
set_option maxRecDepth 20000
namespace Go.Bf
open Go.AM
theorem oks2 {a b : Tm} (oka : a.Ok) (okb : b.Ok) : Oks [a, b] := ⟨oka, okb, trivial⟩
theorem all2 {a b : Tm} (ta : isT a = true) (tb : isT b = true) : ∀ t, t ∈ [a, b] → isT t = true := by
  intro t m
  rcases List.mem_cons.1 m with rfl | m
  · exact ta
  · rcases List.mem_cons.1 m with rfl | m
    · exact tb
    · cases m
theorem all1 {a : Tm} (ta : isT a = true) : ∀ t, t ∈ [a] → isT t = true := by
  intro t m
  rcases List.mem_cons.1 m with rfl | m
  · exact ta
  · cases m
end Go.Bf
