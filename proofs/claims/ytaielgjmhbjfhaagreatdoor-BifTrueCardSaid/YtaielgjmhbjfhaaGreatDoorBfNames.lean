/-
  BifNames answers true.
-/
import Derived.Test.YtaielgjmhbjfhaaGreatDoorBfBase
import Derived.Test.YtaielgjmhbjfhaaGreatDoorAmMem
set_option linter.unusedVariables false
set_option linter.unusedSimpArgs false
set_option maxRecDepth 20000
namespace Go.Bf
open Go.AM

theorem bif_drop : ∀ (l : List Bif) (i : Nat), (hi : i < l.length) → (bifCells l).drop (i * 4) = l[i].cells ++ bifCells (l.drop (i + 1))
  | [], i, hi => by simp at hi
  | o :: l, 0, hi => rfl
  | o :: l, i + 1, hi => by
    have := bif_drop l i (by simpa using hi)
    have e : (i + 1) * 4 = i * 4 + 1 + 1 + 1 + 1 := by omega
    rw [e]
    simpa [bifCells, Bif.cells] using this
theorem bif_elem {l : List Bif} {i : Nat} {full : Bool} (hi : i < l.length) : ∃ rest, aIdxAddr 4 (.fs full l.length (bifCells l)) (.int .i64 i) = some (.fp (l[i].cells ++ rest)) := by
  have hidx : aIndex l.length (.int .i64 i) = some i := by
    have h0 : (0 : Int) ≤ i := Int.natCast_nonneg i
    have h2 : (i : Int) < l.length := by exact_mod_cast hi
    simp [aIndex, h0, h2]
  have hd := bif_drop l i hi
  refine ⟨bifCells (l.drop (i + 1)), ?_⟩
  rw [← hd]
  cases hc : bifCells l with
  | nil => rw [hc] at hd; simp [Bif.cells] at hd
  | cons a t => simp only [aIdxAddr, hidx, Option.map_some]
theorem bif_load (b : Bif) (rest : List AV) (h : Heap) : aLoad h true 4 (.fp (b.cells ++ rest)) = some ⟨.agg b.cells, h, .none⟩ := rfl
theorem bif_field0 (b : Bif) (rest : List AV) : aFieldAddr 0 (.fp (b.cells ++ rest)) = some (.fp (b.cells ++ rest)) := rfl
theorem bif_field1 (b : Bif) (rest : List AV) : aFieldAddr 1 (.fp (b.cells ++ rest)) = some (.fp ((.int .i64 b.ar) :: (.int .i64 1) :: (.bool b.gd) :: rest)) := rfl
theorem bif_ld0 (b : Bif) (rest : List AV) (h : Heap) : aLoad h false 1 (.fp (b.cells ++ rest)) = some ⟨.str b.name, h, .none⟩ := rfl
theorem fp_ld (a : AV) (rest : List AV) (h : Heap) : aLoad h false 1 (.fp (a :: rest)) = some ⟨a, h, .none⟩ := rfl

def zero4 : List AV := [.str [], .int .i64 0, .int .i64 0, .bool false]
def foundCells : Option Bif → List AV
  | some b => b.cells
  | none => zero4
def hits (name : List UInt8) (ar : Int) (b : Bif) : Bool := b.name == name && b.ar == ar

/-- an object of four cells, made and filled -/
theorem box4 {h : Heap} (ho : HeapOk h) (a b c d : AV) : ∃ h', aStore (h.new [.str [], .int .i64 0, .int .i64 0, .bool false]) 4 (.ptr h.next 0 0) (.agg [a, b, c, d]) = some ⟨.undef, h', .write⟩ ∧ HeapOk h' ∧ h.le h' ∧ h'.at_ h.next 0 = some [a, b, c, d] := by
  obtain ⟨z, ez⟩ : ∃ z, z = [AV.str [], .int .i64 0, .int .i64 0, .bool false] := ⟨_, rfl⟩
  rw [← ez]
  have hat : (h.new z).at_ h.next 0 = some z := at_new _
  refine ⟨(h.new z).upd h.next 0 [a, b, c, d], ?_, (ho.new _).upd (at_look.1 hat) _ _, ?_, at_upd⟩
  · simp only [aStore, hat, Option.bind_some, row_agg]
    rw [ez]; rfl
  · have c : Chg (fun i => i = h.next) h ((h.new z).upd h.next 0 [a, b, c, d]) := (le_new ho z).chg.trans (upd_chg rfl)
    exact ⟨c.1, fun id gen cs e => c.2 _ _ _ (fun x => by have := ho.lt e; omega) e⟩
section
variable {h : Heap} {i : Nat} {a b c d : AV} (hat : h.at_ i 0 = some [a, b, c, d])
include hat
theorem ld4 : aLoad h true 4 (.ptr i 0 0) = some ⟨.agg [a, b, c, d], h, .read⟩ := by simp only [aLoad, hat, Option.bind_some]; rfl
theorem ld40 : aLoad h false 1 (.ptr i 0 0) = some ⟨a, h, .read⟩ := by simp only [aLoad, hat, Option.bind_some]; rfl
theorem ld41 : aLoad h false 1 (.ptr i 0 1) = some ⟨b, h, .read⟩ := by simp only [aLoad, hat, Option.bind_some]; rfl
theorem st4 {a' b' c' d' : AV} : aStore h 4 (.ptr i 0 0) (.agg [a', b', c', d']) = some ⟨.undef, h.upd i 0 [a', b', c', d'], .write⟩ := by
  simp only [aStore, hat, Option.bind_some, row_agg]; rfl
end

theorem find_loop {name : List UInt8} {ar : Int} {i4 : Nat} {Q : AExit → St → Prop} : ∀ (f i : Nat) (h : Heap) (σ : Slots), bifL.length - i < f → i ≤ bifL.length → HeapOk h → h.at_ i4 0 = some zero4 →
      σ.get 0 = .str name → σ.get 1 = .int .i64 ar → σ.get 4 = .ptr i4 0 0 → σ.get 8 = .fs false 44 (bifCells bifL) → σ.get 9 = .int .i64 44 → σ.get 10 = .int .i64 i →
      (∀ b σ' h', (bifL.drop i).find? (hits name ar) = some b → h'.at_ i4 0 = some b.cells → σ'.get 4 = .ptr i4 0 0 → σ'.get 5 = .bool true → Q .ret ⟨σ', h'⟩) →
      (∀ σ' h', (bifL.drop i).find? (hits name ar) = none → h'.at_ i4 0 = some zero4 → σ'.get 4 = .ptr i4 0 0 → Q (.exit 0) ⟨σ', h'⟩) → WPr env a13_l7 ⟨σ, h⟩ Q := by
  intro f
  have hlen : bifL.length = 44 := rfl
  induction f with
  | zero => intro i h σ h1; omega
  | succ f ih =>
    intro i h σ hf hi ho a4 g0 g1 g4 g8 g9 g10 hQ hN
    refine wpr_round' fun b hb' => ?_
    by_cases c1 : i < bifL.length
    · have z0 : ((i : Int) < 44) = True := eq_true (by omega)
      have z1 : IntKind.wrap .i64 ((i : Int) + 1) = ((i + 1 : Nat) : Int) := wrap_nat (by omega) (by omega)
      obtain ⟨rest, e1⟩ := bif_elem (full := false) c1
      rw [hlen] at e1
      have e2 := bif_load bifL[i] rest h
      obtain ⟨h1, s1, ho1, l1, a7⟩ := box4 ho (.str bifL[i].name) (.int .i64 bifL[i].ar) (.int .i64 1) (.bool bifL[i].gd)
      have s1' : aStore (h.new [.str [], .int .i64 0, .int .i64 0, .bool false]) 4 (.ptr h.next 0 0) (.agg bifL[i].cells) = some ⟨.undef, h1, .write⟩ := s1
      have a4' := l1.2 _ _ _ a4
      have w0 := ld40 a7
      have w1 := ld41 a7
      have w4 := ld4 a7
      have w5 := st4 (a' := .str bifL[i].name) (b' := .int .i64 bifL[i].ar) (c' := .int .i64 1) (d' := .bool bifL[i].gd) a4'
      have hdrop : bifL.drop i = bifL[i] :: bifL.drop (i + 1) := List.drop_eq_getElem_cons c1
      by_cases c2 : hits name ar bifL[i] = true
      · have c2' := c2
        simp only [hits, Bool.and_eq_true] at c2'
        obtain ⟨y1, y2⟩ := c2'
        simp only [a13_l7, a13_2, a13_3, a13_4, a13_5, wpc_skip, wpc_ops, wpc_draw, wpc_seq, wpc_cond, wpc_block, wpc_loop, wpc_exit, wpc_scope, wpc_ret, seqQ_norm, seqQ_ret, seqQ_exit, blockQ'_norm, blockQ'_ret, blockQ'_exit, roundQ_norm, roundQ_ret, roundQ_exit, condK_true, condK_false, wpo_nil', wpo_none, wpo_tt, wpo_ff, wpo_tf, wpo_ft, opsK_c, isC_none, isC_read, isC_write, wp1_call, callK_ret, wp1_mv', wp1_bin', wp1_un', wp1_eq', wp1_extract', wp1_pick', wp1_len', wp1_load', wp1_conv', wp1_store', wp1_idxAddr', wp1_append', wp1_mkIface', wp1_alloc', rd_t, rd_c, ok_t, ok_c, put_some, put_none, get_put, reduceIte, Nat.reduceEqDiff, AV.bool.injEq, Option.some.injEq, exists_eq_left', Option.map_some, Option.bind_some, opds_nil, opds_cons, opd_t, opd_c, aBin, aInt, decide_true, decide_false, negIf, wp1_nilCheck', wp1_fieldAddr', wp1_slice, op_slice, opdo_some, opdo_none, wp1_lit, op_lit, parts_nil, parts_cons, wp1_build, op_build, wp1_box, op_box, g0, g1, g4, g8, g9, g10, z0, e1, e2, s1', aFieldAddr, Nat.zero_add, w0, w1, aStr, y1, y2, aPick, w4, w5]
        refine hQ bifL[i] _ _ ?_ ?_ ?_ ?_
        · rw [hdrop, List.find?_cons, c2]
        · exact at_upd
        · simp only [get_put, reduceIte, Nat.reduceEqDiff, g4]
        · simp only [get_put, reduceIte, Nat.reduceEqDiff]
      · have go : ∀ (σ2 : Slots), (∀ n, n < 11 → n ≠ 7 → σ2.get n = σ.get n) → wpc env (.ops a13_6) ⟨σ2, h1⟩ (roundQ env b Q) := by
          intro σ2 s2
          have p10 : σ2.get 10 = .int .i64 i := by rw [s2 10 (by omega) (by omega), g10]
          simp only [a13_6, wpc_skip, wpc_ops, wpc_draw, wpc_seq, wpc_cond, wpc_block, wpc_loop, wpc_exit, wpc_scope, wpc_ret, seqQ_norm, seqQ_ret, seqQ_exit, blockQ'_norm, blockQ'_ret, blockQ'_exit, roundQ_norm, roundQ_ret, roundQ_exit, condK_true, condK_false, wpo_nil', wpo_none, wpo_tt, wpo_ff, wpo_tf, wpo_ft, opsK_c, isC_none, isC_read, isC_write, wp1_call, callK_ret, wp1_mv', wp1_bin', wp1_un', wp1_eq', wp1_extract', wp1_pick', wp1_len', wp1_load', wp1_conv', wp1_store', wp1_idxAddr', wp1_append', wp1_mkIface', wp1_alloc', rd_t, rd_c, ok_t, ok_c, put_some, put_none, get_put, reduceIte, Nat.reduceEqDiff, AV.bool.injEq, Option.some.injEq, exists_eq_left', Option.map_some, Option.bind_some, opds_nil, opds_cons, opd_t, opd_c, aBin, aInt, decide_true, decide_false, negIf, wp1_nilCheck', wp1_fieldAddr', wp1_slice, op_slice, opdo_some, opdo_none, wp1_lit, op_lit, parts_nil, parts_cons, wp1_build, op_build, wp1_box, op_box, p10, z1]
          subst hb'
          have e3 : (bifL.drop i).find? (hits name ar) = (bifL.drop (i + 1)).find? (hits name ar) := by
            rw [hdrop, List.find?_cons]
            simp only [Bool.not_eq_true] at c2
            rw [c2]
          rw [e3] at hQ hN
          refine ih (i + 1) h1 _ (by omega) (by omega) ho1 a4' ?_ ?_ ?_ ?_ ?_ ?_ hQ hN
          · simp only [get_put, reduceIte, Nat.reduceEqDiff]; rw [s2 0 (by omega) (by omega), g0]
          · simp only [get_put, reduceIte, Nat.reduceEqDiff]; rw [s2 1 (by omega) (by omega), g1]
          · simp only [get_put, reduceIte, Nat.reduceEqDiff]; rw [s2 4 (by omega) (by omega), g4]
          · simp only [get_put, reduceIte, Nat.reduceEqDiff]; rw [s2 8 (by omega) (by omega), g8]
          · simp only [get_put, reduceIte, Nat.reduceEqDiff]; rw [s2 9 (by omega) (by omega), g9]
          · simp only [get_put, reduceIte, Nat.reduceEqDiff]
        have el : a13_l7 = (.seq (.ops a13_2) (.seq (.cond (.t 11) .skip (.exit 0)) (.seq (.block 1 (.seq (.ops a13_3) (.seq (.ops a13_4) (.cond (.t 23) (.seq (.ops a13_5) .ret) .skip)))) (.ops a13_6)))) := rfl
        rw [el]
        cases y1 : (bifL[i].name == name) with
        | false =>
          rw [wpc_seq]
          simp only [a13_2, a13_3, a13_4, wpc_skip, wpc_ops, wpc_draw, wpc_seq, wpc_cond, wpc_block, wpc_loop, wpc_exit, wpc_scope, wpc_ret, seqQ_norm, seqQ_ret, seqQ_exit, blockQ'_norm, blockQ'_ret, blockQ'_exit, roundQ_norm, roundQ_ret, roundQ_exit, condK_true, condK_false, wpo_nil', wpo_none, wpo_tt, wpo_ff, wpo_tf, wpo_ft, opsK_c, isC_none, isC_read, isC_write, wp1_call, callK_ret, wp1_mv', wp1_bin', wp1_un', wp1_eq', wp1_extract', wp1_pick', wp1_len', wp1_load', wp1_conv', wp1_store', wp1_idxAddr', wp1_append', wp1_mkIface', wp1_alloc', rd_t, rd_c, ok_t, ok_c, put_some, put_none, get_put, reduceIte, Nat.reduceEqDiff, AV.bool.injEq, Option.some.injEq, exists_eq_left', Option.map_some, Option.bind_some, opds_nil, opds_cons, opd_t, opd_c, aBin, aInt, decide_true, decide_false, negIf, wp1_nilCheck', wp1_fieldAddr', wp1_slice, op_slice, opdo_some, opdo_none, wp1_lit, op_lit, parts_nil, parts_cons, wp1_build, op_build, wp1_box, op_box, g0, g1, g4, g8, g9, g10, z0, e1, e2, s1', aFieldAddr, Nat.zero_add, w0, w1, aStr, y1, aPick]
          refine go _ fun n hn h7 => ?_
          simp only [get_put]
          repeat rw [if_neg (by omega)]
        | true =>
          have y2 : (bifL[i].ar == ar) = false := by
            cases y2 : (bifL[i].ar == ar) with
            | false => rfl
            | true => exact absurd (by rw [hits, y1, y2]; rfl) c2
          rw [wpc_seq]
          simp only [a13_2, a13_3, a13_4, wpc_skip, wpc_ops, wpc_draw, wpc_seq, wpc_cond, wpc_block, wpc_loop, wpc_exit, wpc_scope, wpc_ret, seqQ_norm, seqQ_ret, seqQ_exit, blockQ'_norm, blockQ'_ret, blockQ'_exit, roundQ_norm, roundQ_ret, roundQ_exit, condK_true, condK_false, wpo_nil', wpo_none, wpo_tt, wpo_ff, wpo_tf, wpo_ft, opsK_c, isC_none, isC_read, isC_write, wp1_call, callK_ret, wp1_mv', wp1_bin', wp1_un', wp1_eq', wp1_extract', wp1_pick', wp1_len', wp1_load', wp1_conv', wp1_store', wp1_idxAddr', wp1_append', wp1_mkIface', wp1_alloc', rd_t, rd_c, ok_t, ok_c, put_some, put_none, get_put, reduceIte, Nat.reduceEqDiff, AV.bool.injEq, Option.some.injEq, exists_eq_left', Option.map_some, Option.bind_some, opds_nil, opds_cons, opd_t, opd_c, aBin, aInt, decide_true, decide_false, negIf, wp1_nilCheck', wp1_fieldAddr', wp1_slice, op_slice, opdo_some, opdo_none, wp1_lit, op_lit, parts_nil, parts_cons, wp1_build, op_build, wp1_box, op_box, g0, g1, g4, g8, g9, g10, z0, e1, e2, s1', aFieldAddr, Nat.zero_add, w0, w1, aStr, y1, y2, aPick]
          refine go _ fun n hn h7 => ?_
          simp only [get_put]
          repeat rw [if_neg (by omega)]
    · have z0 : ((i : Int) < 44) = False := eq_false (by omega)
      have e3 : bifL.drop i = [] := List.drop_of_length_le (by omega)
      simp only [a13_l7, a13_2, wpc_skip, wpc_ops, wpc_draw, wpc_seq, wpc_cond, wpc_block, wpc_loop, wpc_exit, wpc_scope, wpc_ret, seqQ_norm, seqQ_ret, seqQ_exit, blockQ'_norm, blockQ'_ret, blockQ'_exit, roundQ_norm, roundQ_ret, roundQ_exit, condK_true, condK_false, wpo_nil', wpo_none, wpo_tt, wpo_ff, wpo_tf, wpo_ft, opsK_c, isC_none, isC_read, isC_write, wp1_call, callK_ret, wp1_mv', wp1_bin', wp1_un', wp1_eq', wp1_extract', wp1_pick', wp1_len', wp1_load', wp1_conv', wp1_store', wp1_idxAddr', wp1_append', wp1_mkIface', wp1_alloc', rd_t, rd_c, ok_t, ok_c, put_some, put_none, get_put, reduceIte, Nat.reduceEqDiff, AV.bool.injEq, Option.some.injEq, exists_eq_left', Option.map_some, Option.bind_some, opds_nil, opds_cons, opd_t, opd_c, aBin, aInt, decide_true, decide_false, negIf, wp1_nilCheck', wp1_fieldAddr', wp1_slice, op_slice, opdo_some, opdo_none, wp1_lit, op_lit, parts_nil, parts_cons, wp1_build, op_build, wp1_box, op_box, g9, g10, z0]
      refine hN _ h ?_ a4 ?_
      · rw [e3]; rfl
      · simp only [get_put, reduceIte, Nat.reduceEqDiff, g4]

def findV (name : List UInt8) (ar : Int) : AV := .tup [.agg (foundCells (bifL.find? (hits name ar))), .bool (bifL.find? (hits name ar)).isSome]
theorem find_spec (h : Heap) (name : List UInt8) (ar : Int) : WC env 13 [.str name, .int .i64 ar] h (fun o => o = .ret ⟨findV name ar, h, .none⟩) := by
  refine call_pure rfl rfl rfl rfl ?_
  obtain ⟨h1, eh1⟩ : ∃ h1, h1 = Heap.empty.new zero4 := ⟨_, rfl⟩
  have eh1' : Heap.empty.new [AV.str [], .int .i64 0, .int .i64 0, .bool false] = h1 := eh1.symm
  have ho1 : HeapOk h1 := by rw [eh1]; exact HeapOk.empty.new _
  have a1 : h1.at_ Heap.empty.next 0 = some zero4 := by rw [eh1]; exact at_new _
  simp only [a13, a13_0, a13_1, Slots.ofList, wpc_skip, wpc_ops, wpc_draw, wpc_seq, wpc_cond, wpc_block, wpc_loop, wpc_exit, wpc_scope, wpc_ret, seqQ_norm, seqQ_ret, seqQ_exit, blockQ'_norm, blockQ'_ret, blockQ'_exit, roundQ_norm, roundQ_ret, roundQ_exit, condK_true, condK_false, wpo_nil', wpo_none, wpo_tt, wpo_ff, wpo_tf, wpo_ft, opsK_c, isC_none, isC_read, isC_write, wp1_call, callK_ret, wp1_mv', wp1_bin', wp1_un', wp1_eq', wp1_extract', wp1_pick', wp1_len', wp1_load', wp1_conv', wp1_store', wp1_idxAddr', wp1_append', wp1_mkIface', wp1_alloc', rd_t, rd_c, ok_t, ok_c, put_some, put_none, get_put, reduceIte, Nat.reduceEqDiff, AV.bool.injEq, Option.some.injEq, exists_eq_left', Option.map_some, Option.bind_some, opds_nil, opds_cons, opd_t, opd_c, aBin, aInt, decide_true, decide_false, negIf, wp1_nilCheck', wp1_fieldAddr', wp1_slice, op_slice, opdo_some, opdo_none, wp1_lit, op_lit, parts_nil, parts_cons, wp1_build, op_build, wp1_box, op_box, eh1', wc_eq (all_spec _), aLenOp, aLen]
  refine find_loop (name := name) (ar := ar) (i4 := Heap.empty.next) 45 0 h1 _ (by decide) (by omega) ho1 a1 ?_ ?_ ?_ ?_ ?_ ?_ (fun b σ' h' hb hat g4 g5 => ?_) (fun σ' h' hb hat g4 => ?_)
  · simp only [get_put, reduceIte, Nat.reduceEqDiff] <;> rfl
  · simp only [get_put, reduceIte, Nat.reduceEqDiff] <;> rfl
  · simp only [get_put, reduceIte, Nat.reduceEqDiff] <;> rfl
  · simp only [get_put, reduceIte, Nat.reduceEqDiff] <;> rfl
  · simp only [get_put, reduceIte, Nat.reduceEqDiff] <;> rfl
  · simp only [get_put, reduceIte, Nat.reduceEqDiff] <;> rfl
  · have hb' : bifL.find? (hits name ar) = some b := hb
    have l := ld4 (a := .str b.name) (b := .int .i64 b.ar) (c := .int .i64 1) (d := .bool b.gd) hat
    refine ⟨[.agg b.cells, .bool true], findV name ar, ?_, ?_, rfl⟩
    · simp only [Env.results, Option.map_some, g4, g5, l, Option.bind_some]; rfl
    · rw [findV, hb']
      exact (frz_noRef (v := .tup [.agg b.cells, .bool true]) rfl).2 rfl
  · have hb' : bifL.find? (hits name ar) = none := hb
    have l := st4 (a' := .str []) (b' := .int .i64 0) (c' := .int .i64 0) (d' := .bool false) hat
    have y1 : aFill [.str [], .int .i64 0, .int .i64 0, .bool false] [] = some [.str [], .int .i64 0, .int .i64 0, .bool false] := rfl
    simp only [a13_8, wpc_skip, wpc_ops, wpc_draw, wpc_seq, wpc_cond, wpc_block, wpc_loop, wpc_exit, wpc_scope, wpc_ret, seqQ_norm, seqQ_ret, seqQ_exit, blockQ'_norm, blockQ'_ret, blockQ'_exit, roundQ_norm, roundQ_ret, roundQ_exit, condK_true, condK_false, wpo_nil', wpo_none, wpo_tt, wpo_ff, wpo_tf, wpo_ft, opsK_c, isC_none, isC_read, isC_write, wp1_call, callK_ret, wp1_mv', wp1_bin', wp1_un', wp1_eq', wp1_extract', wp1_pick', wp1_len', wp1_load', wp1_conv', wp1_store', wp1_idxAddr', wp1_append', wp1_mkIface', wp1_alloc', rd_t, rd_c, ok_t, ok_c, put_some, put_none, get_put, reduceIte, Nat.reduceEqDiff, AV.bool.injEq, Option.some.injEq, exists_eq_left', Option.map_some, Option.bind_some, opds_nil, opds_cons, opd_t, opd_c, aBin, aInt, decide_true, decide_false, negIf, wp1_nilCheck', wp1_fieldAddr', wp1_slice, op_slice, opdo_some, opdo_none, wp1_lit, op_lit, parts_nil, parts_cons, wp1_build, op_build, wp1_box, op_box, g4, y1, l]
    have l2 := ld4 (h := h'.upd Heap.empty.next 0 [.str [], .int .i64 0, .int .i64 0, .bool false]) at_upd
    refine ⟨[.agg zero4, .bool false], findV name ar, ?_, ?_, rfl⟩
    · simp only [Env.results, Option.map_some, get_put, reduceIte, Nat.reduceEqDiff, g4, l2, Option.bind_some]; rfl
    · rw [findV, hb']
      exact (frz_noRef (v := .tup [.agg zero4, .bool false]) rfl).2 rfl

theorem rfind_loop {name : List UInt8} {ar : Int} {i4 : Nat} {Q : AExit → St → Prop} : ∀ (f i : Nat) (h : Heap) (σ : Slots), bifL.length - i < f → i ≤ bifL.length → HeapOk h → h.at_ i4 0 = some zero4 →
      σ.get 0 = .str name → σ.get 1 = .int .i64 ar → σ.get 4 = .ptr i4 0 0 → σ.get 6 = .fs false 44 (bifCells bifL) → σ.get 7 = .int .i64 i →
      (∀ b σ' h', (bifL.drop i).find? (hits name ar) = some b → h'.at_ i4 0 = some b.cells → σ'.get 4 = .ptr i4 0 0 → σ'.get 5 = .bool true → Q .ret ⟨σ', h'⟩) →
      (∀ σ' h', (bifL.drop i).find? (hits name ar) = none → h'.at_ i4 0 = some zero4 → σ'.get 4 = .ptr i4 0 0 → Q (.exit 0) ⟨σ', h'⟩) → WPr env a14_l7 ⟨σ, h⟩ Q := by
  intro f
  have hlen : bifL.length = 44 := rfl
  induction f with
  | zero => intro i h σ h1; omega
  | succ f ih =>
    intro i h σ hf hi ho a4 g0 g1 g4 g6 g7 hQ hN
    refine wpr_round' fun b hb' => ?_
    have en : ∀ h, aLenOp false h (.fs false 44 (bifCells bifL)) = some ⟨.int .i64 44, h, .none⟩ := fun h => rfl
    by_cases c1 : i < bifL.length
    · have z0 : ((i : Int) < 44) = True := eq_true (by omega)
      have z1 : IntKind.wrap .i64 ((i : Int) + 1) = ((i + 1 : Nat) : Int) := wrap_nat (by omega) (by omega)
      obtain ⟨rest, e1⟩ := bif_elem (full := false) c1
      rw [hlen] at e1
      have e2 := bif_load bifL[i] rest h
      have e3 := bif_field0 bifL[i] rest
      have e4 := bif_field1 bifL[i] rest
      have e5 := bif_ld0 bifL[i] rest h
      have e6 := fp_ld (.int .i64 bifL[i].ar) ((.int .i64 1) :: (.bool bifL[i].gd) :: rest) h
      have w5 := st4 (a' := .str bifL[i].name) (b' := .int .i64 bifL[i].ar) (c' := .int .i64 1) (d' := .bool bifL[i].gd) a4
      have w5' : aStore h 4 (.ptr i4 0 0) (.agg bifL[i].cells) = some ⟨.undef, h.upd i4 0 bifL[i].cells, .write⟩ := w5
      have hdrop : bifL.drop i = bifL[i] :: bifL.drop (i + 1) := List.drop_eq_getElem_cons c1
      have el : a14_l7 = (.seq (.seq (.ops a14_3) (.cond (.t 12) .skip (.exit 0))) (.seq (.block 1 (.seq (.ops a14_4) (.cond (.t 30) (.seq (.ops a14_5) .ret) .skip))) (.ops a14_6))) := rfl
      by_cases c2 : hits name ar bifL[i] = true
      · have c2' := c2
        simp only [hits, Bool.and_eq_true] at c2'
        obtain ⟨y1, y2⟩ := c2'
        simp only [a14_l7, a14_3, a14_4, a14_5, wpc_skip, wpc_ops, wpc_draw, wpc_seq, wpc_cond, wpc_block, wpc_loop, wpc_exit, wpc_scope, wpc_ret, seqQ_norm, seqQ_ret, seqQ_exit, blockQ'_norm, blockQ'_ret, blockQ'_exit, roundQ_norm, roundQ_ret, roundQ_exit, condK_true, condK_false, wpo_nil', wpo_none, wpo_tt, wpo_ff, wpo_tf, wpo_ft, opsK_c, isC_none, isC_read, isC_write, wp1_call, callK_ret, wp1_mv', wp1_bin', wp1_un', wp1_eq', wp1_extract', wp1_pick', wp1_len', wp1_load', wp1_conv', wp1_store', wp1_idxAddr', wp1_append', wp1_mkIface', wp1_alloc', rd_t, rd_c, ok_t, ok_c, put_some, put_none, get_put, reduceIte, Nat.reduceEqDiff, AV.bool.injEq, Option.some.injEq, exists_eq_left', Option.map_some, Option.bind_some, opds_nil, opds_cons, opd_t, opd_c, aBin, aInt, decide_true, decide_false, negIf, wp1_nilCheck', wp1_fieldAddr', wp1_slice, op_slice, opdo_some, opdo_none, wp1_lit, op_lit, parts_nil, parts_cons, wp1_build, op_build, wp1_box, op_box, g0, g1, g4, g6, g7, en, z0, e1, e2, e3, e4, e5, e6, aStr, y1, y2, aPick, w5']
        refine hQ bifL[i] _ _ ?_ ?_ ?_ ?_
        · rw [hdrop, List.find?_cons, c2]
        · exact at_upd
        · simp only [get_put, reduceIte, Nat.reduceEqDiff, g4]
        · simp only [get_put, reduceIte, Nat.reduceEqDiff]
      · have go : ∀ (σ2 : Slots), (∀ n, n < 8 → σ2.get n = σ.get n) → wpc env (.ops a14_6) ⟨σ2, h⟩ (roundQ env b Q) := by
          intro σ2 s2
          have p7 : σ2.get 7 = .int .i64 i := by rw [s2 7 (by omega), g7]
          simp only [a14_6, wpc_skip, wpc_ops, wpc_draw, wpc_seq, wpc_cond, wpc_block, wpc_loop, wpc_exit, wpc_scope, wpc_ret, seqQ_norm, seqQ_ret, seqQ_exit, blockQ'_norm, blockQ'_ret, blockQ'_exit, roundQ_norm, roundQ_ret, roundQ_exit, condK_true, condK_false, wpo_nil', wpo_none, wpo_tt, wpo_ff, wpo_tf, wpo_ft, opsK_c, isC_none, isC_read, isC_write, wp1_call, callK_ret, wp1_mv', wp1_bin', wp1_un', wp1_eq', wp1_extract', wp1_pick', wp1_len', wp1_load', wp1_conv', wp1_store', wp1_idxAddr', wp1_append', wp1_mkIface', wp1_alloc', rd_t, rd_c, ok_t, ok_c, put_some, put_none, get_put, reduceIte, Nat.reduceEqDiff, AV.bool.injEq, Option.some.injEq, exists_eq_left', Option.map_some, Option.bind_some, opds_nil, opds_cons, opd_t, opd_c, aBin, aInt, decide_true, decide_false, negIf, wp1_nilCheck', wp1_fieldAddr', wp1_slice, op_slice, opdo_some, opdo_none, wp1_lit, op_lit, parts_nil, parts_cons, wp1_build, op_build, wp1_box, op_box, p7, z1]
          subst hb'
          have e3 : (bifL.drop i).find? (hits name ar) = (bifL.drop (i + 1)).find? (hits name ar) := by
            rw [hdrop, List.find?_cons]
            simp only [Bool.not_eq_true] at c2
            rw [c2]
          rw [e3] at hQ hN
          refine ih (i + 1) h _ (by omega) (by omega) ho a4 ?_ ?_ ?_ ?_ ?_ hQ hN
          · simp only [get_put, reduceIte, Nat.reduceEqDiff]; rw [s2 0 (by omega), g0]
          · simp only [get_put, reduceIte, Nat.reduceEqDiff]; rw [s2 1 (by omega), g1]
          · simp only [get_put, reduceIte, Nat.reduceEqDiff]; rw [s2 4 (by omega), g4]
          · simp only [get_put, reduceIte, Nat.reduceEqDiff]; rw [s2 6 (by omega), g6]
          · simp only [get_put, reduceIte, Nat.reduceEqDiff]
        rw [el]
        cases y1 : (bifL[i].name == name) with
        | false =>
          rw [wpc_seq]
          simp only [a14_3, a14_4, wpc_skip, wpc_ops, wpc_draw, wpc_seq, wpc_cond, wpc_block, wpc_loop, wpc_exit, wpc_scope, wpc_ret, seqQ_norm, seqQ_ret, seqQ_exit, blockQ'_norm, blockQ'_ret, blockQ'_exit, roundQ_norm, roundQ_ret, roundQ_exit, condK_true, condK_false, wpo_nil', wpo_none, wpo_tt, wpo_ff, wpo_tf, wpo_ft, opsK_c, isC_none, isC_read, isC_write, wp1_call, callK_ret, wp1_mv', wp1_bin', wp1_un', wp1_eq', wp1_extract', wp1_pick', wp1_len', wp1_load', wp1_conv', wp1_store', wp1_idxAddr', wp1_append', wp1_mkIface', wp1_alloc', rd_t, rd_c, ok_t, ok_c, put_some, put_none, get_put, reduceIte, Nat.reduceEqDiff, AV.bool.injEq, Option.some.injEq, exists_eq_left', Option.map_some, Option.bind_some, opds_nil, opds_cons, opd_t, opd_c, aBin, aInt, decide_true, decide_false, negIf, wp1_nilCheck', wp1_fieldAddr', wp1_slice, op_slice, opdo_some, opdo_none, wp1_lit, op_lit, parts_nil, parts_cons, wp1_build, op_build, wp1_box, op_box, g0, g1, g4, g6, g7, en, z0, e1, e2, e3, e4, e5, e6, aStr, y1, aPick]
          refine go _ fun n hn => ?_
          simp only [get_put]
          repeat rw [if_neg (by omega)]
        | true =>
          have y2 : (bifL[i].ar == ar) = false := by
            cases y2 : (bifL[i].ar == ar) with
            | false => rfl
            | true => exact absurd (by rw [hits, y1, y2]; rfl) c2
          rw [wpc_seq]
          simp only [a14_3, a14_4, wpc_skip, wpc_ops, wpc_draw, wpc_seq, wpc_cond, wpc_block, wpc_loop, wpc_exit, wpc_scope, wpc_ret, seqQ_norm, seqQ_ret, seqQ_exit, blockQ'_norm, blockQ'_ret, blockQ'_exit, roundQ_norm, roundQ_ret, roundQ_exit, condK_true, condK_false, wpo_nil', wpo_none, wpo_tt, wpo_ff, wpo_tf, wpo_ft, opsK_c, isC_none, isC_read, isC_write, wp1_call, callK_ret, wp1_mv', wp1_bin', wp1_un', wp1_eq', wp1_extract', wp1_pick', wp1_len', wp1_load', wp1_conv', wp1_store', wp1_idxAddr', wp1_append', wp1_mkIface', wp1_alloc', rd_t, rd_c, ok_t, ok_c, put_some, put_none, get_put, reduceIte, Nat.reduceEqDiff, AV.bool.injEq, Option.some.injEq, exists_eq_left', Option.map_some, Option.bind_some, opds_nil, opds_cons, opd_t, opd_c, aBin, aInt, decide_true, decide_false, negIf, wp1_nilCheck', wp1_fieldAddr', wp1_slice, op_slice, opdo_some, opdo_none, wp1_lit, op_lit, parts_nil, parts_cons, wp1_build, op_build, wp1_box, op_box, g0, g1, g4, g6, g7, en, z0, e1, e2, e3, e4, e5, e6, aStr, y1, y2, aPick]
          refine go _ fun n hn => ?_
          simp only [get_put]
          repeat rw [if_neg (by omega)]
    · have z0 : ((i : Int) < 44) = False := eq_false (by omega)
      have e3 : bifL.drop i = [] := List.drop_of_length_le (by omega)
      simp only [a14_l7, a14_3, wpc_skip, wpc_ops, wpc_draw, wpc_seq, wpc_cond, wpc_block, wpc_loop, wpc_exit, wpc_scope, wpc_ret, seqQ_norm, seqQ_ret, seqQ_exit, blockQ'_norm, blockQ'_ret, blockQ'_exit, roundQ_norm, roundQ_ret, roundQ_exit, condK_true, condK_false, wpo_nil', wpo_none, wpo_tt, wpo_ff, wpo_tf, wpo_ft, opsK_c, isC_none, isC_read, isC_write, wp1_call, callK_ret, wp1_mv', wp1_bin', wp1_un', wp1_eq', wp1_extract', wp1_pick', wp1_len', wp1_load', wp1_conv', wp1_store', wp1_idxAddr', wp1_append', wp1_mkIface', wp1_alloc', rd_t, rd_c, ok_t, ok_c, put_some, put_none, get_put, reduceIte, Nat.reduceEqDiff, AV.bool.injEq, Option.some.injEq, exists_eq_left', Option.map_some, Option.bind_some, opds_nil, opds_cons, opd_t, opd_c, aBin, aInt, decide_true, decide_false, negIf, wp1_nilCheck', wp1_fieldAddr', wp1_slice, op_slice, opdo_some, opdo_none, wp1_lit, op_lit, parts_nil, parts_cons, wp1_build, op_build, wp1_box, op_box, g6, g7, en, z0]
      refine hN _ h ?_ a4 ?_
      · rw [e3]; rfl
      · simp only [get_put, reduceIte, Nat.reduceEqDiff, g4]

theorem rfind_spec (h : Heap) (name : List UInt8) (ar : Int) : WC env 14 [.str name, .int .i64 ar] h (fun o => o = .ret ⟨findV name ar, h, .none⟩) := by
  refine call_pure rfl rfl rfl rfl ?_
  obtain ⟨h1, eh1⟩ : ∃ h1, h1 = Heap.empty.new zero4 := ⟨_, rfl⟩
  have eh1' : Heap.empty.new [AV.str [], .int .i64 0, .int .i64 0, .bool false] = h1 := eh1.symm
  have ho1 : HeapOk h1 := by rw [eh1]; exact HeapOk.empty.new _
  have a1 : h1.at_ Heap.empty.next 0 = some zero4 := by rw [eh1]; exact at_new _
  simp only [a14, a14_0, a14_1, a14_2, Slots.ofList, wpc_skip, wpc_ops, wpc_draw, wpc_seq, wpc_cond, wpc_block, wpc_loop, wpc_exit, wpc_scope, wpc_ret, seqQ_norm, seqQ_ret, seqQ_exit, blockQ'_norm, blockQ'_ret, blockQ'_exit, roundQ_norm, roundQ_ret, roundQ_exit, condK_true, condK_false, wpo_nil', wpo_none, wpo_tt, wpo_ff, wpo_tf, wpo_ft, opsK_c, isC_none, isC_read, isC_write, wp1_call, callK_ret, wp1_mv', wp1_bin', wp1_un', wp1_eq', wp1_extract', wp1_pick', wp1_len', wp1_load', wp1_conv', wp1_store', wp1_idxAddr', wp1_append', wp1_mkIface', wp1_alloc', rd_t, rd_c, ok_t, ok_c, put_some, put_none, get_put, reduceIte, Nat.reduceEqDiff, AV.bool.injEq, Option.some.injEq, exists_eq_left', Option.map_some, Option.bind_some, opds_nil, opds_cons, opd_t, opd_c, aBin, aInt, decide_true, decide_false, negIf, wp1_nilCheck', wp1_fieldAddr', wp1_slice, op_slice, opdo_some, opdo_none, wp1_lit, op_lit, parts_nil, parts_cons, wp1_build, op_build, wp1_box, op_box, eh1', wc_eq (rall_spec _)]
  refine rfind_loop (name := name) (ar := ar) (i4 := Heap.empty.next) 45 0 h1 _ (by decide) (by omega) ho1 a1 ?_ ?_ ?_ ?_ ?_ (fun b σ' h' hb hat g4 g5 => ?_) (fun σ' h' hb hat g4 => ?_)
  · simp only [get_put, reduceIte, Nat.reduceEqDiff] <;> rfl
  · simp only [get_put, reduceIte, Nat.reduceEqDiff] <;> rfl
  · simp only [get_put, reduceIte, Nat.reduceEqDiff] <;> rfl
  · simp only [get_put, reduceIte, Nat.reduceEqDiff] <;> rfl
  · simp only [get_put, reduceIte, Nat.reduceEqDiff] <;> rfl
  · have hb' : bifL.find? (hits name ar) = some b := hb
    have l := ld4 (a := .str b.name) (b := .int .i64 b.ar) (c := .int .i64 1) (d := .bool b.gd) hat
    refine ⟨[.agg b.cells, .bool true], findV name ar, ?_, ?_, rfl⟩
    · simp only [Env.results, Option.map_some, g4, g5, l, Option.bind_some]; rfl
    · rw [findV, hb']
      exact (frz_noRef (v := .tup [.agg b.cells, .bool true]) rfl).2 rfl
  · have hb' : bifL.find? (hits name ar) = none := hb
    have l := st4 (a' := .str []) (b' := .int .i64 0) (c' := .int .i64 0) (d' := .bool false) hat
    have y1 : aFill [.str [], .int .i64 0, .int .i64 0, .bool false] [] = some [.str [], .int .i64 0, .int .i64 0, .bool false] := rfl
    simp only [a14_8, wpc_skip, wpc_ops, wpc_draw, wpc_seq, wpc_cond, wpc_block, wpc_loop, wpc_exit, wpc_scope, wpc_ret, seqQ_norm, seqQ_ret, seqQ_exit, blockQ'_norm, blockQ'_ret, blockQ'_exit, roundQ_norm, roundQ_ret, roundQ_exit, condK_true, condK_false, wpo_nil', wpo_none, wpo_tt, wpo_ff, wpo_tf, wpo_ft, opsK_c, isC_none, isC_read, isC_write, wp1_call, callK_ret, wp1_mv', wp1_bin', wp1_un', wp1_eq', wp1_extract', wp1_pick', wp1_len', wp1_load', wp1_conv', wp1_store', wp1_idxAddr', wp1_append', wp1_mkIface', wp1_alloc', rd_t, rd_c, ok_t, ok_c, put_some, put_none, get_put, reduceIte, Nat.reduceEqDiff, AV.bool.injEq, Option.some.injEq, exists_eq_left', Option.map_some, Option.bind_some, opds_nil, opds_cons, opd_t, opd_c, aBin, aInt, decide_true, decide_false, negIf, wp1_nilCheck', wp1_fieldAddr', wp1_slice, op_slice, opdo_some, opdo_none, wp1_lit, op_lit, parts_nil, parts_cons, wp1_build, op_build, wp1_box, op_box, g4, y1, l]
    have l2 := ld4 (h := h'.upd Heap.empty.next 0 [.str [], .int .i64 0, .int .i64 0, .bool false]) at_upd
    refine ⟨[.agg zero4, .bool false], findV name ar, ?_, ?_, rfl⟩
    · simp only [Env.results, Option.map_some, get_put, reduceIte, Nat.reduceEqDiff, g4, l2, Option.bind_some]; rfl
    · rw [findV, hb']
      exact (frz_noRef (v := .tup [.agg zero4, .bool false]) rfl).2 rfl

theorem eq4 (a : List UInt8) (b c : Int) (d : Bool) : aEq (.struct [(0, 1, false, .str), (1, 1, false, .int), (2, 1, false, .int), (3, 1, false, .bool)]) (.agg [.str a, .int .i64 b, .int .i64 c, .bool d]) (.agg [.str a, .int .i64 b, .int .i64 c, .bool d]) = some true := by
  simp [aEq, aEqs, aEqScalar]
theorem names_loop {h : Heap} {Q : AExit → St → Prop} : ∀ (f i : Nat) (σ : Slots), bifL.length - i < f → i ≤ bifL.length → σ.get 5 = .fs false 44 (bifCells bifL) → σ.get 6 = .fs false 44 (bifCells bifL) → σ.get 7 = .int .i64 i →
      (∀ σ', (∀ n, n < 5 → σ'.get n = σ.get n) → Q (.exit 0) ⟨σ', h⟩) → WPr env a3_l9 ⟨σ, h⟩ Q := by
  intro f
  have hlen : bifL.length = 44 := rfl
  induction f with
  | zero => intro i σ h1; omega
  | succ f ih =>
    intro i σ hf hi g5 g6 g7 hQ
    refine wpr_round' fun b hb' => ?_
    have en : ∀ h, aLenOp false h (.fs false 44 (bifCells bifL)) = some ⟨.int .i64 44, h, .none⟩ := fun h => rfl
    by_cases c1 : i < bifL.length
    · have z0 : ((i : Int) < 44) = True := eq_true (by omega)
      have z1 : IntKind.wrap .i64 ((i : Int) + 1) = ((i + 1 : Nat) : Int) := wrap_nat (by omega) (by omega)
      obtain ⟨rest, e1⟩ := bif_elem (full := false) c1
      rw [hlen] at e1
      have e2 := bif_load bifL[i] rest h
      have e3 : aEq (.struct [(0, 1, false, .str), (1, 1, false, .int), (2, 1, false, .int), (3, 1, false, .bool)]) (.agg bifL[i].cells) (.agg bifL[i].cells) = some true := eq4 _ _ _ _
      rw [a3_l9]
      simp only [a3_5, a3_6, a3_8, wpc_skip, wpc_ops, wpc_seq, wpc_cond, wpc_block, wpc_loop, wpc_exit, wpc_scope, wpc_ret, seqQ_norm, seqQ_ret, seqQ_exit, blockQ'_norm, blockQ'_ret, blockQ'_exit, roundQ_norm, roundQ_ret, roundQ_exit, condK_true, condK_false, wpo_nil', wpo_none, wpo_tt, wpo_ff, wpo_tf, wpo_ft, opsK_c, isC_none, isC_read, isC_write, wp1_call, callK_ret, wp1_mv', wp1_bin', wp1_un', wp1_eq', wp1_extract', wp1_pick', wp1_len', wp1_load', wp1_conv', wp1_store', wp1_idxAddr', wp1_append', wp1_mkIface', wp1_alloc', rd_t, rd_c, ok_t, ok_c, put_some, put_none, get_put, reduceIte, Nat.reduceEqDiff, AV.bool.injEq, Option.some.injEq, exists_eq_left', Option.map_some, Option.bind_some, opds_nil, opds_cons, opd_t, opd_c, aBin, aInt, decide_true, decide_false, negIf, wp1_nilCheck', wp1_fieldAddr', wp1_slice, op_slice, opdo_some, opdo_none, wp1_lit, op_lit, parts_nil, parts_cons, wp1_build, op_build, wp1_box, op_box, g5, g6, g7, en, z0]
      refine wpc_draw_k ?_
      simp only [wpc_skip, wpc_ops, wpc_seq, wpc_cond, wpc_block, wpc_loop, wpc_exit, wpc_scope, wpc_ret, seqQ_norm, seqQ_ret, seqQ_exit, blockQ'_norm, blockQ'_ret, blockQ'_exit, roundQ_norm, roundQ_ret, roundQ_exit, condK_true, condK_false, wpo_nil', wpo_none, wpo_tt, wpo_ff, wpo_tf, wpo_ft, opsK_c, isC_none, isC_read, isC_write, wp1_call, callK_ret, wp1_mv', wp1_bin', wp1_un', wp1_eq', wp1_extract', wp1_pick', wp1_len', wp1_load', wp1_conv', wp1_store', wp1_idxAddr', wp1_append', wp1_mkIface', wp1_alloc', rd_t, rd_c, ok_t, ok_c, put_some, put_none, get_put, reduceIte, Nat.reduceEqDiff, AV.bool.injEq, Option.some.injEq, exists_eq_left', Option.map_some, Option.bind_some, opds_nil, opds_cons, opd_t, opd_c, aBin, aInt, decide_true, decide_false, negIf, wp1_nilCheck', wp1_fieldAddr', wp1_slice, op_slice, opdo_some, opdo_none, wp1_lit, op_lit, parts_nil, parts_cons, wp1_build, op_build, wp1_box, op_box, wpk_nil, wpk_none, wpk_tt, wpk_ff, wpk_tf, wpk_ft, clsK_c, logC_apply, drawC_apply, g5, g6, g7, e1, e2, e3, Bool.not_true]
      refine ⟨rfl, ?_⟩
      simp only [wpc_skip, wpc_ops, wpc_draw, wpc_seq, wpc_cond, wpc_block, wpc_loop, wpc_exit, wpc_scope, wpc_ret, seqQ_norm, seqQ_ret, seqQ_exit, blockQ'_norm, blockQ'_ret, blockQ'_exit, roundQ_norm, roundQ_ret, roundQ_exit, condK_true, condK_false, wpo_nil', wpo_none, wpo_tt, wpo_ff, wpo_tf, wpo_ft, opsK_c, isC_none, isC_read, isC_write, wp1_call, callK_ret, wp1_mv', wp1_bin', wp1_un', wp1_eq', wp1_extract', wp1_pick', wp1_len', wp1_load', wp1_conv', wp1_store', wp1_idxAddr', wp1_append', wp1_mkIface', wp1_alloc', rd_t, rd_c, ok_t, ok_c, put_some, put_none, get_put, reduceIte, Nat.reduceEqDiff, AV.bool.injEq, Option.some.injEq, exists_eq_left', Option.map_some, Option.bind_some, opds_nil, opds_cons, opd_t, opd_c, aBin, aInt, decide_true, decide_false, negIf, wp1_nilCheck', wp1_fieldAddr', wp1_slice, op_slice, opdo_some, opdo_none, wp1_lit, op_lit, parts_nil, parts_cons, wp1_build, op_build, wp1_box, op_box, g7, z1]
      subst hb'
      refine ih (i + 1) _ (by omega) (by omega) ?_ ?_ ?_ fun σ' s' => hQ σ' fun n hn => ?_
      · simp only [get_put, reduceIte, Nat.reduceEqDiff, g5]
      · simp only [get_put, reduceIte, Nat.reduceEqDiff, g6]
      · simp only [get_put, reduceIte, Nat.reduceEqDiff]
      · rw [s' n hn]
        simp only [get_put]
        repeat rw [if_neg (by omega)]
    · have z0 : ((i : Int) < 44) = False := eq_false (by omega)
      simp only [a3_l9, a3_5, wpc_skip, wpc_ops, wpc_draw, wpc_seq, wpc_cond, wpc_block, wpc_loop, wpc_exit, wpc_scope, wpc_ret, seqQ_norm, seqQ_ret, seqQ_exit, blockQ'_norm, blockQ'_ret, blockQ'_exit, roundQ_norm, roundQ_ret, roundQ_exit, condK_true, condK_false, wpo_nil', wpo_none, wpo_tt, wpo_ff, wpo_tf, wpo_ft, opsK_c, isC_none, isC_read, isC_write, wp1_call, callK_ret, wp1_mv', wp1_bin', wp1_un', wp1_eq', wp1_extract', wp1_pick', wp1_len', wp1_load', wp1_conv', wp1_store', wp1_idxAddr', wp1_append', wp1_mkIface', wp1_alloc', rd_t, rd_c, ok_t, ok_c, put_some, put_none, get_put, reduceIte, Nat.reduceEqDiff, AV.bool.injEq, Option.some.injEq, exists_eq_left', Option.map_some, Option.bind_some, opds_nil, opds_cons, opd_t, opd_c, aBin, aInt, decide_true, decide_false, negIf, wp1_nilCheck', wp1_fieldAddr', wp1_slice, op_slice, opdo_some, opdo_none, wp1_lit, op_lit, parts_nil, parts_cons, wp1_build, op_build, wp1_box, op_box, g5, g7, en, z0]
      refine hQ _ fun n hn => ?_
      simp only [get_put]
      repeat rw [if_neg (by omega)]

theorem names_spec (name : List UInt8) (ar : Int) : WC env 3 [.str name, .int .i64 ar] .empty (fun o => ∃ h', o = .ret ⟨.bool true, h', .write⟩) := by
  have en : ∀ h, aLenOp false h (.fs false 44 (bifCells bifL)) = some ⟨.int .i64 44, h, .none⟩ := fun h => rfl
  refine call_body rfl rfl (.inl rfl) ?_
  obtain ⟨cs, ec, hc⟩ : ∃ a b c d, foundCells (bifL.find? (hits name ar)) = [.str a, .int .i64 b, .int .i64 c, .bool d] := by
    cases bifL.find? (hits name ar) with
    | none => exact ⟨_, _, _, _, rfl⟩
    | some b => exact ⟨_, _, _, _, rfl⟩
  obtain ⟨c, d, hc⟩ := hc
  obtain ⟨fb, efb⟩ : ∃ fb, fb = (bifL.find? (hits name ar)).isSome := ⟨_, rfl⟩
  have fs : ∀ h, WC env 13 [.str name, .int .i64 ar] h (fun o => o = .ret ⟨.tup [.agg [.str cs, .int .i64 ec, .int .i64 c, .bool d], .bool fb], h, .none⟩) := fun h => by
    have := find_spec h name ar
    rw [findV, hc, ← efb] at this; exact this
  have rs : ∀ h, WC env 14 [.str name, .int .i64 ar] h (fun o => o = .ret ⟨.tup [.agg [.str cs, .int .i64 ec, .int .i64 c, .bool d], .bool fb], h, .none⟩) := fun h => by
    have := rfind_spec h name ar
    rw [findV, hc, ← efb] at this; exact this
  simp only [a3, a3_0, a3_1, a3_2, a3_4, Slots.ofList, wpc_skip, wpc_ops, wpc_draw, wpc_seq, wpc_cond, wpc_block, wpc_loop, wpc_exit, wpc_scope, wpc_ret, seqQ_norm, seqQ_ret, seqQ_exit, blockQ'_norm, blockQ'_ret, blockQ'_exit, roundQ_norm, roundQ_ret, roundQ_exit, condK_true, condK_false, wpo_nil', wpo_none, wpo_tt, wpo_ff, wpo_tf, wpo_ft, opsK_c, isC_none, isC_read, isC_write, wp1_call, callK_ret, wp1_mv', wp1_bin', wp1_un', wp1_eq', wp1_extract', wp1_pick', wp1_len', wp1_load', wp1_conv', wp1_store', wp1_idxAddr', wp1_append', wp1_mkIface', wp1_alloc', rd_t, rd_c, ok_t, ok_c, put_some, put_none, get_put, reduceIte, Nat.reduceEqDiff, AV.bool.injEq, Option.some.injEq, exists_eq_left', Option.map_some, Option.bind_some, opds_nil, opds_cons, opd_t, opd_c, aBin, aInt, decide_true, decide_false, negIf, wp1_nilCheck', wp1_fieldAddr', wp1_slice, op_slice, opdo_some, opdo_none, wp1_lit, op_lit, parts_nil, parts_cons, wp1_build, op_build, wp1_box, op_box, wc_eq (all_spec _), wc_eq (rall_spec _), en, bne_self_eq_false]
  refine names_loop 45 0 _ (by decide) (by omega) ?_ ?_ ?_ fun σ' s' => ?_
  · simp only [get_put, reduceIte, Nat.reduceEqDiff] <;> rfl
  · simp only [get_put, reduceIte, Nat.reduceEqDiff] <;> rfl
  · simp only [get_put, reduceIte, Nat.reduceEqDiff] <;> rfl
  have g0 : σ'.get 0 = .str name := by rw [s' 0 (by omega)]; simp only [get_put, reduceIte, Nat.reduceEqDiff] <;> rfl
  have g1 : σ'.get 1 = .int .i64 ar := by rw [s' 1 (by omega)]; simp only [get_put, reduceIte, Nat.reduceEqDiff] <;> rfl
  obtain ⟨h1, s1, ho1, l1, a1⟩ := box4 HeapOk.empty (.str cs) (.int .i64 ec) (.int .i64 c) (.bool d)
  obtain ⟨h2, s2, ho2, l2, a2⟩ := box4 ho1 (.str cs) (.int .i64 ec) (.int .i64 c) (.bool d)
  have w1 := ld4 (l2.2 _ _ _ a1)
  have w2 := ld4 a2
  have e3 := eq4 cs ec c d
  have e4 : aEq .bool (.bool fb) (.bool fb) = some true := by simp [aEq, aEqScalar]
  simp only [a3_10, a3_11, a3_12, wpc_skip, wpc_ops, wpc_draw, wpc_seq, wpc_cond, wpc_block, wpc_loop, wpc_exit, wpc_scope, wpc_ret, seqQ_norm, seqQ_ret, seqQ_exit, blockQ'_norm, blockQ'_ret, blockQ'_exit, roundQ_norm, roundQ_ret, roundQ_exit, condK_true, condK_false, wpo_nil', wpo_none, wpo_tt, wpo_ff, wpo_tf, wpo_ft, opsK_c, isC_none, isC_read, isC_write, wp1_call, callK_ret, wp1_mv', wp1_bin', wp1_un', wp1_eq', wp1_extract', wp1_pick', wp1_len', wp1_load', wp1_conv', wp1_store', wp1_idxAddr', wp1_append', wp1_mkIface', wp1_alloc', rd_t, rd_c, ok_t, ok_c, put_some, put_none, get_put, reduceIte, Nat.reduceEqDiff, AV.bool.injEq, Option.some.injEq, exists_eq_left', Option.map_some, Option.bind_some, opds_nil, opds_cons, opd_t, opd_c, aBin, aInt, decide_true, decide_false, negIf, wp1_nilCheck', wp1_fieldAddr', wp1_slice, op_slice, opdo_some, opdo_none, wp1_lit, op_lit, parts_nil, parts_cons, wp1_build, op_build, wp1_box, op_box, g0, g1, wc_eq (fs _), wc_eq (rs _), aExtract, ex0, ex1, s1, s2, w1, w2, e3, e4, aPick, wc_eq (alive_spec _)]
  exact ⟨[.bool true], by simp only [Env.results, Option.map_some, get_put, reduceIte, Nat.reduceEqDiff], _, rfl⟩
end Go.Bf
