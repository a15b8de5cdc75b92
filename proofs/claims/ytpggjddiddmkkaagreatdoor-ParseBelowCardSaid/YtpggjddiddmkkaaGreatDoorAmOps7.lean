/-
  THE ABSTRACT MACHINE AND THE MODEL: cap, clear, copy, append of a make, slices cut beyond their length.
-/
import Derived.Test.YtpggjddiddmkkaaGreatDoorAmOps6
import Derived.Lib.AppendZeros
set_option linter.unusedSimpArgs false
set_option linter.unusedVariables false
namespace Go.AM
open Go.RowKit
section
variable {B : Nat} {w0 : World} {E : Env} {X : RX} {P : Program}
theorem sim_sliceH (hR : Rel B w0 E X) {t e : TypeId} (hu : P.underlying t = some (.slice e)) {sz : Nat} (hs : tSize P e = some sz) {x : AV} {c : Value} (hx : VRel X x c)
    {lo hi mx : Option AV} {lo' hi' mx' : Option Value} (h1 : ORel X lo lo') (h2 : ORel X hi hi') (h3 : ORel X mx mx') {r : OpRes} (h : aSliceH X.h sz x lo hi mx = some r) :
    Sim B w0 E X P (Instr.sliceAt t c lo' hi' mx') r.v r.h := by
  cases hx with
  | sl id gen off sz' len cap a n hid hlen hcap hlive =>
    cases cap with
    | some k => simp [aSliceH] at h
    | none =>
    cases h2 with
    | none => simp [aSliceH] at h
    | some uv uc huv =>
    cases h3 with
    | some _ _ _ => simp [aSliceH] at h
    | none =>
    simp only [aSliceH] at h
    split at h
    case isFalse => cases h
    rename_i he
    obtain ⟨rfl, hsz⟩ := he
    simp only [Option.bind_eq_some_iff, Option.map_eq_some_iff] at h
    obtain ⟨cs, hcs, ⟨l, u, m⟩, hb, rfl⟩ := h
    have hl := Heap.at_some hcs
    obtain ⟨⟨arr, T, fz, e1, e2, e3, e4, e5⟩, _⟩ := hR.obj id _ hl
    dsimp only at e3
    have hn := ((hlive _ hl).2 rfl).2
    have hn2 := hn.2 rfl
    have hcp : (cs.length - off) / sz' ≤ n := by
      have : cs.length - off ≤ n * sz' := by omega
      exact Nat.le_trans (Nat.div_le_div_right this) (by rw [Nat.mul_div_cancel _ hsz]; exact Nat.le_refl _)
    -- the bounds
    simp only [bounds, Option.bind_eq_some_iff, Option.map_eq_some_iff, Prod.mk.injEq, Option.some.injEq] at hb
    obtain ⟨m1, rfl, u1, hu1, l1, hl1, rfl, rfl, rfl⟩ := hb
    obtain ⟨r1, r2⟩ := sbound_run (P := P) huv hu1 hcp .sliceAcap X.w
    have hun : u1 ≤ n := Nat.le_trans r2 hcp
    generalize (cs.length - off) / sz' = cp at *
    have hrun : ∃ l', l' = l1 ∧ (Instr.sliceBounds true len n lo' (some uc) none).run P X.w = .ok (l1, u1, n) X.w ∧ l1 ≤ u1 := by
      cases h1 with
      | none =>
        simp only [Option.some.injEq] at hl1
        subst hl1
        exact ⟨_, rfl, by simp [Instr.sliceBounds, r1], Nat.zero_le _⟩
      | some v' c' hv' =>
        obtain ⟨s1, s2⟩ := sbound_run (P := P) hv' hl1 (Nat.le_refl _) .sliceB X.w
        exact ⟨_, rfl, by simp [Instr.sliceBounds, r1, s1], s2⟩
    obtain ⟨_, _, hrun, hlu⟩ := hrun
    dsimp only
    refine Sim.same hR (v' := .slice (some (if n = l1 then a else a.add (l1 * sz'))) (u1 - l1) (n - l1)) ?_ (.sl _ _ _ _ _ _ _ _ hid (by omega) (fun _ e => by cases e) fun o ho => ⟨(hlive o ho).1, fun eg => ⟨fun hpos => ?_, ?_, fun _ => ?_⟩⟩)
    · simp [Instr.sliceAt, Instr.slice, run_underlying hu, hrun, run_sizeOf hs]
      split <;> rfl
    · rw [if_neg (by omega), ((hlive o ho).2 eg).1 (by omega), addr_add, Nat.add_assoc]
    · have := ((hlive o ho).2 eg).2.1
      have e2 := sub_mul_add l1 n sz' (by omega)
      omega
    · have := ((hlive o ho).2 eg).2.2 rfl
      have e2 := sub_mul_add l1 n sz' (by omega)
      omega
  | _ => simp [aSliceH] at h
theorem sim_cap (hR : Rel B w0 E X) {ts : Array TypeId} {t e ty : TypeId} (hts : ts[0]? = some t) (hu : P.underlying t = some (.slice e)) {x v : AV} {c : Value} (hx : VRel X x c) (h : aCap x = some v) :
    Sim B w0 E X P (Builtin.cap_ ts ty #[c]) v X.h := by
  have key : ∀ (a : Option Addr) (l n : Nat), (Builtin.cap_ ts ty #[.slice a l n]).run P X.w = .ok (.int .i64 n) X.w := by
    intro a l n
    simp [Builtin.cap_, hts, run_underlying hu, goInt]
  cases hx with
  | nils => cases h; exact Sim.same hR (key none 0 0) (.int _ _)
  | fs full len cells a n vs hlen hfull hat h1 hvs =>
    cases full with
    | false => cases h
    | true =>
      cases h
      have := hfull rfl
      subst this
      exact Sim.same hR (key _ _ _) (.int _ _)
  | sl id gen off sz len cap a n hid hlen hcap hlive =>
    cases cap with
    | none => cases h
    | some k =>
      cases h
      have := hcap k rfl
      subst this
      exact Sim.same hR (key _ _ _) (.int _ _)
  | _ => cases h
theorem zeroCells_list {z : Array Value} (hz : 0 < z.size) (n : Nat) : (Builtin.zeroCells z n).toList = (List.replicate n z.toList).flatten := range_mod z n hz
theorem sim_appendZ (hR : Rel B w0 E X) {t u e ty : TypeId} (ht : P.underlying t = some (.slice e)) (hu : P.underlying u = some (.int .i64)) {sz bytes : Nat} {zero : List AV} (hs : tSize P e = some sz) (hb : tBytes P e = some bytes) (hz : tZero P e = some zero)
    {x y : AV} {c d : Value} (hx : VRel X x c) (hy : VRel X y d) {r : OpRes} (h : aAppendZ X.h sz bytes zero x y = some r) : Sim B w0 E X P (Builtin.append_ #[t, u] ty #[c, d]) r.v r.h := by
  cases hx with
  | nils =>
    cases hy with
    | int kd k =>
      cases kd <;> simp only [aAppendZ, reduceCtorEq] at h
      split at h
      case isFalse => cases h
      rename_i hc
      obtain ⟨c1, c2, c3, c4, c5⟩ := hc
      cases h
      obtain ⟨i, zv, hi, hiz, hm⟩ := tZero_info hz
      obtain ⟨i1, hi1, hs1⟩ := tSize_info hs
      obtain ⟨i2, hi2, hb2⟩ := tBytes_info hb
      rw [hi] at hi1 hi2
      cases hi1; cases hi2
      obtain ⟨h1, h2⟩ := mapM_cellAV (X := X) hm
      have hzs : zv.cells.size = sz := by have := h1.length; simp at this; omega
      obtain ⟨m, rfl⟩ := Int.eq_ofNat_of_zero_le (show 0 ≤ k by omega)
      have hrun := Lib.run_append_nil_zeros (P := P) X.w t u ty e i zv .i64 .i64 ht hu hi hiz m (by omega) (by omega) (by omega) (by rw [hb2]; omega)
      have hge := grownCap_ge X.w m 0 e
      have hge : m ≤ grownCap X.w m 0 e := by simpa using grownCap_ge X.w m 0 e
      have hsz : (Builtin.zeroCells zv.cells m ++ Builtin.zeroCells zv.cells (grownCap X.w m 0 e - m)).size = grownCap X.w m 0 e * sz := by
        rw [Array.size_append, zeroCells_size, zeroCells_size, hzs, ← Nat.add_mul]
        congr 1
        omega
      have hlen : (List.replicate m zero).flatten.length = m * sz := by simp [c5]
      have e1 : ((m : Int)).toNat = m := rfl
      rw [e1]
      have hmul : m * sz ≤ grownCap X.w m 0 e * sz := Nat.mul_le_mul_right _ hge
      refine Sim.new_ hR (below_drew_alloc X.w _) (Nat.le_refl _) ?_ (by rw [← World.size_drew]; exact heap_new X.w.drew _) (.inl rfl) (by rw [hsz, hlen]; exact hmul) ?_ hrun
        (VRel.newSl _ _ _ _ _ _ _ _ hge (fun _ h => by cases h) (by rw [hsz]; exact Nat.le_refl _) (fun _ => hsz.symm))
      · intro v hv
        obtain ⟨l, hl, hv⟩ := List.mem_flatten.1 hv
        rw [List.eq_of_mem_replicate hl] at hv
        exact h2 v hv
      · rw [hlen, Array.toList_append, List.take_append_of_le_length (by rw [Array.length_toList, zeroCells_size, hzs]; exact Nat.le_refl _),
          List.take_of_length_le (by rw [Array.length_toList, zeroCells_size, hzs]; exact Nat.le_refl _), zeroCells_list (by omega)]
        exact VRels.flatten_replicate h1 m
    | _ => simp [aAppendZ] at h
  | _ => simp [aAppendZ] at h
theorem sim_clear (hR : Rel B w0 E X) {ts : Array TypeId} {t e ty : TypeId} (hts : ts[0]? = some t) (hu : P.underlying t = some (.slice e)) {sz : Nat} {zero : List AV} (hs : tSize P e = some sz) (hz : tZero P e = some zero) {x : AV} {c : Value} (hx : VRel X x c) {r : OpRes}
    (h : aClear X.h sz zero x = some r) : Sim B w0 E X P (Builtin.clear_ ts ty #[c]) r.v r.h := by
  have hun : VRel X .undef (.tuple #[]) := .tup [] [] .nil
  cases hx with
  | nils => cases h; exact Sim.same hR (by simp [Builtin.clear_, hts, run_underlying hu]) hun
  | fs full len cells a n vs hlen hfull hat h1 hvs =>
    simp only [aClear] at h
    split at h
    · rename_i h0
      subst h0
      cases h
      exact Sim.same hR (by simp [Builtin.clear_, hts, run_underlying hu]) hun
    · cases h
  | sl id gen off sz' len cap a n hid hlen hcap hlive =>
    simp only [aClear] at h
    split at h
    · rename_i h0
      subst h0
      cases h
      exact Sim.same hR (by simp [Builtin.clear_, hts, run_underlying hu]) hun
    rename_i h0
    split at h
    case isFalse => cases h
    rename_i hc
    obtain ⟨rfl, c5⟩ := hc
    simp only [Option.bind_eq_some_iff] at h
    obtain ⟨cs, hcs, h⟩ := h
    split at h
    case isFalse => cases h
    rename_i hfit
    cases h
    have hl := Heap.at_some hcs
    have ha := ((hlive _ hl).2 rfl).1 (by omega)
    subst ha
    obtain ⟨i, zv, hi, hiz, hm⟩ := tZero_info hz
    obtain ⟨i1, hi1, hs1⟩ := tSize_info hs
    rw [hi] at hi1
    cases hi1
    obtain ⟨h1, h2⟩ := mapM_cellAV (X := X) hm
    have hzs : zv.cells.size = sz' := by have := h1.length; simp at this; omega
    have hlen2 : (List.replicate len zero).flatten.length = len * sz' := by simp [c5]
    have hall : allOne (List.replicate len zero).flatten := by
      intro v hv
      obtain ⟨l, hl, hv⟩ := List.mem_flatten.1 hv
      rw [List.eq_of_mem_replicate hl] at hv
      exact h2 v hv
    obtain ⟨X', q1, q2, q3, q4, _⟩ := sim_splice (P := P) hR hl (off := off) (VRels.flatten_replicate h1 len) hall (by rw [hlen2]; exact hfit)
    have hzl : (Builtin.zeroCells zv.cells len).toList = (List.replicate len zv.cells.toList).flatten := by
      by_cases hz0 : 0 < zv.cells.size
      · exact zeroCells_list hz0 len
      · have e0 : zv.cells.size = 0 := by omega
        have e1 : zv.cells = #[] := Array.size_eq_zero_iff.1 e0
        rw [e1]
        have : (Builtin.zeroCells #[] len).size = 0 := by rw [zeroCells_size]; simp
        rw [Array.size_eq_zero_iff.1 this]
        simp
    refine ⟨X', .tuple #[], ?_, q2, q3, q4, .tup [] [] .nil⟩
    have hne : len ≠ 0 := h0
    have hb : (Builtin.clear_ ts ty #[.slice (some ⟨(X.ρ id).b, (X.ρ id).o + off, none⟩) len n]).run P X.w = (do storeCells ⟨(X.ρ id).b, (X.ρ id).o + off, none⟩ (Builtin.zeroCells zv.cells len).toList; pure (.tuple #[]) : Sem Value).run P X.w := by
      cases len with
      | zero => exact absurd rfl hne
      | succ len => simp [Builtin.clear_, hts, run_underlying hu, zeroValue, typeInfo, hi, hiz]
    rw [hb, hzl]
    simp only [Sem.run_bind, q1, Result.andThen_ok, Sem.run_pure]
  | _ => simp [aClear] at h
theorem sim_copy (hR : Rel B w0 E X) {ts : Array TypeId} {t e ty : TypeId} (hts : ts[0]? = some t) (hu : P.underlying t = some (.slice e)) {sz : Nat} (hs : tSize P e = some sz) {x y : AV} {c d : Value} (hx : VRel X x c) (hy : VRel X y d) {r : OpRes}
    (h : aCopy X.h sz x y = some r) : Sim B w0 E X P (Builtin.copy_ ts ty #[c, d]) r.v r.h := by
  simp only [aCopy, Option.bind_eq_some_iff] at h
  obtain ⟨m, hm, h⟩ := h
  have hly := lenOf_run (P := P) hy hm X.w
  have hsz := run_sizeOf hs
  have hf0 : (Builtin.firstCells sz 0 d).run P X.w = .ok #[] X.w := by
    cases hy <;> simp only [aLen, Option.some.injEq, reduceCtorEq] at hm <;> simp [Builtin.firstCells, loadCells, loadCellsFrom]
  have zero : ∀ (a : Option Addr) (l n : Nat), Nat.min m l = 0 → (Builtin.copy_ ts ty #[.slice a l n, d]).run P X.w = .ok (.int .i64 0) X.w := by
    intro a l n h0
    cases a <;> simp [Builtin.copy_, hts, run_underlying hu, hly, hsz, h0, hf0, goInt, storeCells]
  cases hx with
  | nils => cases h; exact Sim.same hR (zero none 0 0 (by simp)) (.int _ _)
  | fs full len cells a n vs hlen hfull hat h1 hvs =>
    simp only at h
    split at h
    · rename_i h0
      cases h
      exact Sim.same hR (zero _ _ _ h0) (.int _ _)
    · cases h
  | sl id gen off sz' len cap a n hid hlen hcap hlive =>
    simp only at h
    split at h
    · rename_i h0
      cases h
      exact Sim.same hR (zero _ _ _ h0) (.int _ _)
    rename_i h0
    split at h
    case isFalse => cases h
    rename_i hc
    subst hc
    simp only [Option.bind_eq_some_iff] at h
    obtain ⟨⟨new, kn⟩, hnew, cs, hcs, h⟩ := h
    dsimp only at h
    split at h
    case isFalse => cases h
    rename_i hfit
    cases h
    have hl := Heap.at_some hcs
    have hmin : Nat.min m len ≤ len := Nat.min_le_right _ _
    have hmin2 : min m len ≤ len := Nat.min_le_right _ _
    have ha := ((hlive _ hl).2 rfl).1 (by omega)
    subst ha
    obtain ⟨news, rn, on, ln, hfn⟩ := firstCells_run (P := P) hR hy hnew
    obtain ⟨X', q1, q2, q3, q4, _⟩ := sim_splice (P := P) hR hl (off := off) rn on (by rw [ln]; exact hfit)
    refine ⟨X', .int .i64 (min m len : Nat), ?_, q2, q3, q4, .int _ _⟩
    have hfn' := hfn X.w rfl
    have hfn2 : (Builtin.firstCells sz' (Nat.min m len) d).run P X.w = .ok news.toArray X.w := hfn'
    simp [Builtin.copy_, hts, run_underlying hu, hly, hsz, hfn2, goInt, q1]
  | _ => simp at h
end
end Go.AM
