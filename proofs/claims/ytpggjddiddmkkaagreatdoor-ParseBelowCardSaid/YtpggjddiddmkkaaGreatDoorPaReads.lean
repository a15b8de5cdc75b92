/-
  What a reading of nodes and of numbers is among the machine's values.
-/
import Derived.Test.YtpggjddiddmkkaaGreatDoorChecked
import Derived.Test.YtpggjddiddmkkaaGreatDoorRows
import Derived.Test.YtpggjddiddmkkaaGreatDoorAmRead
import Derived.Test.YtpggjddiddmkkaaGreatDoorPaLaw
import Derived.KernelRfl
set_option linter.unusedVariables false
set_option linter.unusedSimpArgs false
namespace Go.Pa
open Go.AM Go.Proofs Go.RowKit Go.ChangeShapes Go.Proofs.YtpggjddiddmkkaaGreatDoor
def iAV (n : Int) : AV := .int .i64 n
theorem noRefs_app : ∀ a b : List AV, AV.noRefs (a ++ b) = (AV.noRefs a && AV.noRefs b)
  | [], b => by rw [noRefs_nil]; rfl
  | v :: a, b => by rw [List.cons_append, noRefs_cons, noRefs_cons, noRefs_app a b, Bool.and_assoc]
theorem noRefs_ints : ∀ l : List Int, AV.noRefs (l.map iAV) = true
  | [] => rfl
  | n :: l => by rw [List.map_cons, noRefs_cons, noRefs_ints l]; rfl
theorem is_nil : IS .nils [] := ⟨fun h => rfl, fun i hi => absurd hi (by simp), rfl⟩
theorem is_fs (b : Bool) (l : List Int) : IS (.fs b l.length (l.map iAV)) l := by
  refine ⟨fun h => rfl, fun i hi => ?_, by rw [noRef_fs, noRefs_ints]⟩
  have go : aIdxAddr 1 (.fs b l.length (l.map iAV)) (.int .i64 i) = some (.fp ((l.map iAV).drop (i * 1))) := by
    cases l with
    | nil => simp at hi
    | cons a l =>
      simp only [aIdxAddr, aIndex_nat (kd := .i64) hi, List.map_cons]
      rfl
  refine ⟨_, go, ?_⟩
  rw [Nat.mul_one, List.drop_eq_getElem_cons (by simpa using hi), List.getElem_map]
  rfl
section
variable {H : Type} {P : Program}
theorem fits_ints : ∀ {es : List (DataW H)} {css : List (List AV)}, All2 (Fits (.int .i64)) es css → ∃ l : List Int, css.flatten = l.map iAV ∧ l.length = es.length
  | _, _, .nil => ⟨[], rfl, rfl⟩
  | _, _, .cons h hs => by
    obtain ⟨n, _, _, rfl⟩ := h
    obtain ⟨l, h1, h2⟩ := fits_ints hs
    exact ⟨n :: l, by rw [List.flatten_cons, h1]; rfl, by rw [List.length_cons, List.length_cons, h2]⟩
theorem all_left {a b : List Nat} {n : Nat} (h : (a ++ b).all (· ≤ n) = true) : a.all (· ≤ n) = true ∧ b.all (· ≤ n) = true := by
  rw [List.all_append, Bool.and_eq_true] at h; exact h
theorem fits_kids {t : TypeId} (hu : P.underlying t = some (.slice 3)) (hb : P.bytesOf 3 = 8) {d : DataW H} {vs : List AV} (h : Fits (.slice (.int .i64)) d vs) (hw : (d.weights P t).all (· ≤ reachBytes) = true) :
    ∃ v l, vs = [v] ∧ IS v l ∧ l.length < 1000000000000000 := by
  rcases h with ⟨_, rfl⟩ | ⟨es, spare, css, rfl, _, ha, rfl⟩
  · exact ⟨.nils, [], rfl, is_nil, by decide⟩
  · obtain ⟨l, h1, h2⟩ := fits_ints ha
    refine ⟨_, l, rfl, ?_, ?_⟩
    · rw [h1, ← h2]; exact is_fs _ l
    · rw [DataW.weights, hu] at hw
      simp only [List.all_cons, Bool.and_eq_true, decide_eq_true_eq, hb] at hw
      have := hw.1
      have e : reachBytes = 140737488351232 := rfl
      omega
/-- the cells of one node, and its kids -/
def NdOk (c : List AV) (ks : List Int) : Prop := ∃ a b e f kv g, c = [a, b, e, f, kv, g] ∧ AV.noRefs c = true ∧ IS kv ks ∧ ks.length < 1000000000000000
def nodeSh : Sh := .agg [.int .i64, .str, .str, .int .i64, .slice (.int .i64), .int .i64]
theorem fits_node {t : TypeId} {fs : Array Field} (hu : P.underlying t = some (.struct fs)) {t0 t1 t2 t3 t4 t5 : TypeId} (hf : fs.toList.map (·.type) = [t0, t1, t2, t3, t4, t5]) (hk : P.underlying t4 = some (.slice 3)) (hb : P.bytesOf 3 = 8)
    {d : DataW H} {vs : List AV} (h : Fits nodeSh d vs) (hw : (d.weights P t).all (· ≤ reachBytes) = true) : ∃ ks, NdOk vs ks := by
  obtain ⟨ps, rfl, d1, l1, a1, b1, rfl, rfl, f1, d2, l2, a2, b2, rfl, rfl, f2, d3, l3, a3, b3, rfl, rfl, f3, d4, l4, a4, b4, rfl, rfl, f4, d5, l5, a5, b5, rfl, rfl, f5, d6, l6, a6, b6, rfl, rfl, f6, rfl, rfl⟩ := h
  obtain ⟨n1, _, _, rfl⟩ := f1
  obtain ⟨s2, _, _, rfl⟩ := f2
  obtain ⟨s3', _, _, rfl⟩ := f3
  obtain ⟨n4, _, _, rfl⟩ := f4
  obtain ⟨n6, _, _, rfl⟩ := f6
  rw [DataW.weights, hu] at hw
  simp only [hf, DataW.weightsEach] at hw
  have hw5 := (all_left (all_left (all_left (all_left (all_left hw).2).2).2).2).1
  obtain ⟨kv, ks, rfl, k1, k2⟩ := fits_kids hk hb f5 hw5
  refine ⟨ks, _, _, _, _, _, _, rfl, ?_, k1, k2⟩
  simp only [List.append_nil, List.cons_append, List.nil_append, noRefs_cons, noRefs_nil, k1.ok, noRef_int, noRef_str, Bool.and_self]
theorem fits_nodes {t : TypeId} {fs : Array Field} (hu : P.underlying t = some (.struct fs)) {t0 t1 t2 t3 t4 t5 : TypeId} (hf : fs.toList.map (·.type) = [t0, t1, t2, t3, t4, t5]) (hk : P.underlying t4 = some (.slice 3)) (hb : P.bytesOf 3 = 8) :
    ∀ {es : List (DataW H)} {css : List (List AV)}, All2 (Fits nodeSh) es css → (DataW.weightsAll P t es).all (· ≤ reachBytes) = true → ∃ L, All2 NdOk css L
  | _, _, .nil, _ => ⟨[], .nil⟩
  | _, _, .cons h hs, hw => by
    rw [DataW.weightsAll] at hw
    obtain ⟨w1, w2⟩ := all_left hw
    obtain ⟨ks, k⟩ := fits_node hu hf hk hb h w1
    obtain ⟨L, kl⟩ := fits_nodes hu hf hk hb hs w2
    exact ⟨ks :: L, .cons k kl⟩
end
theorem nd_at : ∀ {css : List (List AV)} {L : List (List Int)}, All2 NdOk css L → ∀ (i : Nat) (hi : i < L.length), ∃ kv, ldCells false 1 ((css.flatten.drop (i * 6)).drop 4) = some kv ∧ IS kv L[i]
  | _, _, .nil, i, hi => absurd hi (by simp)
  | _, _, .cons h hs, 0, hi => by
    obtain ⟨a, b, e, f, kv, g, rfl, _, k, _⟩ := h
    exact ⟨kv, rfl, k⟩
  | _, _, .cons h hs, i + 1, hi => by
    obtain ⟨a, b, e, f, kv, g, rfl, _, _, _⟩ := h
    obtain ⟨kv', h1, h2⟩ := nd_at hs i (by simpa using hi)
    refine ⟨kv', ?_, h2⟩
    rw [← h1, List.flatten_cons, show (i + 1) * 6 = i * 6 + 6 by omega]
    simp only [List.cons_append, List.nil_append, List.drop_succ_cons]
theorem nd_refs : ∀ {css : List (List AV)} {L : List (List Int)}, All2 NdOk css L → AV.noRefs css.flatten = true
  | _, _, .nil => rfl
  | _, _, .cons h hs => by
    obtain ⟨_, _, _, _, _, _, _, h1, _⟩ := h
    rw [List.flatten_cons, noRefs_app, h1, nd_refs hs]; rfl
theorem nd_kids : ∀ {css : List (List AV)} {L : List (List Int)}, All2 NdOk css L → ∀ ks, ks ∈ L → ks.length < 1000000000000000
  | _, _, .nil, _, h => absurd h (by simp)
  | _, _, .cons h hs, ks, hk => by
    rcases List.mem_cons.1 hk with rfl | hk
    · obtain ⟨_, _, _, _, _, _, _, _, _, h4⟩ := h; exact h4
    · exact nd_kids hs ks hk
theorem ns_of {css : List (List AV)} {L : List (List Int)} (b : Bool) (k : All2 NdOk css L) : NS (.fs b L.length css.flatten) L := by
  refine ⟨fun h => rfl, fun i hi => ?_, by rw [noRef_fs, nd_refs k]⟩
  obtain ⟨kv, h1, h2⟩ := nd_at k i hi
  refine ⟨css.flatten.drop (i * 6), kv, ?_, h1, h2⟩
  have hne : css.flatten ≠ [] := by
    cases k with
    | nil => simp at hi
    | cons h hs =>
      obtain ⟨_, _, _, _, _, _, rfl, _⟩ := h
      simp
  cases e : css.flatten with
  | nil => exact absurd e hne
  | cons a l =>
    simp only [aIdxAddr, aIndex_nat (kd := .i64) hi]
    rfl
theorem un22 : Tryz.prog.underlying 22 = some (.slice 53) := by kernel_rfl
theorem un23 : Tryz.prog.underlying 23 = some (.slice 3) := by kernel_rfl
theorem by3 : Tryz.prog.bytesOf 3 = 8 := by kernel_rfl
theorem by53 : Tryz.prog.bytesOf 53 = 80 := by kernel_rfl
theorem un53 : ∃ fs : Array Field, Tryz.prog.underlying 53 = some (.struct fs) ∧ fs.toList.map (·.type) = [51, 9, 9, 2, 23, 3] := by
  have h : (match Tryz.prog.underlying 53 with | some (.struct fs) => fs.toList.map (·.type) | _ => []) = [51, 9, 9, 2, 23, 3] := by kernel_rfl
  split at h
  · rename_i fs e; exact ⟨fs, e, h⟩
  · cases h
/-- the two arguments -/
theorem args_of {H : Type} {d0 d1 : DataW H} {c0 c1 : List AV} (f0 : Fits (.slice nodeSh) d0 c0) (f1 : Fits (.slice (.int .i64)) d1 c1) (hw : (DataW.weightsEach Tryz.prog [22, 23] [d0, d1]).all (· ≤ reachBytes) = true) :
    ∃ nv kv L ks, c0 = [nv] ∧ c1 = [kv] ∧ NS nv L ∧ IS kv ks ∧ L.length < 8000000000000 ∧ (∀ ks, ks ∈ L → ks.length < 1000000000000000) ∧ ks.length < 1000000000000000 := by
  simp only [DataW.weightsEach] at hw
  obtain ⟨w0, w1⟩ := all_left hw
  obtain ⟨kv, ks, rfl, k1, k2⟩ := fits_kids un23 by3 f1 (all_left w1).1
  obtain ⟨fs, hu, hf⟩ := un53
  rcases f0 with ⟨_, rfl⟩ | ⟨es, spare, css, rfl, _, ha, rfl⟩
  · exact ⟨.nils, kv, [], ks, rfl, rfl, ⟨fun h => rfl, fun i hi => absurd hi (by simp), rfl⟩, k1, by decide, fun _ h => absurd h (by simp), k2⟩
  · rw [DataW.weights, un22] at w0
    simp only [List.all_cons, Bool.and_eq_true, decide_eq_true_eq, by53] at w0
    obtain ⟨w2, w3⟩ := w0
    obtain ⟨L, kl⟩ := fits_nodes hu hf un23 by3 ha (all_left w3).1
    have hl : L.length = es.length := by rw [← kl.length, ← ha.length]
    refine ⟨_, kv, L, ks, rfl, rfl, by rw [← hl]; exact ns_of _ kl, k1, ?_, nd_kids kl, k2⟩
    have e : reachBytes = 140737488351232 := rfl
    omega
end Go.Pa
