/-
  A script of calls: what its reading gives.
-/
import Derived.Test.YtdolfkffgcmcgaaDoorStRowKit
import Derived.Test.YtdolfkffgcmcgaaDoorStOps
import Derived.Test.YtdolfkffgcmcgaaDoorAmFit
set_option linter.unusedVariables false
set_option linter.unusedSimpArgs false
namespace Go.St
open Go.AM Go.Proofs.YtdolfkffgcmcgaaDoor

theorem long_le {H : Type} {d : DataW H} {bs : List UInt8} (h : Long d bs) : bs.length ≤ Rows.uptoBulk d := by
  rcases h with rfl | ⟨elems, spare, rfl, h⟩
  · simp
  · have := kit.length_le elems
    simp only [Rows.uptoBulk]
    omega

theorem op_fit {H : Type} {d : DataW H} {vs : List AV} (h : Fits (.agg [.int .i64, .int .i64, .int .i64, .bool, .slice (.int .u8)]) d vs) : ∃ o : Op5, vs = o.cells ∧ (∀ h, Bytes h o.v o.b) ∧ o.b.length ≤ Rows.uptoBulk d := by
  obtain ⟨parts, rfl, g0⟩ := h
  obtain ⟨p0, ps0, a0, b0, rfl, rfl, f0, p1, ps1, a1, b1, rfl, rfl, f1, p2, ps2, a2, b2, rfl, rfl, f2, p3, ps3, a3, b3, rfl, rfl, f3, p4, ps4, a4, b4, rfl, rfl, f4, rfl, rfl⟩ := g0
  obtain ⟨k, rfl, _, rfl⟩ := f0
  obtain ⟨e, rfl, _, rfl⟩ := f1
  obtain ⟨n, rfl, _, rfl⟩ := f2
  obtain ⟨y, rfl, rfl⟩ := f3
  obtain ⟨bv, b, rfl, hbv, hlong⟩ := bytes_fit f4
  refine ⟨⟨k, e, n, y, bv, b⟩, rfl, hbv, ?_⟩
  have := long_le hlong
  simp only [Rows.uptoBulk, Rows.uptoBulkAll]
  omega

theorem ops_all {H : Type} : ∀ {elems : List (DataW H)} {css : List (List AV)}, All2 (Fits (.agg [.int .i64, .int .i64, .int .i64, .bool, .slice (.int .u8)])) elems css →
    ∃ l : List Op5, css.flatten = cellsOf l ∧ l.length = elems.length ∧ (∀ o ∈ l, ∀ h, Bytes h o.v o.b) ∧ room l ≤ Rows.uptoBulkAll elems
  | _, _, .nil => ⟨[], rfl, rfl, (fun o ho => by cases ho), by simp [room]⟩
  | _, _, .cons h hs => by
    obtain ⟨o, rfl, h1, h2⟩ := op_fit h
    obtain ⟨l, h3, h4, h5, h6⟩ := ops_all hs
    refine ⟨o :: l, by simp [cellsOf] at h3 ⊢; exact h3, by simp [h4], fun x hx => ?_, ?_⟩
    · rcases List.mem_cons.1 hx with rfl | hx
      · exact h1
      · exact h5 x hx
    · simp only [room, List.map_cons, List.sum_cons, Rows.uptoBulkAll] at h6 ⊢
      omega

theorem ops_fit {H : Type} {d : DataW H} {vs : List AV} (h : Fits (.slice (.agg [.int .i64, .int .i64, .int .i64, .bool, .slice (.int .u8)])) d vs) : ∃ v l, vs = [v] ∧ OpsV v l ∧ (∀ o ∈ l, ∀ h, Bytes h o.v o.b) ∧ room l ≤ Rows.uptoBulk d ∧ l.length ≤ Rows.uptoBulk d := by
  rcases h with ⟨rfl, rfl⟩ | ⟨elems, spare, css, rfl, _, hall, rfl⟩
  · exact ⟨_, [], rfl, .inl ⟨rfl, rfl⟩, (fun o ho => by cases ho), by simp [room], by simp⟩
  · obtain ⟨l, h1, h2, h3, h4⟩ := ops_all hall
    have := kit.length_le elems
    refine ⟨_, l, rfl, .inr ⟨spare.isEmpty, ?_⟩, h3, ?_, ?_⟩
    · rw [h1, h2]
    · simp only [Rows.uptoBulk]; omega
    · simp only [Rows.uptoBulk]; omega
end Go.St
