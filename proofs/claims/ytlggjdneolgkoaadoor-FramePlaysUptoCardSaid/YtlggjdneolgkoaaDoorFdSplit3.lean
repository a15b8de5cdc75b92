/-
  Package frame: Split, the function; same.
-/
import Derived.Test.YtlggjdneolgkoaaDoorFdSplit2
set_option linter.unusedVariables false
set_option linter.unusedSimpArgs false
set_option maxRecDepth 20000
namespace Go.Fd
open Go.AM

theorem split_bad {w : Int} (h2 : w ≠ 2) (h4 : w ≠ 4) (v : AV) (h : Heap) : WC env 19 [.int .i64 w, v] h (fun o => o = .ret ⟨.tup [.nils, .int .i64 0, faultV 0 1], h, .write⟩) := by
  refine call_body rfl rfl (.inl rfl) ?_
  simp [a19, a19_0, a19_1, a19_2, Slots.ofList, get_put, aBin, aInt, wc_eq (greatest_spec _ _), wc_eq (fault_spec _ _ _), maxOf, h2, h4, retQ, Env.results, oneOrTup]

theorem split_spec {w : Nat} (hw : w = 2 ∨ w = 4) {v : AV} {bs : List UInt8} {h : Heap} (ho : HeapOk h) (hb : Bytes h v bs) (hsm : bs.length < 1000000000000) :
    WC env 19 [.int .i64 w, v] h (fun o => ∃ h', HeapOk h' ∧ h.le h' ∧
      (if (splitF w (bs.length + 1) bs 0 []).2.2 = true then o = .ret ⟨.tup [.nils, .int .i64 0, faultV (splitF w (bs.length + 1) bs 0 []).2.1 120], h', .write⟩
       else ∃ lv cells, Lists h' lv cells (splitF w (bs.length + 1) bs 0 []).1 h.next ∧ o = .ret ⟨.tup [lv, .int .i64 (splitF w (bs.length + 1) bs 0 []).2.1, .nili], h', .write⟩)) := by
  refine call_body rfl rfl (.inl rfl) ?_
  have hmax : maxOf w ≠ 0 := by rcases hw with rfl | rfl <;> simp [maxOf]
  simp [a19, a19_0, a19_1, a19_2, a19_3, a19_4, Slots.ofList, get_put, aBin, aInt, wc_eq (greatest_spec _ _), wc_eq (fault_spec _ _ _), hmax]
  refine split_loop hw ho hb hsm (bs.length + 1) 0 [] [] .nils h _ (by omega) (by omega) (by simp) ho (Heap.le_refl h) ⟨.nils, .nil, (fun id e => by cases e), (fun x hx => by cases hx)⟩ (by simp [get_put]) (by simp [get_put]) (by simp [get_put]) (by simp [get_put]) ?_ ?_
  · intro σ' h' lv' cells' ho' hl' hr hL g7 g8
    simp only [List.drop_zero] at hr hL g8
    simp [a19_13, get_put, g7, g8, retQ, Env.results, oneOrTup, hr]
    exact ⟨h', ho', hl', lv', ⟨cells', hL⟩, rfl, rfl⟩
  · intro σ' h' ho' hl' hr g4 g5 g6
    simp only [List.drop_zero] at hr g6
    simp [get_put, g4, g5, g6, retQ, Env.results, oneOrTup, hr]
    exact ⟨ho', hl'⟩
end Go.Fd
