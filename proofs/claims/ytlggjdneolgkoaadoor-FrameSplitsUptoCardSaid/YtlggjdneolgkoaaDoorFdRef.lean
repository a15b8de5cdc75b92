/-
  Package heddleref06: the reference's small functions.
-/
import Derived.Test.YtlggjdneolgkoaaDoorFdSame
set_option linter.unusedVariables false
set_option linter.unusedSimpArgs false
set_option maxRecDepth 20000
namespace Go.Fd
open Go.AM

def rmaxOf (w : Int) : Int := if w = 2 then 1024 else if w = 4 then 131072 else -1

theorem rgreatest_spec (w : Int) (h : Heap) : WC env 24 [.int .i64 w] h (fun o => o = .ret ⟨.int .i64 (rmaxOf w), h, .none⟩) := by
  refine call_pure rfl rfl rfl rfl ?_
  by_cases h2 : w = 2
  · simp [a24, a24_0, a24_1, a24_2, a24_3, a24_4, a24_5, a24_6, Slots.ofList, get_put, aBin, aInt, pureQ, Env.results, oneOrTup, rmaxOf, h2, frz_noRef]
  · by_cases h4 : w = 4
    · simp [a24, a24_0, a24_1, a24_2, a24_3, a24_4, a24_5, a24_6, Slots.ofList, get_put, aBin, aInt, pureQ, Env.results, oneOrTup, rmaxOf, h2, h4, frz_noRef]
    · simp [a24, a24_0, a24_1, a24_2, a24_3, a24_4, a24_5, a24_6, Slots.ofList, get_put, aBin, aInt, pureQ, Env.results, oneOrTup, rmaxOf, h2, h4, frz_noRef]

/-- one link of the reference -/
def linkV (layer : List UInt8) (a c : Int) : AV := .fs true 1 [.str layer, .int .i64 a, .int .i64 c]

theorem one_spec (l : List UInt8) (a c : Int) (h : Heap) : WC env 31 [.str l, .int .i64 a, .int .i64 c] h (fun o => o = .ret ⟨linkV l a c, h, .none⟩) := by
  refine call_pure rfl rfl rfl rfl ?_
  simp [a31, a31_0, a31_1, Slots.ofList, get_put, aFill, splice, pureQ, Env.results, oneOrTup, linkV, frz_noRef]

theorem no_spec (a c : Int) (h : Heap) : WC env 25 [.int .i64 a, .int .i64 c] h (fun o => o = .ret ⟨linkV [102, 114, 97, 109, 101] a c, h, .none⟩) := by
  refine call_pure rfl rfl rfl rfl ?_
  simp [a25, a25_0, a25_1, Slots.ofList, get_put, wc_eq (one_spec _ _ _ _), pureQ, Env.results, oneOrTup, linkV, frz_noRef]
end Go.Fd
