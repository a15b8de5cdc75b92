/-
  Package frame: small laws that many walks ask.
-/
import Derived.Test.YtlggjdneolgkoaaDoorFdSame
import Derived.Test.YtlggjdneolgkoaaDoorFdAwake
set_option linter.unusedVariables false
set_option linter.unusedSimpArgs false
namespace Go.Fd
open Go.AM

theorem eq_nil : aEq (.iface true) .nili .nili = some true := rfl
theorem eq_fault (a c : Int) : aEq (.iface true) (faultV a c) .nili = some false := rfl

theorem Acc.bytes {h : Heap} {v : AV} {bs : List UInt8} (k : Acc h 1 v (bs.map byteAV)) : Bytes h v bs := by
  generalize hc : bs.map byteAV = cells at k
  cases k with
  | nils =>
    simp at hc; subst hc; exact .nils
  | full n _ hl =>
    subst hc
    have : n = bs.length := by simp at hl; omega
    subst this
    exact .fs true bs
  | sl id gen n _ hat hl =>
    subst hc
    have : n = bs.length := by simp at hl; omega
    subst this
    exact .sl id gen 0 none _ bs hat (by simp) (by simp [List.take_of_length_le]) (fun c e => by cases e)
theorem ex0 (a b : AV) : ([a, b] : List AV)[0]? = some a := rfl
theorem ex1 (a b : AV) : ([a, b] : List AV)[1]? = some b := rfl
theorem ex20 (a b c : AV) : ([a, b, c] : List AV)[0]? = some a := rfl
theorem ex21 (a b c : AV) : ([a, b, c] : List AV)[1]? = some b := rfl
theorem ex22 (a b c : AV) : ([a, b, c] : List AV)[2]? = some c := rfl
end Go.Fd
