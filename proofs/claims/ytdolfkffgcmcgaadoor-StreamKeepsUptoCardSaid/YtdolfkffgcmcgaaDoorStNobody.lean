/-
  Package stream: the law's own look, and StreamNobody: run by the kernel.
-/
import Derived.Test.YtdolfkffgcmcgaaDoorStCode
import Derived.Test.YtdolfkffgcmcgaaDoorAmMono
import Derived.KernelRfl
set_option linter.unusedVariables false
namespace Go.St
open Go.AM

theorem alive_spec (h : Heap) : WC env 11 [] h (fun o => o = .ret ⟨.bool true, h, .none⟩) := wc_run (n := 40) (by kernel_rfl)

/-- did it answer true? -/
def saidTrue : Option COut → Bool
  | some (.ret ⟨.bool true, _, _⟩) => true
  | _ => false
theorem of_saidTrue {o : Option COut} (h : saidTrue o = true) : ∃ h' c, o = some (.ret ⟨.bool true, h', c⟩) := by
  unfold saidTrue at h
  split at h
  · exact ⟨_, _, rfl⟩
  · cases h

theorem nobody_run (k e n : Int) (y : Bool) (bv : AV) : ∃ h' c, env.call 25 9 [.agg [.int .i64 k, .int .i64 e, .int .i64 n, .bool y, bv]] .empty = some (.ret ⟨.bool true, h', c⟩) := by
  refine of_saidTrue ?_
  kernel_rfl
end Go.St
