/-
  Package frame: the law's own look, that the package is awake: run by the kernel.
-/
import Derived.Test.YtlggjdneolgkoaaFrCode
import Derived.Test.YtlggjdneolgkoaaAmMono
import Derived.KernelRfl
set_option linter.unusedVariables false
namespace Go.Fr
open Go.AM

theorem awake_spec (h : Heap) : WC env 7 [] h (fun o => o = .ret ⟨.bool true, h, .none⟩) := wc_run (n := 30) (by kernel_rfl)
end Go.Fr
