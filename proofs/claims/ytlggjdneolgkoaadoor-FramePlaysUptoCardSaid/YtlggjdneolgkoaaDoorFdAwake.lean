/-
  Package frame: the law's own look, that the package is awake: run by the kernel.
-/
import Derived.Test.YtlggjdneolgkoaaDoorFdCode
import Derived.Test.YtlggjdneolgkoaaDoorAmMono
import Derived.KernelRfl
set_option linter.unusedVariables false
namespace Go.Fd
open Go.AM

theorem awake_spec (h : Heap) : WC env 9 [] h (fun o => o = .ret ⟨.bool true, h, .none⟩) := wc_run (n := 30) (by kernel_rfl)
end Go.Fd
