/-
  The statements of package bif: the machine's code is what the translation gives (1).
-/
import Derived.Test.YtaielgjmhbjfhaaGreatDoorBfEnv
import Derived.Test.YtaielgjmhbjfhaaGreatDoorAmTr
import Derived.Test.YtaielgjmhbjfhaaGreatDoorChecked
import Derived.Test.YtaielgjmhbjfhaaGreatDoorRows
import Derived.KernelRfl
set_option linter.unusedVariables false
namespace Go.Bf
open Go.AM Go.Proofs Go.Proofs.YtaielgjmhbjfhaaGreatDoor
def fz : TypeId → Bool := fun t => t == 73
def thaw : Nat → Bool := fun _ => false
theorem tie10 : trFunc Tryz.prog fz thaw Tryz.f10 = some a10 := by kernel_rfl
theorem tie11 : trFunc Tryz.prog fz thaw Tryz.f11 = some a11 := by kernel_rfl
theorem tie12 : trFunc Tryz.prog fz thaw Tryz.f12 = some a12 := by kernel_rfl
theorem tie13 : trFunc Tryz.prog fz thaw Tryz.f13 = some a13 := by kernel_rfl
theorem tie14 : trFunc Tryz.prog fz thaw Tryz.f14 = some a14 := by kernel_rfl
theorem tie15 : trFunc Tryz.prog fz thaw Tryz.f15 = some a15 := by kernel_rfl
theorem tie16 : trFunc Tryz.prog fz thaw Tryz.f16 = some a16 := by kernel_rfl
theorem tie17 : trFunc Tryz.prog fz thaw Tryz.f17 = some a17 := by kernel_rfl
theorem tie18 : trFunc Tryz.prog fz thaw Tryz.f18 = some a18 := by kernel_rfl
theorem tie19 : trFunc Tryz.prog fz thaw Tryz.f19 = some a19 := by kernel_rfl
theorem tie21 : trFunc Tryz.prog fz thaw Tryz.f21 = some a21 := by kernel_rfl
theorem tie22 : trFunc Tryz.prog fz thaw Tryz.f22 = some a22 := by kernel_rfl
theorem tie25 : trFunc Tryz.prog fz thaw Tryz.f25 = some a25 := by kernel_rfl
theorem tie26 : trFunc Tryz.prog fz thaw Tryz.f26 = some a26 := by kernel_rfl
theorem tie27 : trFunc Tryz.prog fz thaw Tryz.f27 = some a27 := by kernel_rfl
theorem tie29 : trFunc Tryz.prog fz thaw Tryz.f29 = some a29 := by kernel_rfl
theorem tie30 : trFunc Tryz.prog fz thaw Tryz.f30 = some a30 := by kernel_rfl
theorem tie31 : trFunc Tryz.prog fz thaw Tryz.f31 = some a31 := by kernel_rfl
theorem tie32 : trFunc Tryz.prog fz thaw Tryz.f32 = some a32 := by kernel_rfl
theorem tie33 : trFunc Tryz.prog fz thaw Tryz.f33 = some a33 := by kernel_rfl
theorem tie34 : trFunc Tryz.prog fz thaw Tryz.f34 = some a34 := by kernel_rfl
theorem tie35 : trFunc Tryz.prog fz thaw Tryz.f35 = some a35 := by kernel_rfl
theorem tie36 : trFunc Tryz.prog fz thaw Tryz.f36 = some a36 := by kernel_rfl
theorem tie38 : trFunc Tryz.prog fz thaw Tryz.f38 = some a38 := by kernel_rfl
theorem tie39 : trFunc Tryz.prog fz thaw Tryz.f39 = some a39 := by kernel_rfl
theorem tie41 : trFunc Tryz.prog fz thaw Tryz.f41 = some a41 := by kernel_rfl
theorem tie42 : trFunc Tryz.prog fz thaw Tryz.f42 = some a42 := by kernel_rfl
theorem tie43 : trFunc Tryz.prog fz thaw Tryz.f43 = some a43 := by kernel_rfl
theorem tie44 : trFunc Tryz.prog fz thaw Tryz.f44 = some a44 := by kernel_rfl
theorem tie45 : trFunc Tryz.prog fz thaw Tryz.f45 = some a45 := by kernel_rfl
theorem tie47 : trFunc Tryz.prog fz thaw Tryz.f47 = some a47 := by kernel_rfl
theorem tie48 : trFunc Tryz.prog fz thaw Tryz.f48 = some a48 := by kernel_rfl
theorem tie49 : trFunc Tryz.prog fz thaw Tryz.f49 = some a49 := by kernel_rfl
theorem tie50 : trFunc Tryz.prog fz thaw Tryz.f50 = some a50 := by kernel_rfl
theorem tie51 : trFunc Tryz.prog fz thaw Tryz.f51 = some a51 := by kernel_rfl
theorem tie52 : trFunc Tryz.prog fz thaw Tryz.f52 = some a52 := by kernel_rfl
theorem tie53 : trFunc Tryz.prog fz thaw Tryz.f53 = some a53 := by kernel_rfl
theorem tie54 : trFunc Tryz.prog fz thaw Tryz.f54 = some a54 := by kernel_rfl
theorem tie59 : trFunc Tryz.prog fz thaw Tryz.f59 = some a59 := by kernel_rfl
theorem tie60 : trFunc Tryz.prog fz thaw Tryz.f60 = some a60 := by kernel_rfl
theorem tie66 : trFunc Tryz.prog fz thaw Tryz.f66 = some a66 := by kernel_rfl
theorem tie68 : trFunc Tryz.prog fz thaw Tryz.f68 = some a68 := by kernel_rfl
theorem tie69 : trFunc Tryz.prog fz thaw Tryz.f69 = some a69 := by kernel_rfl
theorem tie73 : trFunc Tryz.prog fz thaw Tryz.f73 = some a73 := by kernel_rfl
end Go.Bf
