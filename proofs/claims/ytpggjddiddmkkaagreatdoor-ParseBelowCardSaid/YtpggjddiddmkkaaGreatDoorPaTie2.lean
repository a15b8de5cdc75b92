/-
  The machine's code is what the translation gives (2).
-/
import Derived.Test.YtpggjddiddmkkaaGreatDoorPaFunc
import Derived.Test.YtpggjddiddmkkaaGreatDoorAmTr
import Derived.Test.YtpggjddiddmkkaaGreatDoorChecked
import Derived.Test.YtpggjddiddmkkaaGreatDoorRows
import Derived.KernelRfl
set_option linter.unusedVariables false
namespace Go.Pa
open Go.AM Go.Proofs Go.Proofs.YtpggjddiddmkkaaGreatDoor
def fz : TypeId → Bool := fun t => t == 82
def thaw : Nat → Bool := fun _ => false
theorem tie3 : trFunc Tryz.prog fz thaw Tryz.f3 = some a3 := by kernel_rfl
theorem tie10 : trFunc Tryz.prog fz thaw Tryz.f10 = some a10 := by kernel_rfl
theorem tie11 : trFunc Tryz.prog fz thaw Tryz.f11 = some a11 := by kernel_rfl
theorem tie12 : trFunc Tryz.prog fz thaw Tryz.f12 = some a12 := by kernel_rfl
theorem tie14 : trDFunc Tryz.prog fz thaw Tryz.f14 = some d14 := by kernel_rfl
theorem tie20 : trFunc Tryz.prog fz thaw Tryz.f20 = some a20 := by kernel_rfl
theorem tie27 : trFunc Tryz.prog fz thaw Tryz.f27 = some a27 := by kernel_rfl
theorem tie32 : trRFunc Tryz.prog fz thaw Tryz.f32 = some r32 := by kernel_rfl
theorem tie33 : trFunc Tryz.prog fz thaw Tryz.f33 = some a33 := by kernel_rfl
theorem tie34 : trFunc Tryz.prog fz thaw Tryz.f34 = some a34 := by kernel_rfl
theorem tie35 : trFunc Tryz.prog fz thaw Tryz.f35 = some a35 := by kernel_rfl
theorem tie36 : trFunc Tryz.prog fz thaw Tryz.f36 = some a36 := by kernel_rfl
theorem tie39 : trFunc Tryz.prog fz thaw Tryz.f39 = some a39 := by kernel_rfl
theorem tie64 : trFunc Tryz.prog fz thaw Tryz.f64 = some a64 := by kernel_rfl
theorem tie65 : trFunc Tryz.prog fz thaw Tryz.f65 = some a65 := by kernel_rfl
theorem tie67 : trFunc Tryz.prog fz thaw Tryz.f67 = some a67 := by kernel_rfl
theorem tie68 : trFunc Tryz.prog fz thaw Tryz.f68 = some a68 := by kernel_rfl
theorem tie70 : trFunc Tryz.prog fz thaw Tryz.f70 = some a70 := by kernel_rfl
theorem tie71 : trFunc Tryz.prog fz thaw Tryz.f71 = some a71 := by kernel_rfl
theorem tie77 : trFunc Tryz.prog fz thaw Tryz.f77 = some a77 := by kernel_rfl
theorem tie78 : trFunc Tryz.prog fz thaw Tryz.f78 = some a78 := by kernel_rfl
theorem tie79 : trFunc Tryz.prog fz thaw Tryz.f79 = some a79 := by kernel_rfl
theorem tie113 : trFunc Tryz.prog fz thaw Tryz.f113 = some a113 := by kernel_rfl
theorem tie114 : trFunc Tryz.prog fz thaw Tryz.f114 = some a114 := by kernel_rfl
theorem tie118 : trFunc Tryz.prog fz thaw Tryz.f118 = some a118 := by kernel_rfl
theorem tie119 : trFunc Tryz.prog fz thaw Tryz.f119 = some a119 := by kernel_rfl
theorem tie121 : trFunc Tryz.prog fz thaw Tryz.f121 = some a121 := by kernel_rfl
theorem tie122 : trFunc Tryz.prog fz thaw Tryz.f122 = some a122 := by kernel_rfl
theorem tie123 : trFunc Tryz.prog fz thaw Tryz.f123 = some a123 := by kernel_rfl
theorem tie124 : trFunc Tryz.prog fz thaw Tryz.f124 = some a124 := by kernel_rfl
end Go.Pa

set_option linter.unusedVariables false
namespace Go.Pa
open Go.AM Go.Proofs Go.Proofs.YtpggjddiddmkkaaGreatDoor
theorem tie125 : trFunc Tryz.prog fz thaw Tryz.f125 = some a125 := by kernel_rfl
theorem tie126 : trFunc Tryz.prog fz thaw Tryz.f126 = some a126 := by kernel_rfl
theorem tie128 : trFunc Tryz.prog fz thaw Tryz.f128 = some a128 := by kernel_rfl
theorem tie129 : trFunc Tryz.prog fz thaw Tryz.f129 = some a129 := by kernel_rfl
theorem tie134 : trFunc Tryz.prog fz thaw Tryz.f134 = some a134 := by kernel_rfl
theorem tie145 : trFunc Tryz.prog fz thaw Tryz.f145 = some a145 := by kernel_rfl
theorem tie146 : trFunc Tryz.prog fz thaw Tryz.f146 = some a146 := by kernel_rfl
theorem tie147 : trFunc Tryz.prog fz thaw Tryz.f147 = some a147 := by kernel_rfl
theorem tie148 : trFunc Tryz.prog fz thaw Tryz.f148 = some a148 := by kernel_rfl
theorem tie149 : trFunc Tryz.prog fz thaw Tryz.f149 = some a149 := by kernel_rfl
theorem tie152 : trFunc Tryz.prog fz thaw Tryz.f152 = some a152 := by kernel_rfl
theorem tie154 : trFunc Tryz.prog fz thaw Tryz.f154 = some a154 := by kernel_rfl
theorem tie164 : trFunc Tryz.prog fz thaw Tryz.f164 = some a164 := by kernel_rfl
theorem tie166 : trFunc Tryz.prog fz thaw Tryz.f166 = some a166 := by kernel_rfl
theorem tie167 : trFunc Tryz.prog fz thaw Tryz.f167 = some a167 := by kernel_rfl
theorem tie169 : trFunc Tryz.prog fz thaw Tryz.f169 = some a169 := by kernel_rfl
theorem tie170 : trFunc Tryz.prog fz thaw Tryz.f170 = some a170 := by kernel_rfl
theorem tie171 : trFunc Tryz.prog fz thaw Tryz.f171 = some a171 := by kernel_rfl
theorem tie174 : trFunc Tryz.prog fz thaw Tryz.f174 = some a174 := by kernel_rfl
theorem tie182 : trFunc Tryz.prog fz thaw Tryz.f182 = some a182 := by kernel_rfl
theorem tie184 : trFunc Tryz.prog fz thaw Tryz.f184 = some a184 := by kernel_rfl
theorem tie190 : trFunc Tryz.prog fz thaw Tryz.f190 = some a190 := by kernel_rfl
theorem tie195 : trFunc Tryz.prog fz thaw Tryz.f195 = some a195 := by kernel_rfl
theorem tie209 : trFunc Tryz.prog fz thaw Tryz.f209 = some a209 := by kernel_rfl
theorem tie216 : trFunc Tryz.prog fz thaw Tryz.f216 = some a216 := by kernel_rfl
theorem tie220 : trFunc Tryz.prog fz thaw Tryz.f220 = some a220 := by kernel_rfl
theorem tie221 : trFunc Tryz.prog fz thaw Tryz.f221 = some a221 := by kernel_rfl
theorem tie228 : trFunc Tryz.prog fz thaw Tryz.f228 = some a228 := by kernel_rfl
theorem tie235 : trFunc Tryz.prog fz thaw Tryz.f235 = some a235 := by kernel_rfl
theorem tie239 : trFunc Tryz.prog fz thaw Tryz.f239 = some a239 := by kernel_rfl
theorem tie241 : trFunc Tryz.prog fz thaw Tryz.f241 = some a241 := by kernel_rfl
theorem func_tied (f : Nat) (x : AFunc) (h : func f = some x) : ∃ fn fz thaw, Tryz.prog.funcs[f]? = some fn ∧ trFunc Tryz.prog fz thaw fn = some x := by
  unfold func at h
  split at h
  · cases h; exact ⟨_, fz, thaw, Tryz.func3, tie3⟩
  · cases h; exact ⟨_, fz, thaw, Tryz.func10, tie10⟩
  · cases h; exact ⟨_, fz, thaw, Tryz.func11, tie11⟩
  · cases h; exact ⟨_, fz, thaw, Tryz.func12, tie12⟩
  · cases h; exact ⟨_, fz, thaw, Tryz.func20, tie20⟩
  · cases h; exact ⟨_, fz, thaw, Tryz.func27, tie27⟩
  · cases h; exact ⟨_, fz, thaw, Tryz.func33, tie33⟩
  · cases h; exact ⟨_, fz, thaw, Tryz.func34, tie34⟩
  · cases h; exact ⟨_, fz, thaw, Tryz.func35, tie35⟩
  · cases h; exact ⟨_, fz, thaw, Tryz.func36, tie36⟩
  · cases h; exact ⟨_, fz, thaw, Tryz.func39, tie39⟩
  · cases h; exact ⟨_, fz, thaw, Tryz.func64, tie64⟩
  · cases h; exact ⟨_, fz, thaw, Tryz.func65, tie65⟩
  · cases h; exact ⟨_, fz, thaw, Tryz.func67, tie67⟩
  · cases h; exact ⟨_, fz, thaw, Tryz.func68, tie68⟩
  · cases h; exact ⟨_, fz, thaw, Tryz.func70, tie70⟩
  · cases h; exact ⟨_, fz, thaw, Tryz.func71, tie71⟩
  · cases h; exact ⟨_, fz, thaw, Tryz.func77, tie77⟩
  · cases h; exact ⟨_, fz, thaw, Tryz.func78, tie78⟩
  · cases h; exact ⟨_, fz, thaw, Tryz.func79, tie79⟩
  · cases h; exact ⟨_, fz, thaw, Tryz.func113, tie113⟩
  · cases h; exact ⟨_, fz, thaw, Tryz.func114, tie114⟩
  · cases h; exact ⟨_, fz, thaw, Tryz.func118, tie118⟩
  · cases h; exact ⟨_, fz, thaw, Tryz.func119, tie119⟩
  · cases h; exact ⟨_, fz, thaw, Tryz.func121, tie121⟩
  · cases h; exact ⟨_, fz, thaw, Tryz.func122, tie122⟩
  · cases h; exact ⟨_, fz, thaw, Tryz.func123, tie123⟩
  · cases h; exact ⟨_, fz, thaw, Tryz.func124, tie124⟩
  · cases h; exact ⟨_, fz, thaw, Tryz.func125, tie125⟩
  · cases h; exact ⟨_, fz, thaw, Tryz.func126, tie126⟩
  · cases h; exact ⟨_, fz, thaw, Tryz.func128, tie128⟩
  · cases h; exact ⟨_, fz, thaw, Tryz.func129, tie129⟩
  · cases h; exact ⟨_, fz, thaw, Tryz.func134, tie134⟩
  · cases h; exact ⟨_, fz, thaw, Tryz.func145, tie145⟩
  · cases h; exact ⟨_, fz, thaw, Tryz.func146, tie146⟩
  · cases h; exact ⟨_, fz, thaw, Tryz.func147, tie147⟩
  · cases h; exact ⟨_, fz, thaw, Tryz.func148, tie148⟩
  · cases h; exact ⟨_, fz, thaw, Tryz.func149, tie149⟩
  · cases h; exact ⟨_, fz, thaw, Tryz.func152, tie152⟩
  · cases h; exact ⟨_, fz, thaw, Tryz.func154, tie154⟩
  · cases h; exact ⟨_, fz, thaw, Tryz.func164, tie164⟩
  · cases h; exact ⟨_, fz, thaw, Tryz.func166, tie166⟩
  · cases h; exact ⟨_, fz, thaw, Tryz.func167, tie167⟩
  · cases h; exact ⟨_, fz, thaw, Tryz.func169, tie169⟩
  · cases h; exact ⟨_, fz, thaw, Tryz.func170, tie170⟩
  · cases h; exact ⟨_, fz, thaw, Tryz.func171, tie171⟩
  · cases h; exact ⟨_, fz, thaw, Tryz.func174, tie174⟩
  · cases h; exact ⟨_, fz, thaw, Tryz.func182, tie182⟩
  · cases h; exact ⟨_, fz, thaw, Tryz.func184, tie184⟩
  · cases h; exact ⟨_, fz, thaw, Tryz.func190, tie190⟩
  · cases h; exact ⟨_, fz, thaw, Tryz.func195, tie195⟩
  · cases h; exact ⟨_, fz, thaw, Tryz.func209, tie209⟩
  · cases h; exact ⟨_, fz, thaw, Tryz.func216, tie216⟩
  · cases h; exact ⟨_, fz, thaw, Tryz.func220, tie220⟩
  · cases h; exact ⟨_, fz, thaw, Tryz.func221, tie221⟩
  · cases h; exact ⟨_, fz, thaw, Tryz.func228, tie228⟩
  · cases h; exact ⟨_, fz, thaw, Tryz.func235, tie235⟩
  · cases h; exact ⟨_, fz, thaw, Tryz.func239, tie239⟩
  · cases h; exact ⟨_, fz, thaw, Tryz.func241, tie241⟩
  · cases h
theorem dfunc_tied (f : Nat) (x : DFunc) (h : dfunc f = some x) : ∃ fn fz thaw, Tryz.prog.funcs[f]? = some fn ∧ trDFunc Tryz.prog fz thaw fn = some x := by
  unfold dfunc at h
  split at h
  · cases h; exact ⟨_, fz, thaw, Tryz.func14, tie14⟩
  · cases h
theorem rfunc_tied (f : Nat) (x : RFunc) (h : rfunc f = some x) : ∃ fn fz thaw, Tryz.prog.funcs[f]? = some fn ∧ trRFunc Tryz.prog fz thaw fn = some x := by
  unfold rfunc at h
  split at h
  · cases h; exact ⟨_, fz, thaw, Tryz.func32, tie32⟩
  · cases h
end Go.Pa
