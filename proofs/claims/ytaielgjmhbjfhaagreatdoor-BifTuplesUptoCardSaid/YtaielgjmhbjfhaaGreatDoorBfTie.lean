/-
  The statements of package bif: the machine's code is what the translation gives (2).
-/
import Derived.Test.YtaielgjmhbjfhaaGreatDoorBfTie1
import Derived.Test.YtaielgjmhbjfhaaGreatDoorBfPrim
import Derived.Test.YtaielgjmhbjfhaaGreatDoorAmTr
import Derived.Test.YtaielgjmhbjfhaaGreatDoorChecked
import Derived.Test.YtaielgjmhbjfhaaGreatDoorRows
import Derived.KernelRfl
set_option linter.unusedVariables false
namespace Go.Bf
open Go.AM Go.Proofs Go.Proofs.YtaielgjmhbjfhaaGreatDoor
theorem tie78 : trFunc Tryz.prog fz thaw Tryz.f78 = some a78 := by kernel_rfl
theorem tie83 : trFunc Tryz.prog fz thaw Tryz.f83 = some a83 := by kernel_rfl
theorem tie84 : trFunc Tryz.prog fz thaw Tryz.f84 = some a84 := by kernel_rfl
theorem tie85 : trFunc Tryz.prog fz thaw Tryz.f85 = some a85 := by kernel_rfl
theorem tie86 : trFunc Tryz.prog fz thaw Tryz.f86 = some a86 := by kernel_rfl
theorem tie87 : trFunc Tryz.prog fz thaw Tryz.f87 = some a87 := by kernel_rfl
theorem tie90 : trFunc Tryz.prog fz thaw Tryz.f90 = some a90 := by kernel_rfl
theorem tie97 : trFunc Tryz.prog fz thaw Tryz.f97 = some a97 := by kernel_rfl
theorem tie102 : trFunc Tryz.prog fz thaw Tryz.f102 = some a102 := by kernel_rfl
theorem tie103 : trFunc Tryz.prog fz thaw Tryz.f103 = some a103 := by kernel_rfl
theorem tie104 : trFunc Tryz.prog fz thaw Tryz.f104 = some a104 := by kernel_rfl
theorem tie108 : trFunc Tryz.prog fz thaw Tryz.f108 = some a108 := by kernel_rfl
theorem tie109 : trFunc Tryz.prog fz thaw Tryz.f109 = some a109 := by kernel_rfl
theorem tie110 : trFunc Tryz.prog fz thaw Tryz.f110 = some a110 := by kernel_rfl
theorem tie111 : trFunc Tryz.prog fz thaw Tryz.f111 = some a111 := by kernel_rfl
theorem tie116 : trFunc Tryz.prog fz thaw Tryz.f116 = some a116 := by kernel_rfl
theorem tie117 : trFunc Tryz.prog fz thaw Tryz.f117 = some a117 := by kernel_rfl
theorem tie119 : trFunc Tryz.prog fz thaw Tryz.f119 = some a119 := by kernel_rfl
theorem tie120 : trFunc Tryz.prog fz thaw Tryz.f120 = some a120 := by kernel_rfl
theorem tie121 : trFunc Tryz.prog fz thaw Tryz.f121 = some a121 := by kernel_rfl
theorem tie122 : trFunc Tryz.prog fz thaw Tryz.f122 = some a122 := by kernel_rfl
theorem tie125 : trFunc Tryz.prog fz thaw Tryz.f125 = some a125 := by kernel_rfl
theorem tie129 : trFunc Tryz.prog fz thaw Tryz.f129 = some a129 := by kernel_rfl
theorem tie130 : trFunc Tryz.prog fz thaw Tryz.f130 = some a130 := by kernel_rfl
theorem tie131 : trFunc Tryz.prog fz thaw Tryz.f131 = some a131 := by kernel_rfl
theorem tie139 : trFunc Tryz.prog fz thaw Tryz.f139 = some a139 := by kernel_rfl
theorem tie140 : trFunc Tryz.prog fz thaw Tryz.f140 = some a140 := by kernel_rfl
theorem tie141 : trFunc Tryz.prog fz thaw Tryz.f141 = some a141 := by kernel_rfl
theorem tie142 : trFunc Tryz.prog fz thaw Tryz.f142 = some a142 := by kernel_rfl
theorem tie143 : trFunc Tryz.prog fz thaw Tryz.f143 = some a143 := by kernel_rfl
theorem tie148 : trFunc Tryz.prog fz thaw Tryz.f148 = some a148 := by kernel_rfl
theorem tie150 : trFunc Tryz.prog fz thaw Tryz.f150 = some a150 := by kernel_rfl
theorem tie151 : trFunc Tryz.prog fz thaw Tryz.f151 = some a151 := by kernel_rfl
theorem tie152 : trFunc Tryz.prog fz thaw Tryz.f152 = some a152 := by kernel_rfl
theorem tie153 : trFunc Tryz.prog fz thaw Tryz.f153 = some a153 := by kernel_rfl
theorem tie159 : trFunc Tryz.prog fz thaw Tryz.f159 = some a159 := by kernel_rfl
theorem tie160 : trFunc Tryz.prog fz thaw Tryz.f160 = some a160 := by kernel_rfl
theorem tie161 : trFunc Tryz.prog fz thaw Tryz.f161 = some a161 := by kernel_rfl
theorem tie162 : trFunc Tryz.prog fz thaw Tryz.f162 = some a162 := by kernel_rfl
theorem env_ok : EnvOk Tryz.prog env where
  func f af h := by
    have h' : func f = some af := h
    unfold func at h'
    split at h'
    · cases h'; exact ⟨_, fz, thaw, Tryz.func10, tie10⟩
    · cases h'; exact ⟨_, fz, thaw, Tryz.func11, tie11⟩
    · cases h'; exact ⟨_, fz, thaw, Tryz.func12, tie12⟩
    · cases h'; exact ⟨_, fz, thaw, Tryz.func13, tie13⟩
    · cases h'; exact ⟨_, fz, thaw, Tryz.func14, tie14⟩
    · cases h'; exact ⟨_, fz, thaw, Tryz.func15, tie15⟩
    · cases h'; exact ⟨_, fz, thaw, Tryz.func16, tie16⟩
    · cases h'; exact ⟨_, fz, thaw, Tryz.func17, tie17⟩
    · cases h'; exact ⟨_, fz, thaw, Tryz.func18, tie18⟩
    · cases h'; exact ⟨_, fz, thaw, Tryz.func19, tie19⟩
    · cases h'; exact ⟨_, fz, thaw, Tryz.func21, tie21⟩
    · cases h'; exact ⟨_, fz, thaw, Tryz.func22, tie22⟩
    · cases h'; exact ⟨_, fz, thaw, Tryz.func25, tie25⟩
    · cases h'; exact ⟨_, fz, thaw, Tryz.func26, tie26⟩
    · cases h'; exact ⟨_, fz, thaw, Tryz.func27, tie27⟩
    · cases h'; exact ⟨_, fz, thaw, Tryz.func29, tie29⟩
    · cases h'; exact ⟨_, fz, thaw, Tryz.func30, tie30⟩
    · cases h'; exact ⟨_, fz, thaw, Tryz.func31, tie31⟩
    · cases h'; exact ⟨_, fz, thaw, Tryz.func32, tie32⟩
    · cases h'; exact ⟨_, fz, thaw, Tryz.func33, tie33⟩
    · cases h'; exact ⟨_, fz, thaw, Tryz.func34, tie34⟩
    · cases h'; exact ⟨_, fz, thaw, Tryz.func35, tie35⟩
    · cases h'; exact ⟨_, fz, thaw, Tryz.func36, tie36⟩
    · cases h'; exact ⟨_, fz, thaw, Tryz.func38, tie38⟩
    · cases h'; exact ⟨_, fz, thaw, Tryz.func39, tie39⟩
    · cases h'; exact ⟨_, fz, thaw, Tryz.func41, tie41⟩
    · cases h'; exact ⟨_, fz, thaw, Tryz.func42, tie42⟩
    · cases h'; exact ⟨_, fz, thaw, Tryz.func43, tie43⟩
    · cases h'; exact ⟨_, fz, thaw, Tryz.func44, tie44⟩
    · cases h'; exact ⟨_, fz, thaw, Tryz.func45, tie45⟩
    · cases h'; exact ⟨_, fz, thaw, Tryz.func47, tie47⟩
    · cases h'; exact ⟨_, fz, thaw, Tryz.func48, tie48⟩
    · cases h'; exact ⟨_, fz, thaw, Tryz.func49, tie49⟩
    · cases h'; exact ⟨_, fz, thaw, Tryz.func50, tie50⟩
    · cases h'; exact ⟨_, fz, thaw, Tryz.func51, tie51⟩
    · cases h'; exact ⟨_, fz, thaw, Tryz.func52, tie52⟩
    · cases h'; exact ⟨_, fz, thaw, Tryz.func53, tie53⟩
    · cases h'; exact ⟨_, fz, thaw, Tryz.func54, tie54⟩
    · cases h'; exact ⟨_, fz, thaw, Tryz.func59, tie59⟩
    · cases h'; exact ⟨_, fz, thaw, Tryz.func60, tie60⟩
    · cases h'; exact ⟨_, fz, thaw, Tryz.func66, tie66⟩
    · cases h'; exact ⟨_, fz, thaw, Tryz.func68, tie68⟩
    · cases h'; exact ⟨_, fz, thaw, Tryz.func69, tie69⟩
    · cases h'; exact ⟨_, fz, thaw, Tryz.func73, tie73⟩
    · cases h'; exact ⟨_, fz, thaw, Tryz.func78, tie78⟩
    · cases h'; exact ⟨_, fz, thaw, Tryz.func83, tie83⟩
    · cases h'; exact ⟨_, fz, thaw, Tryz.func84, tie84⟩
    · cases h'; exact ⟨_, fz, thaw, Tryz.func85, tie85⟩
    · cases h'; exact ⟨_, fz, thaw, Tryz.func86, tie86⟩
    · cases h'; exact ⟨_, fz, thaw, Tryz.func87, tie87⟩
    · cases h'; exact ⟨_, fz, thaw, Tryz.func90, tie90⟩
    · cases h'; exact ⟨_, fz, thaw, Tryz.func97, tie97⟩
    · cases h'; exact ⟨_, fz, thaw, Tryz.func102, tie102⟩
    · cases h'; exact ⟨_, fz, thaw, Tryz.func103, tie103⟩
    · cases h'; exact ⟨_, fz, thaw, Tryz.func104, tie104⟩
    · cases h'; exact ⟨_, fz, thaw, Tryz.func108, tie108⟩
    · cases h'; exact ⟨_, fz, thaw, Tryz.func109, tie109⟩
    · cases h'; exact ⟨_, fz, thaw, Tryz.func110, tie110⟩
    · cases h'; exact ⟨_, fz, thaw, Tryz.func111, tie111⟩
    · cases h'; exact ⟨_, fz, thaw, Tryz.func116, tie116⟩
    · cases h'; exact ⟨_, fz, thaw, Tryz.func117, tie117⟩
    · cases h'; exact ⟨_, fz, thaw, Tryz.func119, tie119⟩
    · cases h'; exact ⟨_, fz, thaw, Tryz.func120, tie120⟩
    · cases h'; exact ⟨_, fz, thaw, Tryz.func121, tie121⟩
    · cases h'; exact ⟨_, fz, thaw, Tryz.func122, tie122⟩
    · cases h'; exact ⟨_, fz, thaw, Tryz.func125, tie125⟩
    · cases h'; exact ⟨_, fz, thaw, Tryz.func129, tie129⟩
    · cases h'; exact ⟨_, fz, thaw, Tryz.func130, tie130⟩
    · cases h'; exact ⟨_, fz, thaw, Tryz.func131, tie131⟩
    · cases h'; exact ⟨_, fz, thaw, Tryz.func139, tie139⟩
    · cases h'; exact ⟨_, fz, thaw, Tryz.func140, tie140⟩
    · cases h'; exact ⟨_, fz, thaw, Tryz.func141, tie141⟩
    · cases h'; exact ⟨_, fz, thaw, Tryz.func142, tie142⟩
    · cases h'; exact ⟨_, fz, thaw, Tryz.func143, tie143⟩
    · cases h'; exact ⟨_, fz, thaw, Tryz.func148, tie148⟩
    · cases h'; exact ⟨_, fz, thaw, Tryz.func150, tie150⟩
    · cases h'; exact ⟨_, fz, thaw, Tryz.func151, tie151⟩
    · cases h'; exact ⟨_, fz, thaw, Tryz.func152, tie152⟩
    · cases h'; exact ⟨_, fz, thaw, Tryz.func153, tie153⟩
    · cases h'; exact ⟨_, fz, thaw, Tryz.func159, tie159⟩
    · cases h'; exact ⟨_, fz, thaw, Tryz.func160, tie160⟩
    · cases h'; exact ⟨_, fz, thaw, Tryz.func161, tie161⟩
    · cases h'; exact ⟨_, fz, thaw, Tryz.func162, tie162⟩
    · cases h'
  prim := prim_ok
end Go.Bf
