/-
  The statements of package stream: the machine's code is what the translation gives.
-/
import Derived.Test.YtdolfkffgcmcgaaDoorStPrim
import Derived.Test.YtdolfkffgcmcgaaDoorRows
import Derived.KernelRfl
set_option linter.unusedVariables false
namespace Go.St
open Go.AM Go.Proofs Go.Proofs.YtdolfkffgcmcgaaDoor

def fz : TypeId → Bool := fun t => t == 86
def thaw : Nat → Bool := fun _ => false
theorem tie3 : trFunc Tryd.prog fz thaw Tryd.f3 = some a3 := by kernel_rfl
theorem tie4 : trFunc Tryd.prog fz thaw Tryd.f4 = some a4 := by kernel_rfl
theorem tie5 : trFunc Tryd.prog fz thaw Tryd.f5 = some a5 := by kernel_rfl
theorem tie6 : trFunc Tryd.prog fz thaw Tryd.f6 = some a6 := by kernel_rfl
theorem tie7 : trFunc Tryd.prog fz thaw Tryd.f7 = some a7 := by kernel_rfl
theorem tie8 : trFunc Tryd.prog fz thaw Tryd.f8 = some a8 := by kernel_rfl
theorem tie9 : trFunc Tryd.prog fz thaw Tryd.f9 = some a9 := by kernel_rfl
theorem tie10 : trFunc Tryd.prog fz thaw Tryd.f10 = some a10 := by kernel_rfl
theorem tie11 : trFunc Tryd.prog fz thaw Tryd.f11 = some a11 := by kernel_rfl
theorem tie12 : trFunc Tryd.prog fz thaw Tryd.f12 = some a12 := by kernel_rfl
theorem tie13 : trFunc Tryd.prog fz thaw Tryd.f13 = some a13 := by kernel_rfl
theorem tie14 : trFunc Tryd.prog fz thaw Tryd.f14 = some a14 := by kernel_rfl
theorem tie15 : trFunc Tryd.prog fz thaw Tryd.f15 = some a15 := by kernel_rfl
theorem tie16 : trFunc Tryd.prog fz thaw Tryd.f16 = some a16 := by kernel_rfl
theorem tie17 : trFunc Tryd.prog fz thaw Tryd.f17 = some a17 := by kernel_rfl
theorem tie18 : trFunc Tryd.prog fz thaw Tryd.f18 = some a18 := by kernel_rfl
theorem tie19 : trFunc Tryd.prog fz thaw Tryd.f19 = some a19 := by kernel_rfl
theorem tie20 : trFunc Tryd.prog fz thaw Tryd.f20 = some a20 := by kernel_rfl
theorem tie21 : trFunc Tryd.prog fz thaw Tryd.f21 = some a21 := by kernel_rfl
theorem tie22 : trFunc Tryd.prog fz thaw Tryd.f22 = some a22 := by kernel_rfl
theorem tie23 : trFunc Tryd.prog fz thaw Tryd.f23 = some a23 := by kernel_rfl
theorem tie24 : trFunc Tryd.prog fz thaw Tryd.f24 = some a24 := by kernel_rfl
theorem tie25 : trFunc Tryd.prog fz thaw Tryd.f25 = some a25 := by kernel_rfl
theorem tie26 : trFunc Tryd.prog fz thaw Tryd.f26 = some a26 := by kernel_rfl
theorem tie28 : trFunc Tryd.prog fz thaw Tryd.f28 = some a28 := by kernel_rfl
theorem tie29 : trFunc Tryd.prog fz thaw Tryd.f29 = some a29 := by kernel_rfl
theorem tie30 : trFunc Tryd.prog fz thaw Tryd.f30 = some a30 := by kernel_rfl
theorem tie31 : trFunc Tryd.prog fz thaw Tryd.f31 = some a31 := by kernel_rfl
theorem tie32 : trFunc Tryd.prog fz thaw Tryd.f32 = some a32 := by kernel_rfl
theorem tie33 : trFunc Tryd.prog fz thaw Tryd.f33 = some a33 := by kernel_rfl
theorem tie34 : trFunc Tryd.prog fz thaw Tryd.f34 = some a34 := by kernel_rfl
theorem tie35 : trFunc Tryd.prog fz thaw Tryd.f35 = some a35 := by kernel_rfl
theorem tie36 : trFunc Tryd.prog fz thaw Tryd.f36 = some a36 := by kernel_rfl
theorem tie37 : trFunc Tryd.prog fz thaw Tryd.f37 = some a37 := by kernel_rfl
theorem tie38 : trFunc Tryd.prog fz thaw Tryd.f38 = some a38 := by kernel_rfl
theorem tie42 : trFunc Tryd.prog fz thaw Tryd.f42 = some a42 := by kernel_rfl
theorem tie43 : trFunc Tryd.prog fz thaw Tryd.f43 = some a43 := by kernel_rfl
theorem tie44 : trFunc Tryd.prog fz thaw Tryd.f44 = some a44 := by kernel_rfl

theorem env_ok : EnvOk Tryd.prog env where
  func f af h := by
    have h' : func f = some af := h
    unfold func at h'
    split at h'
    · cases h'; exact ⟨_, fz, thaw, Tryd.func3, tie3⟩
    · cases h'; exact ⟨_, fz, thaw, Tryd.func4, tie4⟩
    · cases h'; exact ⟨_, fz, thaw, Tryd.func5, tie5⟩
    · cases h'; exact ⟨_, fz, thaw, Tryd.func6, tie6⟩
    · cases h'; exact ⟨_, fz, thaw, Tryd.func7, tie7⟩
    · cases h'; exact ⟨_, fz, thaw, Tryd.func8, tie8⟩
    · cases h'; exact ⟨_, fz, thaw, Tryd.func9, tie9⟩
    · cases h'; exact ⟨_, fz, thaw, Tryd.func10, tie10⟩
    · cases h'; exact ⟨_, fz, thaw, Tryd.func11, tie11⟩
    · cases h'; exact ⟨_, fz, thaw, Tryd.func12, tie12⟩
    · cases h'; exact ⟨_, fz, thaw, Tryd.func13, tie13⟩
    · cases h'; exact ⟨_, fz, thaw, Tryd.func14, tie14⟩
    · cases h'; exact ⟨_, fz, thaw, Tryd.func15, tie15⟩
    · cases h'; exact ⟨_, fz, thaw, Tryd.func16, tie16⟩
    · cases h'; exact ⟨_, fz, thaw, Tryd.func17, tie17⟩
    · cases h'; exact ⟨_, fz, thaw, Tryd.func18, tie18⟩
    · cases h'; exact ⟨_, fz, thaw, Tryd.func19, tie19⟩
    · cases h'; exact ⟨_, fz, thaw, Tryd.func20, tie20⟩
    · cases h'; exact ⟨_, fz, thaw, Tryd.func21, tie21⟩
    · cases h'; exact ⟨_, fz, thaw, Tryd.func22, tie22⟩
    · cases h'; exact ⟨_, fz, thaw, Tryd.func23, tie23⟩
    · cases h'; exact ⟨_, fz, thaw, Tryd.func24, tie24⟩
    · cases h'; exact ⟨_, fz, thaw, Tryd.func25, tie25⟩
    · cases h'; exact ⟨_, fz, thaw, Tryd.func26, tie26⟩
    · cases h'; exact ⟨_, fz, thaw, Tryd.func28, tie28⟩
    · cases h'; exact ⟨_, fz, thaw, Tryd.func29, tie29⟩
    · cases h'; exact ⟨_, fz, thaw, Tryd.func30, tie30⟩
    · cases h'; exact ⟨_, fz, thaw, Tryd.func31, tie31⟩
    · cases h'; exact ⟨_, fz, thaw, Tryd.func32, tie32⟩
    · cases h'; exact ⟨_, fz, thaw, Tryd.func33, tie33⟩
    · cases h'; exact ⟨_, fz, thaw, Tryd.func34, tie34⟩
    · cases h'; exact ⟨_, fz, thaw, Tryd.func35, tie35⟩
    · cases h'; exact ⟨_, fz, thaw, Tryd.func36, tie36⟩
    · cases h'; exact ⟨_, fz, thaw, Tryd.func37, tie37⟩
    · cases h'; exact ⟨_, fz, thaw, Tryd.func38, tie38⟩
    · cases h'; exact ⟨_, fz, thaw, Tryd.func42, tie42⟩
    · cases h'; exact ⟨_, fz, thaw, Tryd.func43, tie43⟩
    · cases h'; exact ⟨_, fz, thaw, Tryd.func44, tie44⟩
    · cases h'
  prim := prim_ok
end Go.St
