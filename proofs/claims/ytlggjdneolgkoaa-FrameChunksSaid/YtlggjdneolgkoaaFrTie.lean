/-
  Package frame: the machine's code is what the translation gives.
-/
import Derived.Test.YtlggjdneolgkoaaFrCode
import Derived.Test.YtlggjdneolgkoaaAmTop
import Derived.Test.YtlggjdneolgkoaaRows
import Derived.KernelRfl
set_option linter.unusedVariables false
namespace Go.Fr
open Go.AM Go.Proofs Go.Proofs.Ytlggjdneolgkoaa

def fz : TypeId → Bool := fun t => t == 73
def thaw : Nat → Bool := fun _ => false
theorem tie3 : trFunc Try.prog fz thaw Try.f3 = some a3 := by kernel_rfl
theorem tie4 : trFunc Try.prog fz thaw Try.f4 = some a4 := by kernel_rfl
theorem tie5 : trFunc Try.prog fz thaw Try.f5 = some a5 := by kernel_rfl
theorem tie6 : trFunc Try.prog fz thaw Try.f6 = some a6 := by kernel_rfl
theorem tie7 : trFunc Try.prog fz thaw Try.f7 = some a7 := by kernel_rfl
theorem tie8 : trFunc Try.prog fz thaw Try.f8 = some a8 := by kernel_rfl
theorem tie9 : trFunc Try.prog fz thaw Try.f9 = some a9 := by kernel_rfl
theorem tie10 : trFunc Try.prog fz thaw Try.f10 = some a10 := by kernel_rfl
theorem tie11 : trFunc Try.prog fz thaw Try.f11 = some a11 := by kernel_rfl
theorem tie12 : trFunc Try.prog fz thaw Try.f12 = some a12 := by kernel_rfl
theorem tie13 : trFunc Try.prog fz thaw Try.f13 = some a13 := by kernel_rfl
theorem tie14 : trFunc Try.prog fz thaw Try.f14 = some a14 := by kernel_rfl
theorem tie15 : trFunc Try.prog fz thaw Try.f15 = some a15 := by kernel_rfl
theorem tie16 : trFunc Try.prog fz thaw Try.f16 = some a16 := by kernel_rfl
theorem tie17 : trFunc Try.prog fz thaw Try.f17 = some a17 := by kernel_rfl
theorem tie18 : trFunc Try.prog fz thaw Try.f18 = some a18 := by kernel_rfl
theorem tie19 : trFunc Try.prog fz thaw Try.f19 = some a19 := by kernel_rfl
theorem tie20 : trFunc Try.prog fz thaw Try.f20 = some a20 := by kernel_rfl
theorem tie21 : trFunc Try.prog fz thaw Try.f21 = some a21 := by kernel_rfl
theorem tie22 : trFunc Try.prog fz thaw Try.f22 = some a22 := by kernel_rfl
theorem tie23 : trFunc Try.prog fz thaw Try.f23 = some a23 := by kernel_rfl
theorem tie24 : trFunc Try.prog fz thaw Try.f24 = some a24 := by kernel_rfl
theorem tie25 : trFunc Try.prog fz thaw Try.f25 = some a25 := by kernel_rfl

theorem env_ok : EnvOk Try.prog env where
  func f af h := by
    have h' : func f = some af := h
    unfold func at h'
    split at h'
    · cases h'; exact ⟨_, fz, thaw, Try.func3, tie3⟩
    · cases h'; exact ⟨_, fz, thaw, Try.func4, tie4⟩
    · cases h'; exact ⟨_, fz, thaw, Try.func5, tie5⟩
    · cases h'; exact ⟨_, fz, thaw, Try.func6, tie6⟩
    · cases h'; exact ⟨_, fz, thaw, Try.func7, tie7⟩
    · cases h'; exact ⟨_, fz, thaw, Try.func8, tie8⟩
    · cases h'; exact ⟨_, fz, thaw, Try.func9, tie9⟩
    · cases h'; exact ⟨_, fz, thaw, Try.func10, tie10⟩
    · cases h'; exact ⟨_, fz, thaw, Try.func11, tie11⟩
    · cases h'; exact ⟨_, fz, thaw, Try.func12, tie12⟩
    · cases h'; exact ⟨_, fz, thaw, Try.func13, tie13⟩
    · cases h'; exact ⟨_, fz, thaw, Try.func14, tie14⟩
    · cases h'; exact ⟨_, fz, thaw, Try.func15, tie15⟩
    · cases h'; exact ⟨_, fz, thaw, Try.func16, tie16⟩
    · cases h'; exact ⟨_, fz, thaw, Try.func17, tie17⟩
    · cases h'; exact ⟨_, fz, thaw, Try.func18, tie18⟩
    · cases h'; exact ⟨_, fz, thaw, Try.func19, tie19⟩
    · cases h'; exact ⟨_, fz, thaw, Try.func20, tie20⟩
    · cases h'; exact ⟨_, fz, thaw, Try.func21, tie21⟩
    · cases h'; exact ⟨_, fz, thaw, Try.func22, tie22⟩
    · cases h'; exact ⟨_, fz, thaw, Try.func23, tie23⟩
    · cases h'; exact ⟨_, fz, thaw, Try.func24, tie24⟩
    · cases h'; exact ⟨_, fz, thaw, Try.func25, tie25⟩
    · cases h'
  prim f p h := by cases h
end Go.Fr
