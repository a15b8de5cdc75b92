/-
  THE ABSTRACT MACHINE: arguments that are slices of bytes, of numbers.
-/
import Derived.Test.YtdolfkffgcmcgaaDoorAmRead
import Derived.Test.YtdolfkffgcmcgaaDoorAmMem
set_option linter.unusedVariables false
set_option linter.unusedSimpArgs false
namespace Go.AM

theorem byte_fit {H : Type} {d : DataW H} {vs : List AV} (h : Fits (.int .u8) d vs) : ∃ b : UInt8, vs = [byteAV b] := by
  obtain ⟨n, rfl, hwf, rfl⟩ := h
  have hx : 0 ≤ n ∧ n ≤ 255 := by simpa [Lit.wf, IntKind.min, IntKind.max, IntKind.signed, IntKind.bits] using hwf
  refine ⟨UInt8.ofNat n.toNat, ?_⟩
  have : ((UInt8.ofNat n.toNat).toNat : Int) = n := by
    rw [UInt8.toNat_ofNat']
    omega
  simp only [byteAV, this]

theorem bytes_all {H : Type} : ∀ {elems : List (DataW H)} {css : List (List AV)}, All2 (Fits (.int .u8)) elems css → ∃ bs : List UInt8, css.flatten = bs.map byteAV ∧ bs.length = elems.length
  | _, _, .nil => ⟨[], rfl, rfl⟩
  | _, _, .cons h hs => by
    obtain ⟨b, rfl⟩ := byte_fit h
    obtain ⟨bs, h1, h2⟩ := bytes_all hs
    exact ⟨b :: bs, by simp [h1], by simp [h2]⟩

/-- as long as that reading -/
def Long {H : Type} (d : DataW H) (bs : List UInt8) : Prop := bs = [] ∨ ∃ elems spare, d = .slice elems spare ∧ bs.length = elems.length

theorem bytes_fit {H : Type} {d : DataW H} {vs : List AV} (h : Fits (.slice (.int .u8)) d vs) : ∃ v bs, vs = [v] ∧ (∀ h, Bytes h v bs) ∧ Long d bs := by
  rcases h with ⟨rfl, rfl⟩ | ⟨elems, spare, css, rfl, _, hall, rfl⟩
  · exact ⟨_, [], rfl, fun h => .nils, .inl rfl⟩
  · obtain ⟨bs, h1, h2⟩ := bytes_all hall
    refine ⟨_, bs, rfl, fun h => ?_, .inr ⟨_, _, rfl, h2⟩⟩
    rw [h1, ← h2]
    exact .fs _ bs
end Go.AM
