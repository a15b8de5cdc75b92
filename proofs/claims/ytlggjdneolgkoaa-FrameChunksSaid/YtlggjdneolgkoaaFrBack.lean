/-
  Package frame: FrameBack answers true.
-/
import Derived.Test.YtlggjdneolgkoaaFrSame
import Derived.Test.YtlggjdneolgkoaaFrAwake
set_option linter.unusedVariables false
set_option linter.unusedSimpArgs false
set_option maxRecDepth 20000
namespace Go.Fr
open Go.AM

/-! ### the plain law -/
def fr (w : Nat) (b : List UInt8) : List UInt8 := hdr w b.length ++ b

theorem hdr_length {w n : Nat} (hw : w = 2 ∨ w = 4) : (hdr w n).length = w := by rcases hw with rfl | rfl <;> rfl

theorem num_hdr {w n : Nat} (hw : w = 2 ∨ w = 4) (hn : (n : Int) ≤ maxOf w) : num (hdr w n) = n := by
  rcases hw with rfl | rfl
  · simp [maxOf] at hn
    simp [hdr, num, UInt8.toNat_ofNat]
    omega
  · simp [maxOf] at hn
    simp [hdr, num, UInt8.toNat_ofNat]
    omega

theorem splitF_frames {w : Nat} (hw : w = 2 ∨ w = 4) : ∀ (l : List (List UInt8)) (f at_ : Nat) (acc : List (List UInt8)), (∀ b ∈ l, (b.length : Int) ≤ maxOf w) → (l.map (fr w)).flatten.length < f →
    splitF w f (l.map (fr w)).flatten at_ acc = (acc ++ l, at_ + (l.map (fr w)).flatten.length, false)
  | [], 0, _, _, _, h => by simp at h
  | _ :: _, 0, _, _, _, h => by omega
  | [], f + 1, at_, acc, _, _ => by
    have hpos : 0 < w := by rcases hw with rfl | rfl <;> omega
    simp [splitF, hpos]
  | b :: l, f + 1, at_, acc, hb, hf => by
    have hbl := hb b (by simp)
    have hh := hdr_length (n := b.length) hw
    have e0 : ((b :: l).map (fr w)).flatten = hdr w b.length ++ (b ++ (l.map (fr w)).flatten) := by simp [fr]
    rw [e0] at hf ⊢
    have e1 : (hdr w b.length ++ (b ++ (l.map (fr w)).flatten)).take w = hdr w b.length := by
      rw [List.take_append_of_le_length (by omega), List.take_of_length_le (by omega)]
    have e2 : (hdr w b.length ++ (b ++ (l.map (fr w)).flatten)).drop w = b ++ (l.map (fr w)).flatten := by
      rw [List.drop_append_of_le_length (by omega), List.drop_of_length_le (by omega), List.nil_append]
    simp only [List.length_append, hh] at hf
    rw [splitF, e1, num_hdr hw hbl, e2]
    rw [if_neg (by simp [hh]), if_neg (by omega), if_neg (by simp [hh])]
    have e3 : (hdr w b.length ++ (b ++ (l.map (fr w)).flatten)).drop (w + b.length) = (l.map (fr w)).flatten := by
      rw [← List.drop_drop, e2]; simp
    rw [e3]
    have hpos : 0 < w := by rcases hw with rfl | rfl <;> omega
    rw [splitF_frames hw l f _ _ (fun x hx => hb x (by simp [hx])) (by omega)]
    simp [hh]
    omega

theorem eq_nil : aEq (.iface true) .nili .nili = some true := rfl
theorem eq_fault (a c : Int) : aEq (.iface true) (faultV a c) .nili = some false := rfl

theorem Acc.bytes {h : Heap} {v : AV} {bs : List UInt8} (k : Acc h 1 v (bs.map byteAV)) : Bytes h v bs := by
  generalize hc : bs.map byteAV = cells at k
  cases k with
  | nils =>
    simp at hc; subst hc; exact .nils
  | full n _ hl =>
    subst hc
    have : n = bs.length := by simp at hl; omega
    subst this
    exact .fs true bs
  | sl id gen n _ hat hl =>
    subst hc
    have : n = bs.length := by simp at hl; omega
    subst this
    exact .sl id gen 0 none _ bs hat (by simp) (by simp [List.take_of_length_le]) (fun c e => by cases e)
end Go.Fr
