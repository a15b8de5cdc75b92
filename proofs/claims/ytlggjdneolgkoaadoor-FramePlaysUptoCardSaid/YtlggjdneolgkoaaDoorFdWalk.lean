import Derived.Test.YtlggjdneolgkoaaDoorFdCode
import Derived.Test.YtlggjdneolgkoaaDoorFdLen
set_option linter.unusedVariables false
set_option linter.unusedSimpArgs false
set_option maxRecDepth 20000
namespace Go.Fd
open Go.AM

def maxOf (w : Int) : Int := if w = 2 then 1024 else if w = 4 then 131072 else 0

theorem greatest_spec (w : Int) (h : Heap) : WC env 22 [.int .i64 w] h (fun o => o = .ret ⟨.int .i64 (maxOf w), h, .none⟩) := by
  refine call_pure rfl rfl rfl rfl ?_
  by_cases h2 : w = 2
  · simp [a22, a22_0, a22_1, a22_2, a22_3, a22_4, a22_5, a22_6, Slots.ofList, get_put, Env.op, aBin, aInt, pureQ, Env.results, oneOrTup, maxOf, h2, frz_noRef]
  · by_cases h4 : w = 4
    · simp [a22, a22_0, a22_1, a22_2, a22_3, a22_4, a22_5, a22_6, Slots.ofList, get_put, Env.op, aBin, aInt, pureQ, Env.results, oneOrTup, maxOf, h2, h4, frz_noRef]
    · simp [a22, a22_0, a22_1, a22_2, a22_3, a22_4, a22_5, a22_6, Slots.ofList, get_put, Env.op, aBin, aInt, pureQ, Env.results, oneOrTup, maxOf, h2, h4, frz_noRef]

def faultV (at_ : Int) (code : Int) : AV := .ifc 75 (.fp [.str [102, 114, 97, 109, 101], .int .i64 at_, .int .i64 code, .nili])

theorem fault_spec (a c : Int) (h : Heap) : WC env 23 [.int .i64 a, .int .i64 c] h (fun o => o = .ret ⟨faultV a c, h, .none⟩) := by
  refine call_pure rfl rfl rfl rfl ?_
  simp [a23, a23_0, a23_1, Slots.ofList, get_put, Env.op, Env.parts, aFill, splice, aBin, aInt, pureQ, Env.results, oneOrTup, faultV, frz_noRef]

/-- the bytes that stand ahead of a body of length n -/
def hdr (w n : Nat) : List UInt8 := ([UInt8.ofNat (n / 16777216), UInt8.ofNat (n / 65536), UInt8.ofNat (n / 256), UInt8.ofNat n]).drop (4 - w)

theorem wrap_u8 (n : Nat) : IntKind.wrap .u8 (n : Int) = ((UInt8.ofNat n).toNat : Int) := by
  simp [IntKind.wrap, IntKind.bits, IntKind.signed]

theorem fdiv_nat (a b : Nat) : Int.fdiv (a : Int) (b : Int) = ((a / b : Nat) : Int) := by
  rw [Int.fdiv_eq_ediv_of_nonneg _ (Int.natCast_nonneg b)]; rfl

theorem byte_cell (n d : Nat) : AV.int .u8 (IntKind.wrap .u8 (Int.fdiv (n : Int) (d : Int))) = byteAV (UInt8.ofNat (n / d)) := by
  rw [fdiv_nat, wrap_u8]; rfl

theorem frame_bad {w : Int} (h2 : w ≠ 2) (h4 : w ≠ 4) (v : AV) (h : Heap) : WC env 6 [.int .i64 w, v] h (fun o => o = .ret ⟨.tup [.nils, faultV 0 1], h, .write⟩) := by
  refine call_body rfl rfl (.inl rfl) ?_
  simp [a6, a6_0, a6_1, a6_2, Slots.ofList, get_put, aBin, aInt, wc_eq (greatest_spec _ _), wc_eq (fault_spec _ _ _), maxOf, h2, h4, retQ, Env.results, oneOrTup]

theorem frame_long {w : Nat} (hw : w = 2 ∨ w = 4) {v : AV} {bs : List UInt8} {h : Heap} (hb : Bytes h v bs) (hl : maxOf w < bs.length) : WC env 6 [.int .i64 w, v] h (fun o => o = .ret ⟨.tup [.nils, faultV 0 4], h, .write⟩) := by
  refine call_body rfl rfl (.inl rfl) ?_
  have e := hb.lenOp
  rcases hw with rfl | rfl <;> simp [maxOf] at hl <;>
  simp [a6, a6_0, a6_1, a6_2, a6_3, a6_4, Slots.ofList, get_put, e, hl, aBin, aInt, wc_eq (greatest_spec _ _), wc_eq (fault_spec _ _ _), maxOf, retQ, Env.results, oneOrTup]

@[simp] theorem row_byte (b : UInt8) : (byteAV b).row = some [byteAV b] := id rfl
theorem shr_nat (n k : Nat) (hk : k ≤ 64) : aShift .shr .i64 (n : Int) (k : Int) = some (.int .i64 ((n / 2 ^ k : Nat) : Int)) := by
  have h0 : ¬ ((k : Int) < 0) := by omega
  simp only [aShift, h0, if_false, Int.toNat_natCast, IntKind.bits]
  rw [Nat.min_eq_left hk, show ((2 : Int) ^ k) = ((2 ^ k : Nat) : Int) by simp, fdiv_nat]
theorem conv_u8 (n : Nat) (h : Heap) : aConv h (.int .u8) (.int .i64 (n : Int)) = some ⟨byteAV (UInt8.ofNat n), h, .none⟩ := by
  simp only [aConv, wrap_u8]
  rfl

theorem frame_spec {w : Nat} (hw : w = 2 ∨ w = 4) {v : AV} {bs : List UInt8} {h : Heap} (ho : HeapOk h) (hb : Bytes h v bs) (hl : (bs.length : Int) ≤ maxOf w) :
    WC env 6 [.int .i64 w, v] h (fun o => ∃ v' h', o = .ret ⟨.tup [v', .nili], h', .write⟩ ∧ Bytes h' v' (hdr w bs.length ++ bs) ∧ h.le h' ∧ HeapOk h') := by
  refine call_body rfl rfl (.inl rfl) ?_
  have e := hb.lenOp
  have s24 : aShift .shr .i64 (bs.length : Int) 24 = some (.int .i64 ((bs.length / 16777216 : Nat) : Int)) := shr_nat bs.length 24 (by omega)
  have s16 : aShift .shr .i64 (bs.length : Int) 16 = some (.int .i64 ((bs.length / 65536 : Nat) : Int)) := shr_nat bs.length 16 (by omega)
  have s8 : aShift .shr .i64 (bs.length : Int) 8 = some (.int .i64 ((bs.length / 256 : Nat) : Int)) := shr_nat bs.length 8 (by omega)
  have hlen : (hdr w bs.length).length = w := by rcases hw with rfl | rfl <;> rfl
  have hle : bs.length ≤ 131072 := by rcases hw with rfl | rfl <;> simp [maxOf] at hl <;> omega
  obtain ⟨v', h', c, f1, f2, f3, f4, f5⟩ := append_full ho (xs := hdr w bs.length) hb (by rw [hlen]; rcases hw with rfl | rfl <;> omega)
  rw [hlen] at f1
  have hle' : ¬ maxOf w < bs.length := by omega
  have d1 := conv_u8 (bs.length / 16777216) h
  have d2 := conv_u8 (bs.length / 65536) h
  have d3 := conv_u8 (bs.length / 256) h
  have d4 := conv_u8 bs.length h
  have hcells : (hdr w bs.length).map byteAV = [byteAV (UInt8.ofNat (bs.length / 16777216)), byteAV (UInt8.ofNat (bs.length / 65536)), byteAV (UInt8.ofNat (bs.length / 256)), byteAV (UInt8.ofNat bs.length)].drop (4 - w) := by
    simp [hdr, List.map_drop]
  rw [hcells] at f1
  clear hcells hlen
  generalize hn1 : bs.length / 16777216 = n1 at s24 d1 f1
  generalize hn2 : bs.length / 65536 = n2 at s16 d2 f1
  generalize hn3 : bs.length / 256 = n3 at s8 d3 f1
  rcases hw with rfl | rfl
  · have hnl : ¬ (1024 : Int) < bs.length := by simp [maxOf] at hle'; omega
    have b1 : bounds 4 4 (some (AV.int .i64 2)) (some (AV.int .i64 4)) (some (AV.int .i64 4)) = some (2, 4, 4) := by decide
    have w2 : IntKind.wrap .i64 2 = 2 := by decide
    simp only [Nat.reduceSub, Nat.sub_self, List.drop] at f1
    simp [a6, a6_0, a6_1, a6_2, a6_3, a6_4, a6_5, a6_6, a6_7, Slots.ofList, get_put, op_lit, op_slice, op_append, e, hnl, aBin, aInt, aFill, splice, aSlice, b1, w2, row_byte,
      wc_eq (greatest_spec _ _), wc_eq (fault_spec _ _ _), maxOf, retQ, Env.results, oneOrTup, s24, s16, s8, d1, d2, d3, d4, f1]
    exact ⟨_, _, ⟨rfl, rfl⟩, f2, f3, f4⟩
  · have hnl : ¬ (131072 : Int) < bs.length := by simp [maxOf] at hle'; omega
    have b1 : bounds 4 4 (some (AV.int .i64 0)) (some (AV.int .i64 4)) (some (AV.int .i64 4)) = some (0, 4, 4) := by decide
    have w2 : IntKind.wrap .i64 0 = 0 := by decide
    simp only [Nat.reduceSub, Nat.sub_self, List.drop] at f1
    simp [a6, a6_0, a6_1, a6_2, a6_3, a6_4, a6_5, a6_6, a6_7, Slots.ofList, get_put, op_lit, op_slice, op_append, e, hnl, aBin, aInt, aFill, splice, aSlice, b1, w2, row_byte,
      wc_eq (greatest_spec _ _), wc_eq (fault_spec _ _ _), maxOf, retQ, Env.results, oneOrTup, s24, s16, s8, d1, d2, d3, d4, f1]
    exact ⟨_, _, ⟨rfl, rfl⟩, f2, f3, f4⟩
end Go.Fd
