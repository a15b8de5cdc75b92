/-
  THE ABSTRACT MACHINE's code of the functions that the door statements of package frame reach: printed by a program of this session's own; FdTie shows that it is what the translation gives. errors.As and errors.Is are taken whole.
-/
import Derived.Test.YtlggjdneolgkoaaDoorAmCore
set_option linter.unusedVariables false
namespace Go.Fd
open Go.AM
/-! ### 3: heddle/heddlelaw06.FrameMakes (34 slots) -/
def a3_0 : List AOper := [
  ⟨(some 4), (.mv (.c (.bool false))), none⟩]
def a3_1 : List AOper := [
  ⟨(some 10), (.mv (.t 0)), none⟩,
  ⟨(some 11), (.mv (.t 1)), none⟩,
  ⟨(some 12), (.call 6 [(.t 10), (.t 11)]), none⟩,
  ⟨(some 9), (.mv (.t 12)), none⟩,
  ⟨(some 13), (.extract (.t 9) 0), none⟩,
  ⟨(some 14), (.extract (.t 9) 1), none⟩,
  ⟨(some 5), (.mv (.t 13)), none⟩,
  ⟨(some 6), (.mv (.t 14)), none⟩]
def a3_2 : List AOper := [
  ⟨(some 16), (.mv (.t 0)), none⟩,
  ⟨(some 17), (.mv (.t 1)), none⟩,
  ⟨(some 18), (.call 7 [(.t 16), (.t 17)]), none⟩,
  ⟨(some 15), (.mv (.t 18)), none⟩,
  ⟨(some 19), (.extract (.t 15) 0), none⟩,
  ⟨(some 20), (.extract (.t 15) 1), none⟩,
  ⟨(some 7), (.mv (.t 19)), none⟩,
  ⟨(some 8), (.mv (.t 20)), none⟩]
def a3_3 : List AOper := [
  ⟨(some 21), (.mv (.t 5)), none⟩,
  ⟨(some 22), (.conv .b2s (.t 21)), none⟩,
  ⟨(some 23), (.mv (.t 7)), none⟩,
  ⟨(some 24), (.conv .b2s (.t 23)), none⟩,
  ⟨(some 25), (.bin .eql (.t 22) (.t 24)), none⟩,
  ⟨(some 26), (.mv (.t 25)), none⟩,
  ⟨(some 27), (.mv (.t 6)), (some (26, true))⟩,
  ⟨(some 28), (.mv (.t 8)), (some (26, true))⟩,
  ⟨(some 29), (.call 8 [(.t 27), (.t 28)]), (some (26, true))⟩,
  ⟨(some 30), (.pick (.t 26) (.t 29) (.c (.bool false))), none⟩,
  ⟨(some 31), (.mv (.t 30)), none⟩,
  ⟨(some 32), (.call 9 []), (some (31, true))⟩,
  ⟨(some 33), (.pick (.t 31) (.t 32) (.c (.bool false))), none⟩,
  ⟨(some 4), (.mv (.t 33)), none⟩]
def a3 : AFunc := ⟨[.tmp 4], (.seq (.ops a3_0) (.seq (.ops a3_1) (.seq (.ops a3_2) (.seq (.ops a3_3) .ret))))⟩
/-! ### 4: heddle/heddlelaw06.FramePlays (116 slots) -/
def a4_0 : List AOper := [
  ⟨(some 4), (.mv (.c (.bool false))), none⟩]
def a4_1 : List AOper := [
  ⟨(some 18), (.mv (.t 0)), none⟩,
  ⟨(some 19), (.call 10 [(.t 18)]), none⟩,
  ⟨(some 17), (.mv (.t 19)), none⟩,
  ⟨(some 20), (.extract (.t 17) 0), none⟩,
  ⟨(some 21), (.extract (.t 17) 1), none⟩,
  ⟨(some 5), (.mv (.t 20)), none⟩,
  ⟨(some 6), (.mv (.t 21)), none⟩]
def a4_2 : List AOper := [
  ⟨(some 23), (.mv (.t 0)), none⟩,
  ⟨(some 24), (.call 11 [(.t 23)]), none⟩,
  ⟨(some 22), (.mv (.t 24)), none⟩,
  ⟨(some 25), (.extract (.t 22) 0), none⟩,
  ⟨(some 26), (.extract (.t 22) 1), none⟩,
  ⟨(some 7), (.mv (.t 25)), none⟩,
  ⟨(some 8), (.mv (.t 26)), none⟩]
def a4_3 : List AOper := [
  ⟨(some 27), (.mv (.t 6)), none⟩,
  ⟨(some 28), (.mv (.t 8)), none⟩,
  ⟨(some 29), (.call 8 [(.t 27), (.t 28)]), none⟩,
  ⟨(some 30), (.un .not (.t 29)), none⟩,
  ⟨(some 31), (.mv (.t 30)), none⟩,
  ⟨(some 32), (.call 9 []), (some (31, false))⟩,
  ⟨(some 33), (.un .not (.t 32)), (some (31, false))⟩,
  ⟨(some 34), (.pick (.t 31) (.c (.bool true)) (.t 33)), none⟩]
def a4_4 : List AOper := [
  ⟨(some 4), (.mv (.c (.bool false))), none⟩]
def a4_5 : List AOper := [
  ⟨(some 35), (.mv (.t 8)), none⟩,
  ⟨(some 36), (.eq true .slice (.t 35) (.c .nils)), none⟩]
def a4_6 : List AOper := [
  ⟨(some 37), (.mv (.t 5)), none⟩,
  ⟨(some 38), (.eq false .ptr (.t 37) (.c .nilp)), none⟩,
  ⟨(some 4), (.mv (.t 38)), none⟩]
def a4_7 : List AOper := [
  ⟨(some 39), (.mv (.t 5)), none⟩,
  ⟨(some 40), (.eq false .ptr (.t 39) (.c .nilp)), none⟩]
def a4_8 : List AOper := [
  ⟨(some 4), (.mv (.c (.bool false))), none⟩]
def a4_9 : List AOper := [
  ⟨(some 9), (.mv (.c (.int .i64 0))), none⟩]
def a4_10 : List AOper := [
  ⟨(some 41), (.mv (.t 9)), none⟩,
  ⟨(some 42), (.mv (.t 1)), none⟩,
  ⟨(some 43), (.len false (.t 42)), none⟩,
  ⟨(some 44), (.bin .lss (.t 41) (.t 43)), none⟩]
def a4_11 : List AOper := [
  ⟨(some 10), (.mv (.c (.bool true))), none⟩]
def a4_12 : List AOper := [
  ⟨(some 47), (.mv (.t 1)), none⟩,
  ⟨(some 48), (.mv (.t 9)), none⟩,
  ⟨(some 49), (.idxAddr 2 (.t 47) (.t 48)), none⟩,
  ⟨(some 50), (.fieldAddr 0 (.t 49)), none⟩,
  ⟨(some 51), (.load false 1 (.t 50)), none⟩]
def a4_13 : List AOper := [
  ⟨(some 53), (.bin .eql (.t 51) (.c (.int .i64 0))), none⟩,
  ⟨(some 52), (.mv (.t 53)), none⟩]
def a4_14 : List AOper := [
  ⟨(some 54), (.mv (.t 5)), none⟩,
  ⟨(some 55), (.mv (.t 1)), none⟩,
  ⟨(some 56), (.mv (.t 9)), none⟩,
  ⟨(some 57), (.idxAddr 2 (.t 55) (.t 56)), none⟩,
  ⟨(some 58), (.fieldAddr 1 (.t 57)), none⟩,
  ⟨(some 59), (.load false 1 (.t 58)), none⟩,
  ⟨(some 60), (.call 12 [(.t 54), (.t 59)]), none⟩,
  ⟨(some 61), (.mv (.t 7)), none⟩,
  ⟨(some 62), (.mv (.t 1)), none⟩,
  ⟨(some 63), (.mv (.t 9)), none⟩,
  ⟨(some 64), (.idxAddr 2 (.t 62) (.t 63)), none⟩,
  ⟨(some 65), (.fieldAddr 1 (.t 64)), none⟩,
  ⟨(some 66), (.load false 1 (.t 65)), none⟩,
  ⟨(some 67), (.call 13 [(.t 61), (.t 66)]), none⟩,
  ⟨(some 68), (.call 8 [(.t 60), (.t 67)]), none⟩,
  ⟨(some 10), (.mv (.t 68)), none⟩]
def a4_14b : List Nat := [0, 0, 0, 6, 14, 30, 63, 0, 0, 0, 768, 1792, 3840, 8191, 16383, 32767]
def a4_15 : List AOper := [
  ⟨(some 70), (.bin .eql (.t 51) (.c (.int .i64 1))), none⟩,
  ⟨(some 69), (.mv (.t 70)), none⟩]
def a4_16 : List AOper := [
  ⟨(some 72), (.mv (.t 5)), none⟩,
  ⟨(some 73), (.call 14 [(.t 72)]), none⟩,
  ⟨(some 71), (.mv (.t 73)), none⟩,
  ⟨(some 74), (.extract (.t 71) 0), none⟩,
  ⟨(some 75), (.extract (.t 71) 1), none⟩,
  ⟨(some 76), (.extract (.t 71) 2), none⟩,
  ⟨(some 11), (.mv (.t 74)), none⟩,
  ⟨(some 12), (.mv (.t 75)), none⟩,
  ⟨(some 13), (.mv (.t 76)), none⟩]
def a4_17 : List AOper := [
  ⟨(some 78), (.mv (.t 7)), none⟩,
  ⟨(some 79), (.call 15 [(.t 78)]), none⟩,
  ⟨(some 77), (.mv (.t 79)), none⟩,
  ⟨(some 80), (.extract (.t 77) 0), none⟩,
  ⟨(some 81), (.extract (.t 77) 1), none⟩,
  ⟨(some 82), (.extract (.t 77) 2), none⟩,
  ⟨(some 14), (.mv (.t 80)), none⟩,
  ⟨(some 15), (.mv (.t 81)), none⟩,
  ⟨(some 16), (.mv (.t 82)), none⟩]
def a4_18 : List AOper := [
  ⟨(some 83), (.mv (.t 11)), none⟩,
  ⟨(some 84), (.conv .b2s (.t 83)), none⟩,
  ⟨(some 85), (.mv (.t 14)), none⟩,
  ⟨(some 86), (.conv .b2s (.t 85)), none⟩,
  ⟨(some 87), (.bin .eql (.t 84) (.t 86)), none⟩,
  ⟨(some 88), (.mv (.t 87)), none⟩,
  ⟨(some 89), (.mv (.t 12)), (some (88, true))⟩,
  ⟨(some 90), (.mv (.t 15)), (some (88, true))⟩,
  ⟨(some 91), (.eq false .bool (.t 89) (.t 90)), (some (88, true))⟩,
  ⟨(some 92), (.pick (.t 88) (.t 91) (.c (.bool false))), none⟩,
  ⟨(some 93), (.mv (.t 92)), none⟩,
  ⟨(some 94), (.mv (.t 13)), (some (93, true))⟩,
  ⟨(some 95), (.mv (.t 16)), (some (93, true))⟩,
  ⟨(some 96), (.call 8 [(.t 94), (.t 95)]), (some (93, true))⟩,
  ⟨(some 97), (.pick (.t 93) (.t 96) (.c (.bool false))), none⟩,
  ⟨(some 10), (.mv (.t 97)), none⟩]
def a4_19 : List AOper := [
  ⟨(some 99), (.bin .eql (.t 51) (.c (.int .i64 2))), none⟩,
  ⟨(some 98), (.mv (.t 99)), none⟩]
def a4_20 : List AOper := [
  ⟨(some 100), (.mv (.t 5)), none⟩,
  ⟨(some 101), (.call 16 [(.t 100)]), none⟩,
  ⟨(some 102), (.mv (.t 7)), none⟩,
  ⟨(some 103), (.call 17 [(.t 102)]), none⟩,
  ⟨(some 104), (.call 8 [(.t 101), (.t 103)]), none⟩,
  ⟨(some 10), (.mv (.t 104)), none⟩]
def a4_21 : List AOper := [
  ⟨(some 105), (.mv (.t 10)), none⟩,
  ⟨(some 106), (.un .not (.t 105)), none⟩,
  ⟨(some 107), (.mv (.t 106)), none⟩,
  ⟨(some 108), (.mv (.t 5)), (some (107, false))⟩,
  ⟨(some 109), (.call 18 [(.t 108)]), (some (107, false))⟩,
  ⟨(some 110), (.mv (.t 7)), (some (107, false))⟩,
  ⟨(some 111), (.nilCheck (.t 110)), (some (107, false))⟩,
  ⟨(some 112), (.fieldAddr 0 (.t 111)), (some (107, false))⟩,
  ⟨(some 113), (.load true 6 (.t 112)), (some (107, false))⟩,
  ⟨(some 114), (.eq true (.struct [(0, 1, false, .int), (1, 1, false, .int), (2, 1, false, .int), (3, 1, false, .int), (4, 1, false, .int), (5, 1, false, .bool)]) (.t 109) (.t 113)), (some (107, false))⟩,
  ⟨(some 115), (.pick (.t 107) (.c (.bool true)) (.t 114)), none⟩]
def a4_21b : List Nat := [0, 1, 3, 7, 15, 7, 39, 103, 231, 511, 1023]
def a4_22 : List AOper := [
  ⟨(some 4), (.mv (.c (.bool false))), none⟩]
def a4_23 : List AOper := [
  ⟨(some 45), (.mv (.t 9)), none⟩,
  ⟨(some 46), (.bin .add (.t 45) (.c (.int .i64 1))), none⟩,
  ⟨(some 9), (.mv (.t 46)), none⟩]
def a4_l24 : AC := (.seq (.seq (.ops a4_10) (.cond (.t 44) .skip (.exit 0))) (.seq (.block 1 (.seq (.ops a4_11) (.seq (.seq (.ops a4_12) (.block 2 (.seq (.ops a4_13) (.cond (.t 52) (.draw a4_14 a4_14b) (.seq (.ops a4_15) (.cond (.t 69) (.seq (.ops a4_16) (.seq (.ops a4_17) (.ops a4_18))) (.seq (.ops a4_19) (.cond (.t 98) (.ops a4_20) .skip)))))))) (.seq (.draw a4_21 a4_21b) (.cond (.t 115) (.seq (.ops a4_22) .ret) .skip))))) (.ops a4_23)))
def a4_25 : List AOper := [
  ⟨(some 4), (.mv (.c (.bool true))), none⟩]
def a4 : AFunc := ⟨[.tmp 4], (.seq (.ops a4_0) (.seq (.ops a4_1) (.seq (.ops a4_2) (.seq (.seq (.ops a4_3) (.cond (.t 34) (.seq (.ops a4_4) .ret) .skip)) (.seq (.seq (.ops a4_5) (.cond (.t 36) (.seq (.ops a4_6) .ret) .skip)) (.seq (.seq (.ops a4_7) (.cond (.t 40) (.seq (.ops a4_8) .ret) .skip)) (.seq (.seq (.ops a4_9) (.block 0 (.loop a4_l24))) (.seq (.ops a4_25) .ret))))))))⟩
/-! ### 5: heddle/heddlelaw06.FrameSplits (41 slots) -/
def a5_0 : List AOper := [
  ⟨(some 4), (.mv (.c (.bool false))), none⟩]
def a5_1 : List AOper := [
  ⟨(some 12), (.mv (.t 0)), none⟩,
  ⟨(some 13), (.mv (.t 1)), none⟩,
  ⟨(some 14), (.call 19 [(.t 12), (.t 13)]), none⟩,
  ⟨(some 11), (.mv (.t 14)), none⟩,
  ⟨(some 15), (.extract (.t 11) 0), none⟩,
  ⟨(some 16), (.extract (.t 11) 1), none⟩,
  ⟨(some 17), (.extract (.t 11) 2), none⟩,
  ⟨(some 5), (.mv (.t 15)), none⟩,
  ⟨(some 6), (.mv (.t 16)), none⟩,
  ⟨(some 7), (.mv (.t 17)), none⟩]
def a5_2 : List AOper := [
  ⟨(some 19), (.mv (.t 0)), none⟩,
  ⟨(some 20), (.mv (.t 1)), none⟩,
  ⟨(some 21), (.call 20 [(.t 19), (.t 20)]), none⟩,
  ⟨(some 18), (.mv (.t 21)), none⟩,
  ⟨(some 22), (.extract (.t 18) 0), none⟩,
  ⟨(some 23), (.extract (.t 18) 1), none⟩,
  ⟨(some 24), (.extract (.t 18) 2), none⟩,
  ⟨(some 8), (.mv (.t 22)), none⟩,
  ⟨(some 9), (.mv (.t 23)), none⟩,
  ⟨(some 10), (.mv (.t 24)), none⟩]
def a5_3 : List AOper := [
  ⟨(some 25), (.mv (.t 5)), none⟩,
  ⟨(some 26), (.mv (.t 8)), none⟩,
  ⟨(some 27), (.call 21 [(.t 25), (.t 26)]), none⟩,
  ⟨(some 28), (.mv (.t 27)), none⟩,
  ⟨(some 29), (.mv (.t 6)), (some (28, true))⟩,
  ⟨(some 30), (.mv (.t 9)), (some (28, true))⟩,
  ⟨(some 31), (.bin .eql (.t 29) (.t 30)), (some (28, true))⟩,
  ⟨(some 32), (.pick (.t 28) (.t 31) (.c (.bool false))), none⟩,
  ⟨(some 33), (.mv (.t 32)), none⟩,
  ⟨(some 34), (.mv (.t 7)), (some (33, true))⟩,
  ⟨(some 35), (.mv (.t 10)), (some (33, true))⟩,
  ⟨(some 36), (.call 8 [(.t 34), (.t 35)]), (some (33, true))⟩,
  ⟨(some 37), (.pick (.t 33) (.t 36) (.c (.bool false))), none⟩,
  ⟨(some 38), (.mv (.t 37)), none⟩,
  ⟨(some 39), (.call 9 []), (some (38, true))⟩,
  ⟨(some 40), (.pick (.t 38) (.t 39) (.c (.bool false))), none⟩,
  ⟨(some 4), (.mv (.t 40)), none⟩]
def a5 : AFunc := ⟨[.tmp 4], (.seq (.ops a5_0) (.seq (.ops a5_1) (.seq (.ops a5_2) (.seq (.ops a5_3) .ret))))⟩
/-! ### 6: heddle/frame.Frame (40 slots) -/
def a6_0 : List AOper := [
  ⟨(some 4), (.mv (.c .nils)), none⟩,
  ⟨(some 5), (.mv (.c .nili)), none⟩]
def a6_1 : List AOper := [
  ⟨(some 9), (.mv (.t 0)), none⟩,
  ⟨(some 10), (.call 22 [(.t 9)]), none⟩,
  ⟨(some 11), (.bin .eql (.t 10) (.c (.int .i64 0))), none⟩,
  ⟨(some 8), (.mv (.t 11)), none⟩]
def a6_2 : List AOper := [
  ⟨(some 12), (.call 23 [(.c (.int .i64 0)), (.c (.int .i64 1))]), none⟩,
  ⟨(some 4), (.mv (.c .nils)), none⟩,
  ⟨(some 5), (.mv (.t 12)), none⟩]
def a6_3 : List AOper := [
  ⟨(some 14), (.mv (.t 1)), none⟩,
  ⟨(some 15), (.len false (.t 14)), none⟩,
  ⟨(some 16), (.mv (.t 0)), none⟩,
  ⟨(some 17), (.call 22 [(.t 16)]), none⟩,
  ⟨(some 18), (.bin .gtr (.t 15) (.t 17)), none⟩,
  ⟨(some 13), (.mv (.t 18)), none⟩]
def a6_4 : List AOper := [
  ⟨(some 19), (.call 23 [(.c (.int .i64 0)), (.c (.int .i64 4))]), none⟩,
  ⟨(some 4), (.mv (.c .nils)), none⟩,
  ⟨(some 5), (.mv (.t 19)), none⟩]
def a6_5 : List AOper := [
  ⟨(some 20), (.mv (.t 1)), none⟩,
  ⟨(some 21), (.len false (.t 20)), none⟩,
  ⟨(some 6), (.mv (.t 21)), none⟩]
def a6_6 : List AOper := [
  ⟨(some 22), (.mv (.t 6)), none⟩,
  ⟨(some 23), (.bin .shr (.t 22) (.c (.int .u64 24))), none⟩,
  ⟨(some 24), (.conv (.int .u8) (.t 23)), none⟩,
  ⟨(some 25), (.mv (.t 6)), none⟩,
  ⟨(some 26), (.bin .shr (.t 25) (.c (.int .u64 16))), none⟩,
  ⟨(some 27), (.conv (.int .u8) (.t 26)), none⟩,
  ⟨(some 28), (.mv (.t 6)), none⟩,
  ⟨(some 29), (.bin .shr (.t 28) (.c (.int .u64 8))), none⟩,
  ⟨(some 30), (.conv (.int .u8) (.t 29)), none⟩,
  ⟨(some 31), (.mv (.t 6)), none⟩,
  ⟨(some 32), (.conv (.int .u8) (.t 31)), none⟩,
  ⟨(some 33), (.lit true 1 4 [(.int .u8 0), (.int .u8 0), (.int .u8 0), (.int .u8 0)] [(0, 1, (.t 24)), (1, 1, (.t 27)), (2, 1, (.t 30)), (3, 1, (.t 32))]), none⟩,
  ⟨(some 7), (.mv (.t 33)), none⟩]
def a6_7 : List AOper := [
  ⟨(some 34), (.mv (.t 7)), none⟩,
  ⟨(some 35), (.mv (.t 0)), none⟩,
  ⟨(some 36), (.bin .sub (.c (.int .i64 4)) (.t 35)), none⟩,
  ⟨(some 37), (.slice 1 (.t 34) (some (.t 36)) (some (.c (.int .i64 4))) (some (.c (.int .i64 4)))), none⟩,
  ⟨(some 38), (.mv (.t 1)), none⟩,
  ⟨(some 39), (.append 1 1 (.t 37) (.t 38)), none⟩,
  ⟨(some 4), (.mv (.t 39)), none⟩,
  ⟨(some 5), (.mv (.c .nili)), none⟩]
def a6 : AFunc := ⟨[.tmp 4, .tmp 5], (.seq (.ops a6_0) (.seq (.block 0 (.seq (.ops a6_1) (.cond (.t 8) (.seq (.ops a6_2) .ret) (.seq (.ops a6_3) (.cond (.t 13) (.seq (.ops a6_4) .ret) .skip))))) (.seq (.ops a6_5) (.seq (.ops a6_6) (.seq (.ops a6_7) .ret)))))⟩
/-! ### 7: heddle/heddleref06.Frame (42 slots) -/
def a7_0 : List AOper := [
  ⟨(some 4), (.mv (.c .nils)), none⟩,
  ⟨(some 5), (.mv (.c .nils)), none⟩]
def a7_1 : List AOper := [
  ⟨(some 9), (.mv (.t 0)), none⟩,
  ⟨(some 10), (.call 24 [(.t 9)]), none⟩,
  ⟨(some 6), (.mv (.t 10)), none⟩]
def a7_2 : List AOper := [
  ⟨(some 11), (.mv (.t 6)), none⟩,
  ⟨(some 12), (.bin .lss (.t 11) (.c (.int .i64 0))), none⟩]
def a7_3 : List AOper := [
  ⟨(some 13), (.call 25 [(.c (.int .i64 0)), (.c (.int .i64 1))]), none⟩,
  ⟨(some 4), (.mv (.c .nils)), none⟩,
  ⟨(some 5), (.mv (.t 13)), none⟩]
def a7_4 : List AOper := [
  ⟨(some 14), (.mv (.t 1)), none⟩,
  ⟨(some 15), (.len false (.t 14)), none⟩,
  ⟨(some 7), (.mv (.t 15)), none⟩]
def a7_5 : List AOper := [
  ⟨(some 16), (.mv (.t 7)), none⟩,
  ⟨(some 17), (.mv (.t 6)), none⟩,
  ⟨(some 18), (.bin .gtr (.t 16) (.t 17)), none⟩]
def a7_6 : List AOper := [
  ⟨(some 19), (.call 25 [(.c (.int .i64 0)), (.c (.int .i64 4))]), none⟩,
  ⟨(some 4), (.mv (.c .nils)), none⟩,
  ⟨(some 5), (.mv (.t 19)), none⟩]
def a7_7 : List AOper := [
  ⟨(some 8), (.mv (.c .nils)), none⟩]
def a7_8 : List AOper := [
  ⟨(some 20), (.mv (.t 0)), none⟩,
  ⟨(some 21), (.bin .eql (.t 20) (.c (.int .i64 4))), none⟩]
def a7_9 : List AOper := [
  ⟨(some 22), (.mv (.t 8)), none⟩,
  ⟨(some 23), (.mv (.t 7)), none⟩,
  ⟨(some 24), (.bin .shr (.t 23) (.c (.int .u64 24))), none⟩,
  ⟨(some 25), (.conv (.int .u8) (.t 24)), none⟩,
  ⟨(some 26), (.mv (.t 7)), none⟩,
  ⟨(some 27), (.bin .shr (.t 26) (.c (.int .u64 16))), none⟩,
  ⟨(some 28), (.conv (.int .u8) (.t 27)), none⟩,
  ⟨(some 29), (.lit true 1 2 [(.int .u8 0), (.int .u8 0)] [(0, 1, (.t 25)), (1, 1, (.t 28))]), none⟩,
  ⟨(some 30), (.append 1 1 (.t 22) (.t 29)), none⟩,
  ⟨(some 8), (.mv (.t 30)), none⟩]
def a7_10 : List AOper := [
  ⟨(some 31), (.mv (.t 8)), none⟩,
  ⟨(some 32), (.mv (.t 7)), none⟩,
  ⟨(some 33), (.bin .shr (.t 32) (.c (.int .u64 8))), none⟩,
  ⟨(some 34), (.conv (.int .u8) (.t 33)), none⟩,
  ⟨(some 35), (.mv (.t 7)), none⟩,
  ⟨(some 36), (.conv (.int .u8) (.t 35)), none⟩,
  ⟨(some 37), (.lit true 1 2 [(.int .u8 0), (.int .u8 0)] [(0, 1, (.t 34)), (1, 1, (.t 36))]), none⟩,
  ⟨(some 38), (.append 1 1 (.t 31) (.t 37)), none⟩,
  ⟨(some 8), (.mv (.t 38)), none⟩]
def a7_11 : List AOper := [
  ⟨(some 39), (.mv (.t 8)), none⟩,
  ⟨(some 40), (.mv (.t 1)), none⟩,
  ⟨(some 41), (.append 1 1 (.t 39) (.t 40)), none⟩,
  ⟨(some 4), (.mv (.t 41)), none⟩,
  ⟨(some 5), (.mv (.c .nils)), none⟩]
def a7 : AFunc := ⟨[.tmp 4, .tmp 5], (.seq (.ops a7_0) (.seq (.ops a7_1) (.seq (.seq (.ops a7_2) (.cond (.t 12) (.seq (.ops a7_3) .ret) .skip)) (.seq (.ops a7_4) (.seq (.seq (.ops a7_5) (.cond (.t 18) (.seq (.ops a7_6) .ret) .skip)) (.seq (.ops a7_7) (.seq (.seq (.ops a7_8) (.cond (.t 21) (.ops a7_9) .skip)) (.seq (.ops a7_10) (.seq (.ops a7_11) .ret)))))))))⟩
/-! ### 8: heddle/heddlemem.Refused (44 slots) -/
def a8_0 : List AOper := [
  ⟨(some 4), (.mv (.c (.bool false))), none⟩]
def a8_1 : List AOper := [
  ⟨(some 7), (.mv (.t 1)), none⟩,
  ⟨(some 8), (.len false (.t 7)), none⟩,
  ⟨(some 9), (.bin .eql (.t 8) (.c (.int .i64 0))), none⟩]
def a8_2 : List AOper := [
  ⟨(some 10), (.mv (.t 0)), none⟩,
  ⟨(some 11), (.eq false (.iface true) (.t 10) (.c .nili)), none⟩,
  ⟨(some 4), (.mv (.t 11)), none⟩]
def a8_3 : List AOper := [
  ⟨(some 12), (.mv (.t 0)), none⟩,
  ⟨(some 13), (.call 26 [(.t 12)]), none⟩,
  ⟨(some 5), (.mv (.t 13)), none⟩]
def a8_4 : List AOper := [
  ⟨(some 14), (.mv (.t 5)), none⟩,
  ⟨(some 15), (.len false (.t 14)), none⟩,
  ⟨(some 16), (.mv (.t 1)), none⟩,
  ⟨(some 17), (.len false (.t 16)), none⟩,
  ⟨(some 18), (.bin .neq (.t 15) (.t 17)), none⟩]
def a8_5 : List AOper := [
  ⟨(some 4), (.mv (.c (.bool false))), none⟩]
def a8_6 : List AOper := [
  ⟨(some 6), (.mv (.c (.int .i64 0))), none⟩]
def a8_7 : List AOper := [
  ⟨(some 19), (.mv (.t 6)), none⟩,
  ⟨(some 20), (.mv (.t 1)), none⟩,
  ⟨(some 21), (.len false (.t 20)), none⟩,
  ⟨(some 22), (.bin .lss (.t 19) (.t 21)), none⟩]
def a8_8 : List AOper := [
  ⟨(some 25), (.mv (.t 5)), none⟩,
  ⟨(some 26), (.mv (.t 6)), none⟩,
  ⟨(some 27), (.idxAddr 3 (.t 25) (.t 26)), none⟩,
  ⟨(some 28), (.load true 3 (.t 27)), none⟩,
  ⟨(some 29), (.mv (.t 1)), none⟩,
  ⟨(some 30), (.mv (.t 6)), none⟩,
  ⟨(some 31), (.idxAddr 3 (.t 29) (.t 30)), none⟩,
  ⟨(some 32), (.load true 3 (.t 31)), none⟩,
  ⟨(some 33), (.eq true (.struct [(0, 1, false, .str), (1, 1, false, .int), (2, 1, false, .int)]) (.t 28) (.t 32)), none⟩]
def a8_8b : List Nat := [0, 0, 3, 7, 0, 0, 48, 112, 255]
def a8_9 : List AOper := [
  ⟨(some 4), (.mv (.c (.bool false))), none⟩]
def a8_10 : List AOper := [
  ⟨(some 23), (.mv (.t 6)), none⟩,
  ⟨(some 24), (.bin .add (.t 23) (.c (.int .i64 1))), none⟩,
  ⟨(some 6), (.mv (.t 24)), none⟩]
def a8_l11 : AC := (.seq (.seq (.ops a8_7) (.cond (.t 22) .skip (.exit 0))) (.seq (.block 1 (.seq (.draw a8_8 a8_8b) (.cond (.t 33) (.seq (.ops a8_9) .ret) .skip))) (.ops a8_10)))
def a8_12 : List AOper := [
  ⟨(some 34), (.mv (.t 0)), none⟩,
  ⟨(some 35), (.mv (.t 1)), none⟩,
  ⟨(some 36), (.mv (.t 1)), none⟩,
  ⟨(some 37), (.len false (.t 36)), none⟩,
  ⟨(some 38), (.bin .sub (.t 37) (.c (.int .i64 1))), none⟩,
  ⟨(some 39), (.idxAddr 3 (.t 35) (.t 38)), none⟩,
  ⟨(some 40), (.fieldAddr 2 (.t 39)), none⟩,
  ⟨(some 41), (.load false 1 (.t 40)), none⟩,
  ⟨(some 42), (.mkIface 64 (.t 41)), none⟩,
  ⟨(some 43), (.call 27 [(.t 34), (.t 42)]), none⟩,
  ⟨(some 4), (.mv (.t 43)), none⟩]
def a8 : AFunc := ⟨[.tmp 4], (.seq (.ops a8_0) (.seq (.seq (.ops a8_1) (.cond (.t 9) (.seq (.ops a8_2) .ret) .skip)) (.seq (.ops a8_3) (.seq (.seq (.ops a8_4) (.cond (.t 18) (.seq (.ops a8_5) .ret) .skip)) (.seq (.seq (.ops a8_6) (.block 0 (.loop a8_l11))) (.seq (.ops a8_12) .ret))))))⟩
/-! ### 9: heddle/heddlelaw06.awake (72 slots) -/
def a9_0 : List AOper := [
  ⟨(some 0), (.mv (.c (.bool false))), none⟩]
def a9_1 : List AOper := [
  ⟨(some 12), (.lit false 1 2 [(.int .u8 0), (.int .u8 0)] [(0, 1, (.c (.int .u8 97))), (1, 1, (.c (.int .u8 98)))]), none⟩,
  ⟨(some 13), (.conv .b2b (.t 12)), none⟩,
  ⟨(some 14), (.call 6 [(.c (.int .i64 2)), (.t 13)]), none⟩,
  ⟨(some 11), (.mv (.t 14)), none⟩,
  ⟨(some 15), (.extract (.t 11) 0), none⟩,
  ⟨(some 16), (.extract (.t 11) 1), none⟩,
  ⟨(some 1), (.mv (.t 15)), none⟩,
  ⟨(some 2), (.mv (.t 16)), none⟩]
def a9_2 : List AOper := [
  ⟨(some 18), (.call 10 [(.c (.int .i64 2))]), none⟩,
  ⟨(some 17), (.mv (.t 18)), none⟩,
  ⟨(some 19), (.extract (.t 17) 0), none⟩,
  ⟨(some 20), (.extract (.t 17) 1), none⟩,
  ⟨(some 3), (.mv (.t 19)), none⟩,
  ⟨(some 4), (.mv (.t 20)), none⟩]
def a9_3 : List AOper := [
  ⟨(some 21), (.mv (.t 2)), none⟩,
  ⟨(some 22), (.eq true (.iface true) (.t 21) (.c .nili)), none⟩,
  ⟨(some 23), (.mv (.t 22)), none⟩,
  ⟨(some 24), (.mv (.t 4)), (some (23, false))⟩,
  ⟨(some 25), (.eq true (.iface true) (.t 24) (.c .nili)), (some (23, false))⟩,
  ⟨(some 26), (.pick (.t 23) (.c (.bool true)) (.t 25)), none⟩,
  ⟨(some 27), (.mv (.t 26)), none⟩,
  ⟨(some 28), (.mv (.t 3)), (some (27, false))⟩,
  ⟨(some 29), (.eq false .ptr (.t 28) (.c .nilp)), (some (27, false))⟩,
  ⟨(some 30), (.pick (.t 27) (.c (.bool true)) (.t 29)), none⟩,
  ⟨(some 31), (.mv (.t 30)), none⟩,
  ⟨(some 32), (.mv (.t 1)), (some (31, false))⟩,
  ⟨(some 33), (.conv .b2s (.t 32)), (some (31, false))⟩,
  ⟨(some 34), (.bin .neq (.t 33) (.c (.str [0, 2, 97, 98]))), (some (31, false))⟩,
  ⟨(some 35), (.pick (.t 31) (.c (.bool true)) (.t 34)), none⟩]
def a9_4 : List AOper := [
  ⟨(some 0), (.mv (.c (.bool false))), none⟩]
def a9_5 : List AOper := [
  ⟨(some 36), (.mv (.t 3)), none⟩,
  ⟨(some 37), (.mv (.t 1)), none⟩,
  ⟨(some 38), (.slice 1 (.t 37) none (some (.c (.int .i64 3))) none), none⟩,
  ⟨(some 39), (.call 12 [(.t 36), (.t 38)]), none⟩]
def a9_6 : List AOper := [
  ⟨(some 41), (.mv (.t 3)), none⟩,
  ⟨(some 42), (.call 14 [(.t 41)]), none⟩,
  ⟨(some 40), (.mv (.t 42)), none⟩,
  ⟨(some 43), (.extract (.t 40) 0), none⟩,
  ⟨(some 44), (.extract (.t 40) 1), none⟩,
  ⟨(some 45), (.extract (.t 40) 2), none⟩,
  ⟨(some 5), (.mv (.t 43)), none⟩,
  ⟨(some 6), (.mv (.t 44)), none⟩,
  ⟨(some 7), (.mv (.t 45)), none⟩]
def a9_7 : List AOper := [
  ⟨(some 46), (.mv (.t 3)), none⟩,
  ⟨(some 47), (.mv (.t 1)), none⟩,
  ⟨(some 48), (.slice 1 (.t 47) (some (.c (.int .i64 3))) none none), none⟩,
  ⟨(some 49), (.call 12 [(.t 46), (.t 48)]), none⟩]
def a9_8 : List AOper := [
  ⟨(some 51), (.mv (.t 3)), none⟩,
  ⟨(some 52), (.call 14 [(.t 51)]), none⟩,
  ⟨(some 50), (.mv (.t 52)), none⟩,
  ⟨(some 53), (.extract (.t 50) 0), none⟩,
  ⟨(some 54), (.extract (.t 50) 1), none⟩,
  ⟨(some 55), (.extract (.t 50) 2), none⟩,
  ⟨(some 8), (.mv (.t 53)), none⟩,
  ⟨(some 9), (.mv (.t 54)), none⟩,
  ⟨(some 10), (.mv (.t 55)), none⟩]
def a9_9 : List AOper := [
  ⟨(some 56), (.mv (.t 6)), none⟩,
  ⟨(some 57), (.un .not (.t 56)), none⟩,
  ⟨(some 58), (.mv (.t 57)), none⟩,
  ⟨(some 59), (.mv (.t 9)), (some (58, true))⟩,
  ⟨(some 60), (.pick (.t 58) (.t 59) (.c (.bool false))), none⟩,
  ⟨(some 61), (.mv (.t 60)), none⟩,
  ⟨(some 62), (.mv (.t 8)), (some (61, true))⟩,
  ⟨(some 63), (.conv .b2s (.t 62)), (some (61, true))⟩,
  ⟨(some 64), (.bin .eql (.t 63) (.c (.str [97, 98]))), (some (61, true))⟩,
  ⟨(some 65), (.pick (.t 61) (.t 64) (.c (.bool false))), none⟩,
  ⟨(some 66), (.mv (.t 65)), none⟩,
  ⟨(some 67), (.mv (.t 3)), (some (66, true))⟩,
  ⟨(some 68), (.call 18 [(.t 67)]), (some (66, true))⟩,
  ⟨(some 69), (.field false 1 2 (.t 68)), (some (66, true))⟩,
  ⟨(some 70), (.bin .eql (.t 69) (.c (.int .i64 1))), (some (66, true))⟩,
  ⟨(some 71), (.pick (.t 66) (.t 70) (.c (.bool false))), none⟩,
  ⟨(some 0), (.mv (.t 71)), none⟩]
def a9 : AFunc := ⟨[.tmp 0], (.seq (.ops a9_0) (.seq (.ops a9_1) (.seq (.ops a9_2) (.seq (.seq (.ops a9_3) (.cond (.t 35) (.seq (.ops a9_4) .ret) .skip)) (.seq (.ops a9_5) (.seq (.ops a9_6) (.seq (.ops a9_7) (.seq (.ops a9_8) (.seq (.ops a9_9) .ret)))))))))⟩
/-! ### 10: heddle/frame.New (12 slots) -/
def a10_0 : List AOper := [
  ⟨(some 2), (.mv (.c .nilp)), none⟩,
  ⟨(some 3), (.mv (.c .nili)), none⟩]
def a10_1 : List AOper := [
  ⟨(some 4), (.mv (.t 0)), none⟩,
  ⟨(some 5), (.call 22 [(.t 4)]), none⟩,
  ⟨(some 6), (.bin .eql (.t 5) (.c (.int .i64 0))), none⟩]
def a10_2 : List AOper := [
  ⟨(some 7), (.call 23 [(.c (.int .i64 0)), (.c (.int .i64 1))]), none⟩,
  ⟨(some 2), (.mv (.c .nilp)), none⟩,
  ⟨(some 3), (.mv (.t 7)), none⟩]
def a10_3 : List AOper := [
  ⟨(some 8), (.mv (.t 0)), none⟩,
  ⟨(some 9), (.build [(.int .i64 0), (.int .i64 0), (.int .i64 0), (.int .i64 0), (.int .i64 0), (.bool false)] [(0, 1, (.t 8))]), none⟩,
  ⟨(some 10), (.build [(.int .i64 0), (.int .i64 0), (.int .i64 0), (.int .i64 0), (.int .i64 0), (.bool false), .nils] [(0, 6, (.t 9))]), none⟩,
  ⟨(some 11), (.box false 7 (.t 10)), none⟩,
  ⟨(some 2), (.mv (.t 11)), none⟩,
  ⟨(some 3), (.mv (.c .nili)), none⟩]
def a10 : AFunc := ⟨[.tmp 2, .tmp 3], (.seq (.ops a10_0) (.seq (.seq (.ops a10_1) (.cond (.t 6) (.seq (.ops a10_2) .ret) .skip)) (.seq (.ops a10_3) .ret)))⟩
/-! ### 11: heddle/heddleref06.New (12 slots) -/
def a11_0 : List AOper := [
  ⟨(some 2), (.mv (.c .nilp)), none⟩,
  ⟨(some 3), (.mv (.c .nils)), none⟩]
def a11_1 : List AOper := [
  ⟨(some 4), (.mv (.t 0)), none⟩,
  ⟨(some 5), (.call 24 [(.t 4)]), none⟩,
  ⟨(some 6), (.bin .lss (.t 5) (.c (.int .i64 0))), none⟩]
def a11_2 : List AOper := [
  ⟨(some 7), (.call 25 [(.c (.int .i64 0)), (.c (.int .i64 1))]), none⟩,
  ⟨(some 2), (.mv (.c .nilp)), none⟩,
  ⟨(some 3), (.mv (.t 7)), none⟩]
def a11_3 : List AOper := [
  ⟨(some 8), (.mv (.t 0)), none⟩,
  ⟨(some 9), (.build [(.int .i64 0), (.int .i64 0), (.int .i64 0), (.int .i64 0), (.int .i64 0), (.bool false)] [(0, 1, (.t 8))]), none⟩,
  ⟨(some 10), (.build [(.int .i64 0), (.int .i64 0), (.int .i64 0), (.int .i64 0), (.int .i64 0), (.bool false), .nils] [(0, 6, (.t 9))]), none⟩,
  ⟨(some 11), (.box false 7 (.t 10)), none⟩,
  ⟨(some 2), (.mv (.t 11)), none⟩,
  ⟨(some 3), (.mv (.c .nils)), none⟩]
def a11 : AFunc := ⟨[.tmp 2, .tmp 3], (.seq (.ops a11_0) (.seq (.seq (.ops a11_1) (.cond (.t 6) (.seq (.ops a11_2) .ret) .skip)) (.seq (.ops a11_3) .ret)))⟩
/-! ### 12: (*heddle/frame.Reader).Feed (39 slots) -/
def a12_0 : List AOper := [
  ⟨(some 4), (.mv (.c .nili)), none⟩]
def a12_1 : List AOper := [
  ⟨(some 6), (.mv (.t 0)), none⟩,
  ⟨(some 7), (.call 28 [(.t 6)]), none⟩,
  ⟨(some 5), (.mv (.t 7)), none⟩]
def a12_2 : List AOper := [
  ⟨(some 8), (.mv (.t 5)), none⟩,
  ⟨(some 9), (.eq true (.iface true) (.t 8) (.c .nili)), none⟩]
def a12_3 : List AOper := [
  ⟨(some 10), (.mv (.t 5)), none⟩,
  ⟨(some 4), (.mv (.t 10)), none⟩]
def a12_4 : List AOper := [
  ⟨(some 11), (.mv (.t 0)), none⟩,
  ⟨(some 12), (.nilCheck (.t 11)), none⟩,
  ⟨(some 13), (.fieldAddr 6 (.t 12)), none⟩,
  ⟨(some 14), (.load false 1 (.t 13)), none⟩,
  ⟨(some 15), (.len false (.t 14)), none⟩,
  ⟨(some 16), (.mv (.t 1)), none⟩,
  ⟨(some 17), (.len false (.t 16)), none⟩,
  ⟨(some 18), (.bin .add (.t 15) (.t 17)), none⟩,
  ⟨(some 19), (.bin .gtr (.t 18) (.c (.int .i64 16777216))), none⟩]
def a12_5 : List AOper := [
  ⟨(some 20), (.call 23 [(.c (.int .i64 0)), (.c (.int .i64 4))]), none⟩,
  ⟨(some 4), (.mv (.t 20)), none⟩]
def a12_6 : List AOper := [
  ⟨(some 21), (.mv (.t 0)), none⟩,
  ⟨(some 22), (.mv (.t 0)), none⟩,
  ⟨(some 23), (.nilCheck (.t 22)), none⟩,
  ⟨(some 24), (.fieldAddr 6 (.t 23)), none⟩,
  ⟨(some 25), (.load false 1 (.t 24)), none⟩,
  ⟨(some 26), (.mv (.t 1)), none⟩,
  ⟨(some 27), (.append 1 1 (.t 25) (.t 26)), none⟩,
  ⟨(some 28), (.nilCheck (.t 21)), none⟩,
  ⟨(some 29), (.fieldAddr 6 (.t 28)), none⟩,
  ⟨none, (.store 1 (.t 29) (.t 27)), none⟩]
def a12_7 : List AOper := [
  ⟨(some 30), (.mv (.t 0)), none⟩,
  ⟨(some 31), (.mv (.t 0)), none⟩,
  ⟨(some 32), (.nilCheck (.t 31)), none⟩,
  ⟨(some 33), (.fieldAddr 6 (.t 32)), none⟩,
  ⟨(some 34), (.load false 1 (.t 33)), none⟩,
  ⟨(some 35), (.len false (.t 34)), none⟩,
  ⟨(some 36), (.nilCheck (.t 30)), none⟩,
  ⟨(some 37), (.fieldAddr 0 (.t 36)), none⟩,
  ⟨(some 38), (.fieldAddr 1 (.t 37)), none⟩,
  ⟨none, (.store 1 (.t 38) (.t 35)), none⟩]
def a12_8 : List AOper := [
  ⟨(some 4), (.mv (.c .nili)), none⟩]
def a12 : AFunc := ⟨[.tmp 4], (.seq (.ops a12_0) (.seq (.seq (.ops a12_1) (.seq (.ops a12_2) (.cond (.t 9) (.seq (.ops a12_3) .ret) .skip))) (.seq (.seq (.ops a12_4) (.cond (.t 19) (.seq (.ops a12_5) .ret) .skip)) (.seq (.ops a12_6) (.seq (.ops a12_7) (.seq (.ops a12_8) .ret))))))⟩
/-! ### 13: (*heddle/heddleref06.Reader).Feed (46 slots) -/
def a13_0 : List AOper := [
  ⟨(some 4), (.mv (.c .nils)), none⟩]
def a13_1 : List AOper := [
  ⟨(some 5), (.mv (.t 0)), none⟩,
  ⟨(some 6), (.nilCheck (.t 5)), none⟩,
  ⟨(some 7), (.fieldAddr 0 (.t 6)), none⟩,
  ⟨(some 8), (.fieldAddr 5 (.t 7)), none⟩,
  ⟨(some 9), (.load false 1 (.t 8)), none⟩]
def a13_2 : List AOper := [
  ⟨(some 10), (.mv (.t 0)), none⟩,
  ⟨(some 11), (.nilCheck (.t 10)), none⟩,
  ⟨(some 12), (.fieldAddr 0 (.t 11)), none⟩,
  ⟨(some 13), (.fieldAddr 4 (.t 12)), none⟩,
  ⟨(some 14), (.load false 1 (.t 13)), none⟩,
  ⟨(some 15), (.call 25 [(.t 14), (.c (.int .i64 120))]), none⟩,
  ⟨(some 4), (.mv (.t 15)), none⟩]
def a13_3 : List AOper := [
  ⟨(some 16), (.mv (.t 0)), none⟩,
  ⟨(some 17), (.nilCheck (.t 16)), none⟩,
  ⟨(some 18), (.fieldAddr 6 (.t 17)), none⟩,
  ⟨(some 19), (.load false 1 (.t 18)), none⟩,
  ⟨(some 20), (.len false (.t 19)), none⟩,
  ⟨(some 21), (.mv (.t 1)), none⟩,
  ⟨(some 22), (.len false (.t 21)), none⟩,
  ⟨(some 23), (.bin .add (.t 20) (.t 22)), none⟩,
  ⟨(some 24), (.bin .gtr (.t 23) (.c (.int .i64 16777216))), none⟩]
def a13_4 : List AOper := [
  ⟨(some 25), (.call 25 [(.c (.int .i64 0)), (.c (.int .i64 4))]), none⟩,
  ⟨(some 4), (.mv (.t 25)), none⟩]
def a13_5 : List AOper := [
  ⟨(some 26), (.mv (.t 0)), none⟩,
  ⟨(some 27), (.lit true 1 0 [] []), none⟩,
  ⟨(some 28), (.mv (.t 0)), none⟩,
  ⟨(some 29), (.nilCheck (.t 28)), none⟩,
  ⟨(some 30), (.fieldAddr 6 (.t 29)), none⟩,
  ⟨(some 31), (.load false 1 (.t 30)), none⟩,
  ⟨(some 32), (.append 1 1 (.t 27) (.t 31)), none⟩,
  ⟨(some 33), (.mv (.t 1)), none⟩,
  ⟨(some 34), (.append 1 1 (.t 32) (.t 33)), none⟩,
  ⟨(some 35), (.nilCheck (.t 26)), none⟩,
  ⟨(some 36), (.fieldAddr 6 (.t 35)), none⟩,
  ⟨none, (.store 1 (.t 36) (.t 34)), none⟩]
def a13_6 : List AOper := [
  ⟨(some 37), (.mv (.t 0)), none⟩,
  ⟨(some 38), (.mv (.t 0)), none⟩,
  ⟨(some 39), (.nilCheck (.t 38)), none⟩,
  ⟨(some 40), (.fieldAddr 6 (.t 39)), none⟩,
  ⟨(some 41), (.load false 1 (.t 40)), none⟩,
  ⟨(some 42), (.len false (.t 41)), none⟩,
  ⟨(some 43), (.nilCheck (.t 37)), none⟩,
  ⟨(some 44), (.fieldAddr 0 (.t 43)), none⟩,
  ⟨(some 45), (.fieldAddr 1 (.t 44)), none⟩,
  ⟨none, (.store 1 (.t 45) (.t 42)), none⟩]
def a13_7 : List AOper := [
  ⟨(some 4), (.mv (.c .nils)), none⟩]
def a13 : AFunc := ⟨[.tmp 4], (.seq (.ops a13_0) (.seq (.seq (.ops a13_1) (.cond (.t 9) (.seq (.ops a13_2) .ret) .skip)) (.seq (.seq (.ops a13_3) (.cond (.t 24) (.seq (.ops a13_4) .ret) .skip)) (.seq (.ops a13_5) (.seq (.ops a13_6) (.seq (.ops a13_7) .ret))))))⟩
/-! ### 14: (*heddle/frame.Reader).Next (128 slots) -/
def a14_0 : List AOper := [
  ⟨(some 2), (.mv (.c .nils)), none⟩,
  ⟨(some 3), (.mv (.c (.bool false))), none⟩,
  ⟨(some 4), (.mv (.c .nili)), none⟩]
def a14_1 : List AOper := [
  ⟨(some 9), (.mv (.t 0)), none⟩,
  ⟨(some 10), (.call 28 [(.t 9)]), none⟩,
  ⟨(some 5), (.mv (.t 10)), none⟩]
def a14_2 : List AOper := [
  ⟨(some 11), (.mv (.t 5)), none⟩,
  ⟨(some 12), (.eq true (.iface true) (.t 11) (.c .nili)), none⟩]
def a14_3 : List AOper := [
  ⟨(some 13), (.mv (.t 5)), none⟩,
  ⟨(some 2), (.mv (.c .nils)), none⟩,
  ⟨(some 3), (.mv (.c (.bool false))), none⟩,
  ⟨(some 4), (.mv (.t 13)), none⟩]
def a14_4 : List AOper := [
  ⟨(some 14), (.mv (.t 0)), none⟩,
  ⟨(some 15), (.nilCheck (.t 14)), none⟩,
  ⟨(some 16), (.fieldAddr 0 (.t 15)), none⟩,
  ⟨(some 17), (.fieldAddr 0 (.t 16)), none⟩,
  ⟨(some 18), (.load false 1 (.t 17)), none⟩,
  ⟨(some 6), (.mv (.t 18)), none⟩]
def a14_5 : List AOper := [
  ⟨(some 19), (.mv (.t 0)), none⟩,
  ⟨(some 20), (.nilCheck (.t 19)), none⟩,
  ⟨(some 21), (.fieldAddr 6 (.t 20)), none⟩,
  ⟨(some 22), (.load false 1 (.t 21)), none⟩,
  ⟨(some 23), (.len false (.t 22)), none⟩,
  ⟨(some 24), (.mv (.t 6)), none⟩,
  ⟨(some 25), (.bin .lss (.t 23) (.t 24)), none⟩]
def a14_6 : List AOper := [
  ⟨(some 2), (.mv (.c .nils)), none⟩,
  ⟨(some 3), (.mv (.c (.bool false))), none⟩,
  ⟨(some 4), (.mv (.c .nili)), none⟩]
def a14_7 : List AOper := [
  ⟨(some 26), (.mv (.t 6)), none⟩,
  ⟨(some 27), (.mv (.t 0)), none⟩,
  ⟨(some 28), (.nilCheck (.t 27)), none⟩,
  ⟨(some 29), (.fieldAddr 6 (.t 28)), none⟩,
  ⟨(some 30), (.load false 1 (.t 29)), none⟩,
  ⟨(some 31), (.call 29 [(.t 26), (.t 30)]), none⟩,
  ⟨(some 7), (.mv (.t 31)), none⟩]
def a14_8 : List AOper := [
  ⟨(some 32), (.mv (.t 7)), none⟩,
  ⟨(some 33), (.mv (.t 6)), none⟩,
  ⟨(some 34), (.call 22 [(.t 33)]), none⟩,
  ⟨(some 35), (.bin .gtr (.t 32) (.t 34)), none⟩]
def a14_9 : List AOper := [
  ⟨(some 36), (.mv (.t 0)), none⟩,
  ⟨(some 37), (.nilCheck (.t 36)), none⟩,
  ⟨(some 38), (.fieldAddr 0 (.t 37)), none⟩,
  ⟨(some 39), (.fieldAddr 5 (.t 38)), none⟩,
  ⟨none, (.store 1 (.t 39) (.c (.bool true))), none⟩]
def a14_10 : List AOper := [
  ⟨(some 40), (.mv (.t 0)), none⟩,
  ⟨(some 41), (.nilCheck (.t 40)), none⟩,
  ⟨(some 42), (.fieldAddr 0 (.t 41)), none⟩,
  ⟨(some 43), (.fieldAddr 4 (.t 42)), none⟩,
  ⟨(some 44), (.load false 1 (.t 43)), none⟩,
  ⟨(some 45), (.call 23 [(.t 44), (.c (.int .i64 120))]), none⟩,
  ⟨(some 2), (.mv (.c .nils)), none⟩,
  ⟨(some 3), (.mv (.c (.bool false))), none⟩,
  ⟨(some 4), (.mv (.t 45)), none⟩]
def a14_11 : List AOper := [
  ⟨(some 46), (.mv (.t 0)), none⟩,
  ⟨(some 47), (.nilCheck (.t 46)), none⟩,
  ⟨(some 48), (.fieldAddr 6 (.t 47)), none⟩,
  ⟨(some 49), (.load false 1 (.t 48)), none⟩,
  ⟨(some 50), (.len false (.t 49)), none⟩,
  ⟨(some 51), (.mv (.t 6)), none⟩,
  ⟨(some 52), (.bin .sub (.t 50) (.t 51)), none⟩,
  ⟨(some 53), (.mv (.t 7)), none⟩,
  ⟨(some 54), (.bin .lss (.t 52) (.t 53)), none⟩]
def a14_12 : List AOper := [
  ⟨(some 2), (.mv (.c .nils)), none⟩,
  ⟨(some 3), (.mv (.c (.bool false))), none⟩,
  ⟨(some 4), (.mv (.c .nili)), none⟩]
def a14_13 : List AOper := [
  ⟨(some 55), (.lit true 1 0 [] []), none⟩,
  ⟨(some 56), (.mv (.t 0)), none⟩,
  ⟨(some 57), (.nilCheck (.t 56)), none⟩,
  ⟨(some 58), (.fieldAddr 6 (.t 57)), none⟩,
  ⟨(some 59), (.load false 1 (.t 58)), none⟩,
  ⟨(some 60), (.mv (.t 6)), none⟩,
  ⟨(some 61), (.mv (.t 6)), none⟩,
  ⟨(some 62), (.mv (.t 7)), none⟩,
  ⟨(some 63), (.bin .add (.t 61) (.t 62)), none⟩,
  ⟨(some 64), (.mv (.t 6)), none⟩,
  ⟨(some 65), (.mv (.t 7)), none⟩,
  ⟨(some 66), (.bin .add (.t 64) (.t 65)), none⟩,
  ⟨(some 67), (.slice 1 (.t 59) (some (.t 60)) (some (.t 63)) (some (.t 66))), none⟩,
  ⟨(some 68), (.append 1 1 (.t 55) (.t 67)), none⟩,
  ⟨(some 8), (.mv (.t 68)), none⟩]
def a14_14 : List AOper := [
  ⟨(some 69), (.mv (.t 0)), none⟩,
  ⟨(some 70), (.lit true 1 0 [] []), none⟩,
  ⟨(some 71), (.mv (.t 0)), none⟩,
  ⟨(some 72), (.nilCheck (.t 71)), none⟩,
  ⟨(some 73), (.fieldAddr 6 (.t 72)), none⟩,
  ⟨(some 74), (.load false 1 (.t 73)), none⟩,
  ⟨(some 75), (.mv (.t 6)), none⟩,
  ⟨(some 76), (.mv (.t 7)), none⟩,
  ⟨(some 77), (.bin .add (.t 75) (.t 76)), none⟩,
  ⟨(some 78), (.slice 1 (.t 74) (some (.t 77)) none none), none⟩,
  ⟨(some 79), (.append 1 1 (.t 70) (.t 78)), none⟩,
  ⟨(some 80), (.nilCheck (.t 69)), none⟩,
  ⟨(some 81), (.fieldAddr 6 (.t 80)), none⟩,
  ⟨none, (.store 1 (.t 81) (.t 79)), none⟩]
def a14_15 : List AOper := [
  ⟨(some 82), (.mv (.t 0)), none⟩,
  ⟨(some 83), (.mv (.t 0)), none⟩,
  ⟨(some 84), (.nilCheck (.t 83)), none⟩,
  ⟨(some 85), (.fieldAddr 6 (.t 84)), none⟩,
  ⟨(some 86), (.load false 1 (.t 85)), none⟩,
  ⟨(some 87), (.len false (.t 86)), none⟩,
  ⟨(some 88), (.nilCheck (.t 82)), none⟩,
  ⟨(some 89), (.fieldAddr 0 (.t 88)), none⟩,
  ⟨(some 90), (.fieldAddr 1 (.t 89)), none⟩,
  ⟨none, (.store 1 (.t 90) (.t 87)), none⟩]
def a14_16 : List AOper := [
  ⟨(some 91), (.mv (.t 0)), none⟩,
  ⟨(some 92), (.nilCheck (.t 91)), none⟩,
  ⟨(some 93), (.fieldAddr 0 (.t 92)), none⟩,
  ⟨(some 94), (.fieldAddr 2 (.t 93)), none⟩,
  ⟨(some 95), (.load false 1 (.t 94)), none⟩,
  ⟨(some 96), (.bin .add (.t 95) (.c (.int .i64 1))), none⟩,
  ⟨(some 97), (.nilCheck (.t 91)), none⟩,
  ⟨(some 98), (.fieldAddr 0 (.t 97)), none⟩,
  ⟨(some 99), (.fieldAddr 2 (.t 98)), none⟩,
  ⟨none, (.store 1 (.t 99) (.t 96)), none⟩]
def a14_17 : List AOper := [
  ⟨(some 100), (.mv (.t 0)), none⟩,
  ⟨(some 101), (.nilCheck (.t 100)), none⟩,
  ⟨(some 102), (.fieldAddr 0 (.t 101)), none⟩,
  ⟨(some 103), (.fieldAddr 4 (.t 102)), none⟩,
  ⟨(some 104), (.load false 1 (.t 103)), none⟩,
  ⟨(some 105), (.mv (.t 6)), none⟩,
  ⟨(some 106), (.mv (.t 7)), none⟩,
  ⟨(some 107), (.bin .add (.t 105) (.t 106)), none⟩,
  ⟨(some 108), (.bin .add (.t 104) (.t 107)), none⟩,
  ⟨(some 109), (.nilCheck (.t 100)), none⟩,
  ⟨(some 110), (.fieldAddr 0 (.t 109)), none⟩,
  ⟨(some 111), (.fieldAddr 4 (.t 110)), none⟩,
  ⟨none, (.store 1 (.t 111) (.t 108)), none⟩]
def a14_18 : List AOper := [
  ⟨(some 112), (.mv (.t 6)), none⟩,
  ⟨(some 113), (.bin .eql (.t 112) (.c (.int .i64 4))), none⟩,
  ⟨(some 114), (.mv (.t 113)), none⟩,
  ⟨(some 115), (.mv (.t 7)), (some (114, true))⟩,
  ⟨(some 116), (.bin .eql (.t 115) (.c (.int .i64 0))), (some (114, true))⟩,
  ⟨(some 117), (.pick (.t 114) (.t 116) (.c (.bool false))), none⟩]
def a14_19 : List AOper := [
  ⟨(some 118), (.mv (.t 0)), none⟩,
  ⟨(some 119), (.nilCheck (.t 118)), none⟩,
  ⟨(some 120), (.fieldAddr 0 (.t 119)), none⟩,
  ⟨(some 121), (.fieldAddr 3 (.t 120)), none⟩,
  ⟨(some 122), (.load false 1 (.t 121)), none⟩,
  ⟨(some 123), (.bin .add (.t 122) (.c (.int .i64 1))), none⟩,
  ⟨(some 124), (.nilCheck (.t 118)), none⟩,
  ⟨(some 125), (.fieldAddr 0 (.t 124)), none⟩,
  ⟨(some 126), (.fieldAddr 3 (.t 125)), none⟩,
  ⟨none, (.store 1 (.t 126) (.t 123)), none⟩]
def a14_20 : List AOper := [
  ⟨(some 127), (.mv (.t 8)), none⟩,
  ⟨(some 2), (.mv (.t 127)), none⟩,
  ⟨(some 3), (.mv (.c (.bool true))), none⟩,
  ⟨(some 4), (.mv (.c .nili)), none⟩]
def a14 : AFunc := ⟨[.tmp 2, .tmp 3, .tmp 4], (.seq (.ops a14_0) (.seq (.seq (.ops a14_1) (.seq (.ops a14_2) (.cond (.t 12) (.seq (.ops a14_3) .ret) .skip))) (.seq (.ops a14_4) (.seq (.seq (.ops a14_5) (.cond (.t 25) (.seq (.ops a14_6) .ret) .skip)) (.seq (.ops a14_7) (.seq (.seq (.ops a14_8) (.cond (.t 35) (.seq (.ops a14_9) (.seq (.ops a14_10) .ret)) .skip)) (.seq (.seq (.ops a14_11) (.cond (.t 54) (.seq (.ops a14_12) .ret) .skip)) (.seq (.ops a14_13) (.seq (.ops a14_14) (.seq (.ops a14_15) (.seq (.ops a14_16) (.seq (.ops a14_17) (.seq (.seq (.ops a14_18) (.cond (.t 117) (.ops a14_19) .skip)) (.seq (.ops a14_20) .ret))))))))))))))⟩
/-! ### 15: (*heddle/heddleref06.Reader).Next (126 slots) -/
def a15_0 : List AOper := [
  ⟨(some 2), (.mv (.c .nils)), none⟩,
  ⟨(some 3), (.mv (.c (.bool false))), none⟩,
  ⟨(some 4), (.mv (.c .nils)), none⟩]
def a15_1 : List AOper := [
  ⟨(some 8), (.mv (.t 0)), none⟩,
  ⟨(some 9), (.nilCheck (.t 8)), none⟩,
  ⟨(some 10), (.fieldAddr 0 (.t 9)), none⟩,
  ⟨(some 11), (.fieldAddr 5 (.t 10)), none⟩,
  ⟨(some 12), (.load false 1 (.t 11)), none⟩]
def a15_2 : List AOper := [
  ⟨(some 13), (.mv (.t 0)), none⟩,
  ⟨(some 14), (.nilCheck (.t 13)), none⟩,
  ⟨(some 15), (.fieldAddr 0 (.t 14)), none⟩,
  ⟨(some 16), (.fieldAddr 4 (.t 15)), none⟩,
  ⟨(some 17), (.load false 1 (.t 16)), none⟩,
  ⟨(some 18), (.call 25 [(.t 17), (.c (.int .i64 120))]), none⟩,
  ⟨(some 2), (.mv (.c .nils)), none⟩,
  ⟨(some 3), (.mv (.c (.bool false))), none⟩,
  ⟨(some 4), (.mv (.t 18)), none⟩]
def a15_3 : List AOper := [
  ⟨(some 19), (.mv (.t 0)), none⟩,
  ⟨(some 20), (.nilCheck (.t 19)), none⟩,
  ⟨(some 21), (.fieldAddr 0 (.t 20)), none⟩,
  ⟨(some 22), (.fieldAddr 0 (.t 21)), none⟩,
  ⟨(some 23), (.load false 1 (.t 22)), none⟩,
  ⟨(some 5), (.mv (.t 23)), none⟩]
def a15_4 : List AOper := [
  ⟨(some 24), (.mv (.t 5)), none⟩,
  ⟨(some 25), (.mv (.t 0)), none⟩,
  ⟨(some 26), (.nilCheck (.t 25)), none⟩,
  ⟨(some 27), (.fieldAddr 6 (.t 26)), none⟩,
  ⟨(some 28), (.load false 1 (.t 27)), none⟩,
  ⟨(some 29), (.call 30 [(.t 24), (.t 28), (.c (.int .i64 0))]), none⟩,
  ⟨(some 6), (.mv (.t 29)), none⟩]
def a15_5 : List AOper := [
  ⟨(some 30), (.mv (.t 6)), none⟩,
  ⟨(some 31), (.mv (.t 5)), none⟩,
  ⟨(some 32), (.call 24 [(.t 31)]), none⟩,
  ⟨(some 33), (.bin .gtr (.t 30) (.t 32)), none⟩]
def a15_6 : List AOper := [
  ⟨(some 34), (.mv (.t 0)), none⟩,
  ⟨(some 35), (.nilCheck (.t 34)), none⟩,
  ⟨(some 36), (.fieldAddr 0 (.t 35)), none⟩,
  ⟨(some 37), (.fieldAddr 5 (.t 36)), none⟩,
  ⟨none, (.store 1 (.t 37) (.c (.bool true))), none⟩]
def a15_7 : List AOper := [
  ⟨(some 38), (.mv (.t 0)), none⟩,
  ⟨(some 39), (.nilCheck (.t 38)), none⟩,
  ⟨(some 40), (.fieldAddr 0 (.t 39)), none⟩,
  ⟨(some 41), (.fieldAddr 4 (.t 40)), none⟩,
  ⟨(some 42), (.load false 1 (.t 41)), none⟩,
  ⟨(some 43), (.call 25 [(.t 42), (.c (.int .i64 120))]), none⟩,
  ⟨(some 2), (.mv (.c .nils)), none⟩,
  ⟨(some 3), (.mv (.c (.bool false))), none⟩,
  ⟨(some 4), (.mv (.t 43)), none⟩]
def a15_8 : List AOper := [
  ⟨(some 44), (.mv (.t 6)), none⟩,
  ⟨(some 45), (.bin .lss (.t 44) (.c (.int .i64 0))), none⟩,
  ⟨(some 46), (.mv (.t 45)), none⟩,
  ⟨(some 47), (.mv (.t 0)), (some (46, false))⟩,
  ⟨(some 48), (.nilCheck (.t 47)), (some (46, false))⟩,
  ⟨(some 49), (.fieldAddr 6 (.t 48)), (some (46, false))⟩,
  ⟨(some 50), (.load false 1 (.t 49)), (some (46, false))⟩,
  ⟨(some 51), (.len false (.t 50)), (some (46, false))⟩,
  ⟨(some 52), (.mv (.t 5)), (some (46, false))⟩,
  ⟨(some 53), (.bin .sub (.t 51) (.t 52)), (some (46, false))⟩,
  ⟨(some 54), (.mv (.t 6)), (some (46, false))⟩,
  ⟨(some 55), (.bin .lss (.t 53) (.t 54)), (some (46, false))⟩,
  ⟨(some 56), (.pick (.t 46) (.c (.bool true)) (.t 55)), none⟩]
def a15_9 : List AOper := [
  ⟨(some 2), (.mv (.c .nils)), none⟩,
  ⟨(some 3), (.mv (.c (.bool false))), none⟩,
  ⟨(some 4), (.mv (.c .nils)), none⟩]
def a15_10 : List AOper := [
  ⟨(some 57), (.lit true 1 0 [] []), none⟩,
  ⟨(some 58), (.mv (.t 0)), none⟩,
  ⟨(some 59), (.nilCheck (.t 58)), none⟩,
  ⟨(some 60), (.fieldAddr 6 (.t 59)), none⟩,
  ⟨(some 61), (.load false 1 (.t 60)), none⟩,
  ⟨(some 62), (.mv (.t 5)), none⟩,
  ⟨(some 63), (.mv (.t 5)), none⟩,
  ⟨(some 64), (.mv (.t 6)), none⟩,
  ⟨(some 65), (.bin .add (.t 63) (.t 64)), none⟩,
  ⟨(some 66), (.slice 1 (.t 61) (some (.t 62)) (some (.t 65)) none), none⟩,
  ⟨(some 67), (.append 1 1 (.t 57) (.t 66)), none⟩,
  ⟨(some 7), (.mv (.t 67)), none⟩]
def a15_11 : List AOper := [
  ⟨(some 68), (.mv (.t 0)), none⟩,
  ⟨(some 69), (.mv (.t 0)), none⟩,
  ⟨(some 70), (.nilCheck (.t 69)), none⟩,
  ⟨(some 71), (.fieldAddr 6 (.t 70)), none⟩,
  ⟨(some 72), (.load false 1 (.t 71)), none⟩,
  ⟨(some 73), (.mv (.t 5)), none⟩,
  ⟨(some 74), (.mv (.t 6)), none⟩,
  ⟨(some 75), (.bin .add (.t 73) (.t 74)), none⟩,
  ⟨(some 76), (.slice 1 (.t 72) (some (.t 75)) none none), none⟩,
  ⟨(some 77), (.nilCheck (.t 68)), none⟩,
  ⟨(some 78), (.fieldAddr 6 (.t 77)), none⟩,
  ⟨none, (.store 1 (.t 78) (.t 76)), none⟩]
def a15_12 : List AOper := [
  ⟨(some 79), (.mv (.t 0)), none⟩,
  ⟨(some 80), (.mv (.t 0)), none⟩,
  ⟨(some 81), (.nilCheck (.t 80)), none⟩,
  ⟨(some 82), (.fieldAddr 6 (.t 81)), none⟩,
  ⟨(some 83), (.load false 1 (.t 82)), none⟩,
  ⟨(some 84), (.len false (.t 83)), none⟩,
  ⟨(some 85), (.nilCheck (.t 79)), none⟩,
  ⟨(some 86), (.fieldAddr 0 (.t 85)), none⟩,
  ⟨(some 87), (.fieldAddr 1 (.t 86)), none⟩,
  ⟨none, (.store 1 (.t 87) (.t 84)), none⟩]
def a15_13 : List AOper := [
  ⟨(some 88), (.mv (.t 0)), none⟩,
  ⟨(some 89), (.nilCheck (.t 88)), none⟩,
  ⟨(some 90), (.fieldAddr 0 (.t 89)), none⟩,
  ⟨(some 91), (.fieldAddr 2 (.t 90)), none⟩,
  ⟨(some 92), (.load false 1 (.t 91)), none⟩,
  ⟨(some 93), (.bin .add (.t 92) (.c (.int .i64 1))), none⟩,
  ⟨(some 94), (.nilCheck (.t 88)), none⟩,
  ⟨(some 95), (.fieldAddr 0 (.t 94)), none⟩,
  ⟨(some 96), (.fieldAddr 2 (.t 95)), none⟩,
  ⟨none, (.store 1 (.t 96) (.t 93)), none⟩]
def a15_14 : List AOper := [
  ⟨(some 97), (.mv (.t 0)), none⟩,
  ⟨(some 98), (.mv (.t 0)), none⟩,
  ⟨(some 99), (.nilCheck (.t 98)), none⟩,
  ⟨(some 100), (.fieldAddr 0 (.t 99)), none⟩,
  ⟨(some 101), (.fieldAddr 4 (.t 100)), none⟩,
  ⟨(some 102), (.load false 1 (.t 101)), none⟩,
  ⟨(some 103), (.mv (.t 5)), none⟩,
  ⟨(some 104), (.bin .add (.t 102) (.t 103)), none⟩,
  ⟨(some 105), (.mv (.t 6)), none⟩,
  ⟨(some 106), (.bin .add (.t 104) (.t 105)), none⟩,
  ⟨(some 107), (.nilCheck (.t 97)), none⟩,
  ⟨(some 108), (.fieldAddr 0 (.t 107)), none⟩,
  ⟨(some 109), (.fieldAddr 4 (.t 108)), none⟩,
  ⟨none, (.store 1 (.t 109) (.t 106)), none⟩]
def a15_15 : List AOper := [
  ⟨(some 110), (.mv (.t 5)), none⟩,
  ⟨(some 111), (.bin .eql (.t 110) (.c (.int .i64 4))), none⟩,
  ⟨(some 112), (.mv (.t 111)), none⟩,
  ⟨(some 113), (.mv (.t 6)), (some (112, true))⟩,
  ⟨(some 114), (.bin .eql (.t 113) (.c (.int .i64 0))), (some (112, true))⟩,
  ⟨(some 115), (.pick (.t 112) (.t 114) (.c (.bool false))), none⟩]
def a15_16 : List AOper := [
  ⟨(some 116), (.mv (.t 0)), none⟩,
  ⟨(some 117), (.nilCheck (.t 116)), none⟩,
  ⟨(some 118), (.fieldAddr 0 (.t 117)), none⟩,
  ⟨(some 119), (.fieldAddr 3 (.t 118)), none⟩,
  ⟨(some 120), (.load false 1 (.t 119)), none⟩,
  ⟨(some 121), (.bin .add (.t 120) (.c (.int .i64 1))), none⟩,
  ⟨(some 122), (.nilCheck (.t 116)), none⟩,
  ⟨(some 123), (.fieldAddr 0 (.t 122)), none⟩,
  ⟨(some 124), (.fieldAddr 3 (.t 123)), none⟩,
  ⟨none, (.store 1 (.t 124) (.t 121)), none⟩]
def a15_17 : List AOper := [
  ⟨(some 125), (.mv (.t 7)), none⟩,
  ⟨(some 2), (.mv (.t 125)), none⟩,
  ⟨(some 3), (.mv (.c (.bool true))), none⟩,
  ⟨(some 4), (.mv (.c .nils)), none⟩]
def a15 : AFunc := ⟨[.tmp 2, .tmp 3, .tmp 4], (.seq (.ops a15_0) (.seq (.seq (.ops a15_1) (.cond (.t 12) (.seq (.ops a15_2) .ret) .skip)) (.seq (.ops a15_3) (.seq (.ops a15_4) (.seq (.seq (.ops a15_5) (.cond (.t 33) (.seq (.ops a15_6) (.seq (.ops a15_7) .ret)) .skip)) (.seq (.seq (.ops a15_8) (.cond (.t 56) (.seq (.ops a15_9) .ret) .skip)) (.seq (.ops a15_10) (.seq (.ops a15_11) (.seq (.ops a15_12) (.seq (.ops a15_13) (.seq (.ops a15_14) (.seq (.seq (.ops a15_15) (.cond (.t 115) (.ops a15_16) .skip)) (.seq (.ops a15_17) .ret)))))))))))))⟩
/-! ### 16: (*heddle/frame.Reader).Widen (20 slots) -/
def a16_0 : List AOper := [
  ⟨(some 2), (.mv (.c .nili)), none⟩]
def a16_1 : List AOper := [
  ⟨(some 4), (.mv (.t 0)), none⟩,
  ⟨(some 5), (.call 28 [(.t 4)]), none⟩,
  ⟨(some 3), (.mv (.t 5)), none⟩]
def a16_2 : List AOper := [
  ⟨(some 6), (.mv (.t 3)), none⟩,
  ⟨(some 7), (.eq true (.iface true) (.t 6) (.c .nili)), none⟩]
def a16_3 : List AOper := [
  ⟨(some 8), (.mv (.t 3)), none⟩,
  ⟨(some 2), (.mv (.t 8)), none⟩]
def a16_4 : List AOper := [
  ⟨(some 9), (.mv (.t 0)), none⟩,
  ⟨(some 10), (.nilCheck (.t 9)), none⟩,
  ⟨(some 11), (.fieldAddr 0 (.t 10)), none⟩,
  ⟨(some 12), (.fieldAddr 0 (.t 11)), none⟩,
  ⟨(some 13), (.load false 1 (.t 12)), none⟩,
  ⟨(some 14), (.bin .eql (.t 13) (.c (.int .i64 4))), none⟩]
def a16_5 : List AOper := [
  ⟨(some 15), (.call 23 [(.c (.int .i64 0)), (.c (.int .i64 6))]), none⟩,
  ⟨(some 2), (.mv (.t 15)), none⟩]
def a16_6 : List AOper := [
  ⟨(some 16), (.mv (.t 0)), none⟩,
  ⟨(some 17), (.nilCheck (.t 16)), none⟩,
  ⟨(some 18), (.fieldAddr 0 (.t 17)), none⟩,
  ⟨(some 19), (.fieldAddr 0 (.t 18)), none⟩,
  ⟨none, (.store 1 (.t 19) (.c (.int .i64 4))), none⟩]
def a16_7 : List AOper := [
  ⟨(some 2), (.mv (.c .nili)), none⟩]
def a16 : AFunc := ⟨[.tmp 2], (.seq (.ops a16_0) (.seq (.seq (.ops a16_1) (.seq (.ops a16_2) (.cond (.t 7) (.seq (.ops a16_3) .ret) .skip))) (.seq (.seq (.ops a16_4) (.cond (.t 14) (.seq (.ops a16_5) .ret) .skip)) (.seq (.ops a16_6) (.seq (.ops a16_7) .ret)))))⟩
/-! ### 17: (*heddle/heddleref06.Reader).Widen (25 slots) -/
def a17_0 : List AOper := [
  ⟨(some 2), (.mv (.c .nils)), none⟩]
def a17_1 : List AOper := [
  ⟨(some 3), (.mv (.t 0)), none⟩,
  ⟨(some 4), (.nilCheck (.t 3)), none⟩,
  ⟨(some 5), (.fieldAddr 0 (.t 4)), none⟩,
  ⟨(some 6), (.fieldAddr 5 (.t 5)), none⟩,
  ⟨(some 7), (.load false 1 (.t 6)), none⟩]
def a17_2 : List AOper := [
  ⟨(some 8), (.mv (.t 0)), none⟩,
  ⟨(some 9), (.nilCheck (.t 8)), none⟩,
  ⟨(some 10), (.fieldAddr 0 (.t 9)), none⟩,
  ⟨(some 11), (.fieldAddr 4 (.t 10)), none⟩,
  ⟨(some 12), (.load false 1 (.t 11)), none⟩,
  ⟨(some 13), (.call 25 [(.t 12), (.c (.int .i64 120))]), none⟩,
  ⟨(some 2), (.mv (.t 13)), none⟩]
def a17_3 : List AOper := [
  ⟨(some 14), (.mv (.t 0)), none⟩,
  ⟨(some 15), (.nilCheck (.t 14)), none⟩,
  ⟨(some 16), (.fieldAddr 0 (.t 15)), none⟩,
  ⟨(some 17), (.fieldAddr 0 (.t 16)), none⟩,
  ⟨(some 18), (.load false 1 (.t 17)), none⟩,
  ⟨(some 19), (.bin .eql (.t 18) (.c (.int .i64 4))), none⟩]
def a17_4 : List AOper := [
  ⟨(some 20), (.call 25 [(.c (.int .i64 0)), (.c (.int .i64 6))]), none⟩,
  ⟨(some 2), (.mv (.t 20)), none⟩]
def a17_5 : List AOper := [
  ⟨(some 21), (.mv (.t 0)), none⟩,
  ⟨(some 22), (.nilCheck (.t 21)), none⟩,
  ⟨(some 23), (.fieldAddr 0 (.t 22)), none⟩,
  ⟨(some 24), (.fieldAddr 0 (.t 23)), none⟩,
  ⟨none, (.store 1 (.t 24) (.c (.int .i64 4))), none⟩]
def a17_6 : List AOper := [
  ⟨(some 2), (.mv (.c .nils)), none⟩]
def a17 : AFunc := ⟨[.tmp 2], (.seq (.ops a17_0) (.seq (.seq (.ops a17_1) (.cond (.t 7) (.seq (.ops a17_2) .ret) .skip)) (.seq (.seq (.ops a17_3) (.cond (.t 19) (.seq (.ops a17_4) .ret) .skip)) (.seq (.ops a17_5) (.seq (.ops a17_6) .ret)))))⟩
/-! ### 18: (*heddle/frame.Reader).State (10 slots) -/
def a18_0 : List AOper := [
  ⟨(some 2), (.alloc [(.int .i64 0), (.int .i64 0), (.int .i64 0), (.int .i64 0), (.int .i64 0), (.bool false)]), none⟩]
def a18_1 : List AOper := [
  ⟨(some 3), (.mv (.t 0)), none⟩,
  ⟨(some 4), (.eq false .ptr (.t 3) (.c .nilp)), none⟩]
def a18_2 : List AOper := [
  ⟨(some 5), (.build [(.int .i64 0), (.int .i64 0), (.int .i64 0), (.int .i64 0), (.int .i64 0), (.bool false)] []), none⟩,
  ⟨none, (.store 6 (.t 2) (.t 5)), none⟩]
def a18_3 : List AOper := [
  ⟨(some 6), (.mv (.t 0)), none⟩,
  ⟨(some 7), (.nilCheck (.t 6)), none⟩,
  ⟨(some 8), (.fieldAddr 0 (.t 7)), none⟩,
  ⟨(some 9), (.load true 6 (.t 8)), none⟩,
  ⟨none, (.store 6 (.t 2) (.t 9)), none⟩]
def a18 : AFunc := ⟨[.cell 2 true 6], (.seq (.ops a18_0) (.seq (.seq (.ops a18_1) (.cond (.t 4) (.seq (.ops a18_2) .ret) .skip)) (.seq (.ops a18_3) .ret)))⟩
/-! ### 19: heddle/frame.Split (66 slots) -/
def a19_0 : List AOper := [
  ⟨(some 4), (.mv (.c .nils)), none⟩,
  ⟨(some 5), (.mv (.c (.int .i64 0))), none⟩,
  ⟨(some 6), (.mv (.c .nili)), none⟩]
def a19_1 : List AOper := [
  ⟨(some 10), (.mv (.t 0)), none⟩,
  ⟨(some 11), (.call 22 [(.t 10)]), none⟩,
  ⟨(some 12), (.bin .eql (.t 11) (.c (.int .i64 0))), none⟩]
def a19_2 : List AOper := [
  ⟨(some 13), (.call 23 [(.c (.int .i64 0)), (.c (.int .i64 1))]), none⟩,
  ⟨(some 4), (.mv (.c .nils)), none⟩,
  ⟨(some 5), (.mv (.c (.int .i64 0))), none⟩,
  ⟨(some 6), (.mv (.t 13)), none⟩]
def a19_3 : List AOper := [
  ⟨(some 7), (.mv (.c .nils)), none⟩]
def a19_4 : List AOper := [
  ⟨(some 8), (.mv (.c (.int .i64 0))), none⟩]
def a19_5 : List AOper := [
  ⟨(some 14), (.mv (.t 1)), none⟩,
  ⟨(some 15), (.len false (.t 14)), none⟩,
  ⟨(some 16), (.mv (.t 8)), none⟩,
  ⟨(some 17), (.bin .sub (.t 15) (.t 16)), none⟩,
  ⟨(some 18), (.mv (.t 0)), none⟩,
  ⟨(some 19), (.bin .geq (.t 17) (.t 18)), none⟩]
def a19_6 : List AOper := [
  ⟨(some 20), (.mv (.t 0)), none⟩,
  ⟨(some 21), (.mv (.t 1)), none⟩,
  ⟨(some 22), (.mv (.t 8)), none⟩,
  ⟨(some 23), (.slice 1 (.t 21) (some (.t 22)) none none), none⟩,
  ⟨(some 24), (.call 29 [(.t 20), (.t 23)]), none⟩,
  ⟨(some 9), (.mv (.t 24)), none⟩]
def a19_7 : List AOper := [
  ⟨(some 25), (.mv (.t 9)), none⟩,
  ⟨(some 26), (.mv (.t 0)), none⟩,
  ⟨(some 27), (.call 22 [(.t 26)]), none⟩,
  ⟨(some 28), (.bin .gtr (.t 25) (.t 27)), none⟩]
def a19_8 : List AOper := [
  ⟨(some 29), (.mv (.t 8)), none⟩,
  ⟨(some 30), (.call 23 [(.t 29), (.c (.int .i64 120))]), none⟩,
  ⟨(some 4), (.mv (.c .nils)), none⟩,
  ⟨(some 5), (.mv (.c (.int .i64 0))), none⟩,
  ⟨(some 6), (.mv (.t 30)), none⟩]
def a19_9 : List AOper := [
  ⟨(some 31), (.mv (.t 1)), none⟩,
  ⟨(some 32), (.len false (.t 31)), none⟩,
  ⟨(some 33), (.mv (.t 8)), none⟩,
  ⟨(some 34), (.bin .sub (.t 32) (.t 33)), none⟩,
  ⟨(some 35), (.mv (.t 0)), none⟩,
  ⟨(some 36), (.bin .sub (.t 34) (.t 35)), none⟩,
  ⟨(some 37), (.mv (.t 9)), none⟩,
  ⟨(some 38), (.bin .lss (.t 36) (.t 37)), none⟩]
def a19_10 : List AOper := [
  ⟨(some 39), (.mv (.t 7)), none⟩,
  ⟨(some 40), (.lit true 1 0 [] []), none⟩,
  ⟨(some 41), (.mv (.t 1)), none⟩,
  ⟨(some 42), (.mv (.t 8)), none⟩,
  ⟨(some 43), (.mv (.t 0)), none⟩,
  ⟨(some 44), (.bin .add (.t 42) (.t 43)), none⟩,
  ⟨(some 45), (.mv (.t 8)), none⟩,
  ⟨(some 46), (.mv (.t 0)), none⟩,
  ⟨(some 47), (.bin .add (.t 45) (.t 46)), none⟩,
  ⟨(some 48), (.mv (.t 9)), none⟩,
  ⟨(some 49), (.bin .add (.t 47) (.t 48)), none⟩,
  ⟨(some 50), (.mv (.t 8)), none⟩,
  ⟨(some 51), (.mv (.t 0)), none⟩,
  ⟨(some 52), (.bin .add (.t 50) (.t 51)), none⟩,
  ⟨(some 53), (.mv (.t 9)), none⟩,
  ⟨(some 54), (.bin .add (.t 52) (.t 53)), none⟩,
  ⟨(some 55), (.slice 1 (.t 41) (some (.t 44)) (some (.t 49)) (some (.t 54))), none⟩,
  ⟨(some 56), (.append 1 1 (.t 40) (.t 55)), none⟩,
  ⟨(some 57), (.lit true 1 1 [.nils] [(0, 1, (.t 56))]), none⟩,
  ⟨(some 58), (.append 1 24 (.t 39) (.t 57)), none⟩,
  ⟨(some 7), (.mv (.t 58)), none⟩]
def a19_11 : List AOper := [
  ⟨(some 59), (.mv (.t 8)), none⟩,
  ⟨(some 60), (.mv (.t 0)), none⟩,
  ⟨(some 61), (.mv (.t 9)), none⟩,
  ⟨(some 62), (.bin .add (.t 60) (.t 61)), none⟩,
  ⟨(some 63), (.bin .add (.t 59) (.t 62)), none⟩,
  ⟨(some 8), (.mv (.t 63)), none⟩]
def a19_l12 : AC := (.seq (.seq (.ops a19_5) (.cond (.t 19) .skip (.exit 0))) (.block 1 (.seq (.ops a19_6) (.seq (.seq (.ops a19_7) (.cond (.t 28) (.seq (.ops a19_8) .ret) .skip)) (.seq (.seq (.ops a19_9) (.cond (.t 38) (.exit 0) .skip)) (.seq (.ops a19_10) (.ops a19_11)))))))
def a19_13 : List AOper := [
  ⟨(some 64), (.mv (.t 7)), none⟩,
  ⟨(some 65), (.mv (.t 8)), none⟩,
  ⟨(some 4), (.mv (.t 64)), none⟩,
  ⟨(some 5), (.mv (.t 65)), none⟩,
  ⟨(some 6), (.mv (.c .nili)), none⟩]
def a19 : AFunc := ⟨[.tmp 4, .tmp 5, .tmp 6], (.seq (.ops a19_0) (.seq (.seq (.ops a19_1) (.cond (.t 12) (.seq (.ops a19_2) .ret) .skip)) (.seq (.ops a19_3) (.seq (.ops a19_4) (.seq (.block 0 (.loop a19_l12)) (.seq (.ops a19_13) .ret))))))⟩
/-! ### 20: heddle/heddleref06.Split (59 slots) -/
def a20_0 : List AOper := [
  ⟨(some 4), (.mv (.c .nils)), none⟩,
  ⟨(some 5), (.mv (.c (.int .i64 0))), none⟩,
  ⟨(some 6), (.mv (.c .nils)), none⟩]
def a20_1 : List AOper := [
  ⟨(some 11), (.mv (.t 0)), none⟩,
  ⟨(some 12), (.call 24 [(.t 11)]), none⟩,
  ⟨(some 7), (.mv (.t 12)), none⟩]
def a20_2 : List AOper := [
  ⟨(some 13), (.mv (.t 7)), none⟩,
  ⟨(some 14), (.bin .lss (.t 13) (.c (.int .i64 0))), none⟩]
def a20_3 : List AOper := [
  ⟨(some 15), (.call 25 [(.c (.int .i64 0)), (.c (.int .i64 1))]), none⟩,
  ⟨(some 4), (.mv (.c .nils)), none⟩,
  ⟨(some 5), (.mv (.c (.int .i64 0))), none⟩,
  ⟨(some 6), (.mv (.t 15)), none⟩]
def a20_4 : List AOper := [
  ⟨(some 8), (.mv (.c .nils)), none⟩]
def a20_5 : List AOper := [
  ⟨(some 9), (.mv (.c (.int .i64 0))), none⟩]
def a20_6 : List AOper := [
  ⟨(some 16), (.mv (.t 0)), none⟩,
  ⟨(some 17), (.mv (.t 1)), none⟩,
  ⟨(some 18), (.mv (.t 9)), none⟩,
  ⟨(some 19), (.call 30 [(.t 16), (.t 17), (.t 18)]), none⟩,
  ⟨(some 10), (.mv (.t 19)), none⟩]
def a20_7 : List AOper := [
  ⟨(some 20), (.mv (.t 10)), none⟩,
  ⟨(some 21), (.mv (.t 7)), none⟩,
  ⟨(some 22), (.bin .gtr (.t 20) (.t 21)), none⟩]
def a20_8 : List AOper := [
  ⟨(some 23), (.mv (.t 9)), none⟩,
  ⟨(some 24), (.call 25 [(.t 23), (.c (.int .i64 120))]), none⟩,
  ⟨(some 4), (.mv (.c .nils)), none⟩,
  ⟨(some 5), (.mv (.c (.int .i64 0))), none⟩,
  ⟨(some 6), (.mv (.t 24)), none⟩]
def a20_9 : List AOper := [
  ⟨(some 25), (.mv (.t 10)), none⟩,
  ⟨(some 26), (.bin .lss (.t 25) (.c (.int .i64 0))), none⟩,
  ⟨(some 27), (.mv (.t 26)), none⟩,
  ⟨(some 28), (.mv (.t 1)), (some (27, false))⟩,
  ⟨(some 29), (.len false (.t 28)), (some (27, false))⟩,
  ⟨(some 30), (.mv (.t 9)), (some (27, false))⟩,
  ⟨(some 31), (.bin .sub (.t 29) (.t 30)), (some (27, false))⟩,
  ⟨(some 32), (.mv (.t 0)), (some (27, false))⟩,
  ⟨(some 33), (.bin .sub (.t 31) (.t 32)), (some (27, false))⟩,
  ⟨(some 34), (.mv (.t 10)), (some (27, false))⟩,
  ⟨(some 35), (.bin .lss (.t 33) (.t 34)), (some (27, false))⟩,
  ⟨(some 36), (.pick (.t 27) (.c (.bool true)) (.t 35)), none⟩]
def a20_10 : List AOper := [
  ⟨(some 37), (.mv (.t 8)), none⟩,
  ⟨(some 38), (.mv (.t 9)), none⟩,
  ⟨(some 4), (.mv (.t 37)), none⟩,
  ⟨(some 5), (.mv (.t 38)), none⟩,
  ⟨(some 6), (.mv (.c .nils)), none⟩]
def a20_11 : List AOper := [
  ⟨(some 39), (.mv (.t 8)), none⟩,
  ⟨(some 40), (.lit true 1 0 [] []), none⟩,
  ⟨(some 41), (.mv (.t 1)), none⟩,
  ⟨(some 42), (.mv (.t 9)), none⟩,
  ⟨(some 43), (.mv (.t 0)), none⟩,
  ⟨(some 44), (.bin .add (.t 42) (.t 43)), none⟩,
  ⟨(some 45), (.mv (.t 9)), none⟩,
  ⟨(some 46), (.mv (.t 0)), none⟩,
  ⟨(some 47), (.bin .add (.t 45) (.t 46)), none⟩,
  ⟨(some 48), (.mv (.t 10)), none⟩,
  ⟨(some 49), (.bin .add (.t 47) (.t 48)), none⟩,
  ⟨(some 50), (.slice 1 (.t 41) (some (.t 44)) (some (.t 49)) none), none⟩,
  ⟨(some 51), (.append 1 1 (.t 40) (.t 50)), none⟩,
  ⟨(some 52), (.lit true 1 1 [.nils] [(0, 1, (.t 51))]), none⟩,
  ⟨(some 53), (.append 1 24 (.t 39) (.t 52)), none⟩,
  ⟨(some 8), (.mv (.t 53)), none⟩]
def a20_12 : List AOper := [
  ⟨(some 54), (.mv (.t 9)), none⟩,
  ⟨(some 55), (.mv (.t 0)), none⟩,
  ⟨(some 56), (.bin .add (.t 54) (.t 55)), none⟩,
  ⟨(some 57), (.mv (.t 10)), none⟩,
  ⟨(some 58), (.bin .add (.t 56) (.t 57)), none⟩,
  ⟨(some 9), (.mv (.t 58)), none⟩]
def a20_l13 : AC := (.block 1 (.seq (.ops a20_6) (.seq (.seq (.ops a20_7) (.cond (.t 22) (.seq (.ops a20_8) .ret) .skip)) (.seq (.seq (.ops a20_9) (.cond (.t 36) (.seq (.ops a20_10) .ret) .skip)) (.seq (.ops a20_11) (.ops a20_12))))))
def a20 : AFunc := ⟨[.tmp 4, .tmp 5, .tmp 6], (.seq (.ops a20_0) (.seq (.ops a20_1) (.seq (.seq (.ops a20_2) (.cond (.t 14) (.seq (.ops a20_3) .ret) .skip)) (.seq (.ops a20_4) (.seq (.ops a20_5) (.block 0 (.loop a20_l13)))))))⟩
/-! ### 21: heddle/heddlelaw06.same (28 slots) -/
def a21_0 : List AOper := [
  ⟨(some 4), (.mv (.c (.bool false))), none⟩]
def a21_1 : List AOper := [
  ⟨(some 6), (.mv (.t 0)), none⟩,
  ⟨(some 7), (.len false (.t 6)), none⟩,
  ⟨(some 8), (.mv (.t 1)), none⟩,
  ⟨(some 9), (.len false (.t 8)), none⟩,
  ⟨(some 10), (.bin .neq (.t 7) (.t 9)), none⟩]
def a21_2 : List AOper := [
  ⟨(some 4), (.mv (.c (.bool false))), none⟩]
def a21_3 : List AOper := [
  ⟨(some 5), (.mv (.c (.int .i64 0))), none⟩]
def a21_4 : List AOper := [
  ⟨(some 11), (.mv (.t 5)), none⟩,
  ⟨(some 12), (.mv (.t 0)), none⟩,
  ⟨(some 13), (.len false (.t 12)), none⟩,
  ⟨(some 14), (.bin .lss (.t 11) (.t 13)), none⟩]
def a21_5 : List AOper := [
  ⟨(some 17), (.mv (.t 0)), none⟩,
  ⟨(some 18), (.mv (.t 5)), none⟩,
  ⟨(some 19), (.idxAddr 1 (.t 17) (.t 18)), none⟩,
  ⟨(some 20), (.load false 1 (.t 19)), none⟩,
  ⟨(some 21), (.conv .b2s (.t 20)), none⟩,
  ⟨(some 22), (.mv (.t 1)), none⟩,
  ⟨(some 23), (.mv (.t 5)), none⟩,
  ⟨(some 24), (.idxAddr 1 (.t 22) (.t 23)), none⟩,
  ⟨(some 25), (.load false 1 (.t 24)), none⟩,
  ⟨(some 26), (.conv .b2s (.t 25)), none⟩,
  ⟨(some 27), (.bin .neq (.t 21) (.t 26)), none⟩]
def a21_5b : List Nat := [0, 0, 3, 7, 15, 0, 0, 96, 224, 480, 1023]
def a21_6 : List AOper := [
  ⟨(some 4), (.mv (.c (.bool false))), none⟩]
def a21_7 : List AOper := [
  ⟨(some 15), (.mv (.t 5)), none⟩,
  ⟨(some 16), (.bin .add (.t 15) (.c (.int .i64 1))), none⟩,
  ⟨(some 5), (.mv (.t 16)), none⟩]
def a21_l8 : AC := (.seq (.seq (.ops a21_4) (.cond (.t 14) .skip (.exit 0))) (.seq (.block 1 (.seq (.draw a21_5 a21_5b) (.cond (.t 27) (.seq (.ops a21_6) .ret) .skip))) (.ops a21_7)))
def a21_9 : List AOper := [
  ⟨(some 4), (.mv (.c (.bool true))), none⟩]
def a21 : AFunc := ⟨[.tmp 4], (.seq (.ops a21_0) (.seq (.seq (.ops a21_1) (.cond (.t 10) (.seq (.ops a21_2) .ret) .skip)) (.seq (.seq (.ops a21_3) (.block 0 (.loop a21_l8))) (.seq (.ops a21_9) .ret))))⟩
/-! ### 22: heddle/frame.greatest (8 slots) -/
def a22_0 : List AOper := [
  ⟨(some 2), (.mv (.c (.int .i64 0))), none⟩]
def a22_1 : List AOper := [
  ⟨(some 3), (.mv (.t 0)), none⟩]
def a22_2 : List AOper := [
  ⟨(some 5), (.bin .eql (.t 3) (.c (.int .i64 2))), none⟩,
  ⟨(some 4), (.mv (.t 5)), none⟩]
def a22_3 : List AOper := [
  ⟨(some 2), (.mv (.c (.int .i64 1024))), none⟩]
def a22_4 : List AOper := [
  ⟨(some 7), (.bin .eql (.t 3) (.c (.int .i64 4))), none⟩,
  ⟨(some 6), (.mv (.t 7)), none⟩]
def a22_5 : List AOper := [
  ⟨(some 2), (.mv (.c (.int .i64 131072))), none⟩]
def a22_6 : List AOper := [
  ⟨(some 2), (.mv (.c (.int .i64 0))), none⟩]
def a22 : AFunc := ⟨[.tmp 2], (.seq (.ops a22_0) (.seq (.seq (.ops a22_1) (.block 0 (.seq (.ops a22_2) (.cond (.t 4) (.seq (.ops a22_3) .ret) (.seq (.ops a22_4) (.cond (.t 6) (.seq (.ops a22_5) .ret) .skip)))))) (.seq (.ops a22_6) .ret)))⟩
/-! ### 23: heddle/frame.fault (10 slots) -/
def a23_0 : List AOper := [
  ⟨(some 4), (.mv (.c .nili)), none⟩]
def a23_1 : List AOper := [
  ⟨(some 5), (.mv (.t 0)), none⟩,
  ⟨(some 6), (.mv (.t 1)), none⟩,
  ⟨(some 7), (.build [(.str []), (.int .i64 0), (.int .i64 0), .nili] [(0, 1, (.c (.str [102, 114, 97, 109, 101]))), (1, 1, (.t 5)), (2, 1, (.t 6))]), none⟩,
  ⟨(some 8), (.box true 4 (.t 7)), none⟩,
  ⟨(some 9), (.mkIface 75 (.t 8)), none⟩,
  ⟨(some 4), (.mv (.t 9)), none⟩]
def a23 : AFunc := ⟨[.tmp 4], (.seq (.ops a23_0) (.seq (.ops a23_1) .ret))⟩
/-! ### 24: heddle/heddleref06.greatest (8 slots) -/
def a24_0 : List AOper := [
  ⟨(some 2), (.mv (.c (.int .i64 0))), none⟩]
def a24_1 : List AOper := [
  ⟨(some 3), (.mv (.t 0)), none⟩]
def a24_2 : List AOper := [
  ⟨(some 5), (.bin .eql (.t 3) (.c (.int .i64 2))), none⟩,
  ⟨(some 4), (.mv (.t 5)), none⟩]
def a24_3 : List AOper := [
  ⟨(some 2), (.mv (.c (.int .i64 1024))), none⟩]
def a24_4 : List AOper := [
  ⟨(some 7), (.bin .eql (.t 3) (.c (.int .i64 4))), none⟩,
  ⟨(some 6), (.mv (.t 7)), none⟩]
def a24_5 : List AOper := [
  ⟨(some 2), (.mv (.c (.int .i64 131072))), none⟩]
def a24_6 : List AOper := [
  ⟨(some 2), (.mv (.c (.int .i64 (-1)))), none⟩]
def a24 : AFunc := ⟨[.tmp 2], (.seq (.ops a24_0) (.seq (.seq (.ops a24_1) (.block 0 (.seq (.ops a24_2) (.cond (.t 4) (.seq (.ops a24_3) .ret) (.seq (.ops a24_4) (.cond (.t 6) (.seq (.ops a24_5) .ret) .skip)))))) (.seq (.ops a24_6) .ret)))⟩
/-! ### 25: heddle/heddleref06.no (8 slots) -/
def a25_0 : List AOper := [
  ⟨(some 4), (.mv (.c .nils)), none⟩]
def a25_1 : List AOper := [
  ⟨(some 5), (.mv (.t 0)), none⟩,
  ⟨(some 6), (.mv (.t 1)), none⟩,
  ⟨(some 7), (.call 31 [(.c (.str [102, 114, 97, 109, 101])), (.t 5), (.t 6)]), none⟩,
  ⟨(some 4), (.mv (.t 7)), none⟩]
def a25 : AFunc := ⟨[.tmp 4], (.seq (.ops a25_0) (.seq (.ops a25_1) .ret))⟩
/-! ### 26: heddle/heddlemem.Chain (44 slots) -/
def a26_0 : List AOper := [
  ⟨(some 2), (.mv (.c .nils)), none⟩]
def a26_1 : List AOper := [
  ⟨(some 3), (.mv (.c .nils)), none⟩]
def a26_2 : List AOper := [
  ⟨(some 4), (.mv (.c (.int .i64 0))), none⟩]
def a26_3 : List AOper := [
  ⟨(some 6), (.mv (.t 4)), none⟩,
  ⟨(some 7), (.bin .lss (.t 6) (.c (.int .i64 16))), none⟩,
  ⟨(some 8), (.mv (.t 7)), none⟩,
  ⟨(some 9), (.mv (.t 0)), (some (8, true))⟩,
  ⟨(some 10), (.eq true (.iface true) (.t 9) (.c .nili)), (some (8, true))⟩,
  ⟨(some 11), (.pick (.t 8) (.t 10) (.c (.bool false))), none⟩]
def a26_4 : List AOper := [
  ⟨(some 5), (.alloc [.nilp]), none⟩]
def a26_5 : List AOper := [
  ⟨(some 14), (.mv (.t 0)), none⟩,
  ⟨(some 15), (.mkIface 80 (.t 5)), none⟩,
  ⟨(some 16), (.call 32 [(.t 14), (.t 15)]), none⟩,
  ⟨(some 17), (.un .not (.t 16)), none⟩,
  ⟨(some 18), (.mv (.t 17)), none⟩,
  ⟨(some 19), (.load false 1 (.t 5)), (some (18, false))⟩,
  ⟨(some 20), (.eq false .ptr (.t 19) (.c .nilp)), (some (18, false))⟩,
  ⟨(some 21), (.pick (.t 18) (.c (.bool true)) (.t 20)), none⟩]
def a26_6 : List AOper := [
  ⟨(some 22), (.mv (.t 3)), none⟩,
  ⟨(some 2), (.mv (.t 22)), none⟩]
def a26_7 : List AOper := [
  ⟨(some 23), (.mv (.t 3)), none⟩,
  ⟨(some 24), (.load false 1 (.t 5)), none⟩,
  ⟨(some 25), (.nilCheck (.t 24)), none⟩,
  ⟨(some 26), (.fieldAddr 0 (.t 25)), none⟩,
  ⟨(some 27), (.load false 1 (.t 26)), none⟩,
  ⟨(some 28), (.load false 1 (.t 5)), none⟩,
  ⟨(some 29), (.nilCheck (.t 28)), none⟩,
  ⟨(some 30), (.fieldAddr 1 (.t 29)), none⟩,
  ⟨(some 31), (.load false 1 (.t 30)), none⟩,
  ⟨(some 32), (.load false 1 (.t 5)), none⟩,
  ⟨(some 33), (.nilCheck (.t 32)), none⟩,
  ⟨(some 34), (.fieldAddr 2 (.t 33)), none⟩,
  ⟨(some 35), (.load false 1 (.t 34)), none⟩,
  ⟨(some 36), (.build [(.str []), (.int .i64 0), (.int .i64 0)] [(0, 1, (.t 27)), (1, 1, (.t 31)), (2, 1, (.t 35))]), none⟩,
  ⟨(some 37), (.lit true 3 1 [(.str []), (.int .i64 0), (.int .i64 0)] [(0, 3, (.t 36))]), none⟩,
  ⟨(some 38), (.append 3 32 (.t 23) (.t 37)), none⟩,
  ⟨(some 3), (.mv (.t 38)), none⟩]
def a26_7b : List Nat := [0, 0, 2, 6, 14, 0, 32, 96, 224, 0, 512, 1536, 3584, 8190, 16382, 32767, 65535]
def a26_8 : List AOper := [
  ⟨(some 39), (.load false 1 (.t 5)), none⟩,
  ⟨(some 40), (.nilCheck (.t 39)), none⟩,
  ⟨(some 41), (.fieldAddr 3 (.t 40)), none⟩,
  ⟨(some 42), (.load false 1 (.t 41)), none⟩,
  ⟨(some 0), (.mv (.t 42)), none⟩]
def a26_9 : List AOper := [
  ⟨(some 12), (.mv (.t 4)), none⟩,
  ⟨(some 13), (.bin .add (.t 12) (.c (.int .i64 1))), none⟩,
  ⟨(some 4), (.mv (.t 13)), none⟩]
def a26_l10 : AC := (.seq (.seq (.ops a26_3) (.cond (.t 11) .skip (.exit 0))) (.seq (.block 1 (.seq (.ops a26_4) (.seq (.seq (.ops a26_5) (.cond (.t 21) (.seq (.ops a26_6) .ret) .skip)) (.seq (.draw a26_7 a26_7b) (.ops a26_8))))) (.ops a26_9)))
def a26_11 : List AOper := [
  ⟨(some 43), (.mv (.t 3)), none⟩,
  ⟨(some 2), (.mv (.t 43)), none⟩]
def a26 : AFunc := ⟨[.tmp 2], (.seq (.ops a26_0) (.seq (.ops a26_1) (.seq (.seq (.ops a26_2) (.block 0 (.loop a26_l10))) (.seq (.ops a26_11) .ret))))⟩
/-! ### 28: (*heddle/frame.Reader).ready (25 slots) -/
def a28_0 : List AOper := [
  ⟨(some 2), (.mv (.c .nili)), none⟩]
def a28_1 : List AOper := [
  ⟨(some 3), (.mv (.t 0)), none⟩,
  ⟨(some 4), (.eq false .ptr (.t 3) (.c .nilp)), none⟩,
  ⟨(some 5), (.mv (.t 4)), none⟩,
  ⟨(some 6), (.mv (.t 0)), (some (5, false))⟩,
  ⟨(some 7), (.nilCheck (.t 6)), (some (5, false))⟩,
  ⟨(some 8), (.fieldAddr 0 (.t 7)), (some (5, false))⟩,
  ⟨(some 9), (.fieldAddr 0 (.t 8)), (some (5, false))⟩,
  ⟨(some 10), (.load false 1 (.t 9)), (some (5, false))⟩,
  ⟨(some 11), (.bin .eql (.t 10) (.c (.int .i64 0))), (some (5, false))⟩,
  ⟨(some 12), (.pick (.t 5) (.c (.bool true)) (.t 11)), none⟩]
def a28_2 : List AOper := [
  ⟨(some 13), (.call 23 [(.c (.int .i64 0)), (.c (.int .i64 3))]), none⟩,
  ⟨(some 2), (.mv (.t 13)), none⟩]
def a28_3 : List AOper := [
  ⟨(some 14), (.mv (.t 0)), none⟩,
  ⟨(some 15), (.nilCheck (.t 14)), none⟩,
  ⟨(some 16), (.fieldAddr 0 (.t 15)), none⟩,
  ⟨(some 17), (.fieldAddr 5 (.t 16)), none⟩,
  ⟨(some 18), (.load false 1 (.t 17)), none⟩]
def a28_4 : List AOper := [
  ⟨(some 19), (.mv (.t 0)), none⟩,
  ⟨(some 20), (.nilCheck (.t 19)), none⟩,
  ⟨(some 21), (.fieldAddr 0 (.t 20)), none⟩,
  ⟨(some 22), (.fieldAddr 4 (.t 21)), none⟩,
  ⟨(some 23), (.load false 1 (.t 22)), none⟩,
  ⟨(some 24), (.call 23 [(.t 23), (.c (.int .i64 120))]), none⟩,
  ⟨(some 2), (.mv (.t 24)), none⟩]
def a28_5 : List AOper := [
  ⟨(some 2), (.mv (.c .nili)), none⟩]
def a28 : AFunc := ⟨[.tmp 2], (.seq (.ops a28_0) (.seq (.seq (.ops a28_1) (.cond (.t 12) (.seq (.ops a28_2) .ret) .skip)) (.seq (.seq (.ops a28_3) (.cond (.t 18) (.seq (.ops a28_4) .ret) .skip)) (.seq (.ops a28_5) .ret))))⟩
/-! ### 29: heddle/frame.length (23 slots) -/
def a29_0 : List AOper := [
  ⟨(some 4), (.mv (.c (.int .i64 0))), none⟩]
def a29_1 : List AOper := [
  ⟨(some 5), (.mv (.c (.int .i64 0))), none⟩]
def a29_2 : List AOper := [
  ⟨(some 8), (.mv (.t 1)), none⟩,
  ⟨(some 9), (.mv (.t 0)), none⟩,
  ⟨(some 10), (.slice 1 (.t 8) none (some (.t 9)) none), none⟩,
  ⟨(some 11), (.len false (.t 10)), none⟩,
  ⟨(some 12), (.mv (.c (.int .i64 0))), none⟩]
def a29_3 : List AOper := [
  ⟨(some 13), (.bin .lss (.t 12) (.t 11)), none⟩]
def a29_4 : List AOper := [
  ⟨(some 14), (.idxAddr 1 (.t 10) (.t 12)), none⟩,
  ⟨(some 15), (.load false 1 (.t 14)), none⟩,
  ⟨(some 7), (.mv (.t 15)), none⟩]
def a29_5 : List AOper := [
  ⟨(some 16), (.mv (.t 5)), none⟩,
  ⟨(some 17), (.bin .shl (.t 16) (.c (.int .u64 8))), none⟩,
  ⟨(some 18), (.mv (.t 7)), none⟩,
  ⟨(some 19), (.conv (.int .i64) (.t 18)), none⟩,
  ⟨(some 20), (.bin .or (.t 17) (.t 19)), none⟩,
  ⟨(some 5), (.mv (.t 20)), none⟩]
def a29_6 : List AOper := [
  ⟨(some 21), (.bin .add (.t 12) (.c (.int .i64 1))), none⟩,
  ⟨(some 12), (.mv (.t 21)), none⟩]
def a29_l7 : AC := (.seq (.ops a29_3) (.seq (.cond (.t 13) .skip (.exit 0)) (.seq (.block 1 (.seq (.ops a29_4) (.ops a29_5))) (.ops a29_6))))
def a29_8 : List AOper := [
  ⟨(some 22), (.mv (.t 5)), none⟩,
  ⟨(some 4), (.mv (.t 22)), none⟩]
def a29 : AFunc := ⟨[.tmp 4], (.seq (.ops a29_0) (.seq (.ops a29_1) (.seq (.seq (.ops a29_2) (.block 0 (.loop a29_l7))) (.seq (.ops a29_8) .ret))))⟩
/-! ### 30: heddle/heddleref06.length (31 slots) -/
def a30_0 : List AOper := [
  ⟨(some 6), (.mv (.c (.int .i64 0))), none⟩]
def a30_1 : List AOper := [
  ⟨(some 9), (.mv (.t 1)), none⟩,
  ⟨(some 10), (.len false (.t 9)), none⟩,
  ⟨(some 11), (.mv (.t 2)), none⟩,
  ⟨(some 12), (.bin .sub (.t 10) (.t 11)), none⟩,
  ⟨(some 13), (.mv (.t 0)), none⟩,
  ⟨(some 14), (.bin .lss (.t 12) (.t 13)), none⟩]
def a30_2 : List AOper := [
  ⟨(some 6), (.mv (.c (.int .i64 (-1)))), none⟩]
def a30_3 : List AOper := [
  ⟨(some 7), (.mv (.c (.int .i64 0))), none⟩]
def a30_4 : List AOper := [
  ⟨(some 8), (.mv (.c (.int .i64 0))), none⟩]
def a30_5 : List AOper := [
  ⟨(some 15), (.mv (.t 8)), none⟩,
  ⟨(some 16), (.mv (.t 0)), none⟩,
  ⟨(some 17), (.bin .lss (.t 15) (.t 16)), none⟩]
def a30_6 : List AOper := [
  ⟨(some 20), (.mv (.t 7)), none⟩,
  ⟨(some 21), (.bin .mul (.t 20) (.c (.int .i64 256))), none⟩,
  ⟨(some 22), (.mv (.t 1)), none⟩,
  ⟨(some 23), (.mv (.t 2)), none⟩,
  ⟨(some 24), (.mv (.t 8)), none⟩,
  ⟨(some 25), (.bin .add (.t 23) (.t 24)), none⟩,
  ⟨(some 26), (.idxAddr 1 (.t 22) (.t 25)), none⟩,
  ⟨(some 27), (.load false 1 (.t 26)), none⟩,
  ⟨(some 28), (.conv (.int .i64) (.t 27)), none⟩,
  ⟨(some 29), (.bin .add (.t 21) (.t 28)), none⟩,
  ⟨(some 7), (.mv (.t 29)), none⟩]
def a30_7 : List AOper := [
  ⟨(some 18), (.mv (.t 8)), none⟩,
  ⟨(some 19), (.bin .add (.t 18) (.c (.int .i64 1))), none⟩,
  ⟨(some 8), (.mv (.t 19)), none⟩]
def a30_l8 : AC := (.seq (.seq (.ops a30_5) (.cond (.t 17) .skip (.exit 0))) (.seq (.block 1 (.ops a30_6)) (.ops a30_7)))
def a30_9 : List AOper := [
  ⟨(some 30), (.mv (.t 7)), none⟩,
  ⟨(some 6), (.mv (.t 30)), none⟩]
def a30 : AFunc := ⟨[.tmp 6], (.seq (.ops a30_0) (.seq (.seq (.ops a30_1) (.cond (.t 14) (.seq (.ops a30_2) .ret) .skip)) (.seq (.ops a30_3) (.seq (.seq (.ops a30_4) (.block 0 (.loop a30_l8))) (.seq (.ops a30_9) .ret)))))⟩
/-! ### 31: heddle/heddlemem.One (12 slots) -/
def a31_0 : List AOper := [
  ⟨(some 6), (.mv (.c .nils)), none⟩]
def a31_1 : List AOper := [
  ⟨(some 7), (.mv (.t 0)), none⟩,
  ⟨(some 8), (.mv (.t 1)), none⟩,
  ⟨(some 9), (.mv (.t 2)), none⟩,
  ⟨(some 10), (.build [(.str []), (.int .i64 0), (.int .i64 0)] [(0, 1, (.t 7)), (1, 1, (.t 8)), (2, 1, (.t 9))]), none⟩,
  ⟨(some 11), (.lit true 3 1 [(.str []), (.int .i64 0), (.int .i64 0)] [(0, 3, (.t 10))]), none⟩,
  ⟨(some 6), (.mv (.t 11)), none⟩]
def a31 : AFunc := ⟨[.tmp 6], (.seq (.ops a31_0) (.seq (.ops a31_1) .ret))⟩
def func : Nat → Option AFunc
  | 3 => some a3
  | 4 => some a4
  | 5 => some a5
  | 6 => some a6
  | 7 => some a7
  | 8 => some a8
  | 9 => some a9
  | 10 => some a10
  | 11 => some a11
  | 12 => some a12
  | 13 => some a13
  | 14 => some a14
  | 15 => some a15
  | 16 => some a16
  | 17 => some a17
  | 18 => some a18
  | 19 => some a19
  | 20 => some a20
  | 21 => some a21
  | 22 => some a22
  | 23 => some a23
  | 24 => some a24
  | 25 => some a25
  | 26 => some a26
  | 28 => some a28
  | 29 => some a29
  | 30 => some a30
  | 31 => some a31
  | _ => none

/-- errors.As of a Fault, into a variable of Faults -/
def asP : List AV → Heap → Option (AV × Heap)
  | [.ifc 75 (.fp cs), .ifc 80 (.ptr id gen off)], h => (h.at_ id gen).bind fun os => if off < os.length then some (.bool true, h.upd id gen (splice os off [.fp cs])) else none
  | _, _ => none
/-- errors.Is of a Fault without another below, and a number -/
def isP : List AV → Heap → Option (AV × Heap)
  | [.ifc 75 (.fp [_, _, .int .i64 c, .nili]), .ifc 64 (.int .i64 c')], h => some (.bool (c == c'), h)
  | _, _ => none
def prims : Nat → Option (List AV → Heap → Option (AV × Heap))
  | 32 => some asP
  | 27 => some isP
  | _ => none
/-- what the world must be like: errors.errorType is laid -/
def start (B : Nat) (w : World) : Prop := 0 < B ∧ w.cell? ⟨0, 0, none⟩ = some (.iface 96 (.agg #[.pointer (some ⟨1, 24, none⟩)]))
def env : Env := { func := func, glob := fun _ => none, pure_ := fun n => n == 9 || n == 22 || n == 23 || n == 24 || n == 25 || n == 31, prim := prims, ok := start }
end Go.Fd
