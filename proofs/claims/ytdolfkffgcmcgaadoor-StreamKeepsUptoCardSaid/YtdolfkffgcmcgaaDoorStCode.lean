/-
  THE ABSTRACT MACHINE's code of the functions that the statements of package stream reach: printed by a program of this session's own; StTie shows that it is what the translation gives. errors.As and errors.Is are taken whole.
-/
import Derived.Test.YtdolfkffgcmcgaaDoorAmCore
set_option linter.unusedVariables false
namespace Go.St
open Go.AM
/-! ### 3: heddle/heddlelaw05.StreamChunks (94 slots) -/
def a3_0 : List AOper := [
  ⟨(some 4), (.mv (.c (.bool false))), none⟩]
def a3_1 : List AOper := [
  ⟨(some 12), (.call 10 []), none⟩,
  ⟨(some 5), (.mv (.t 12)), none⟩]
def a3_2 : List AOper := [
  ⟨(some 13), (.mv (.t 5)), none⟩,
  ⟨(some 14), (.eq false .ptr (.t 13) (.c .nilp)), none⟩,
  ⟨(some 15), (.mv (.t 14)), none⟩,
  ⟨(some 16), (.mv (.t 0)), (some (15, false))⟩,
  ⟨(some 17), (.len false (.t 16)), (some (15, false))⟩,
  ⟨(some 18), (.bin .gtr (.t 17) (.c (.int .i64 4194304))), (some (15, false))⟩,
  ⟨(some 19), (.pick (.t 15) (.c (.bool true)) (.t 18)), none⟩]
def a3_3 : List AOper := [
  ⟨(some 20), (.mv (.t 5)), none⟩,
  ⟨(some 21), (.eq true .ptr (.t 20) (.c .nilp)), none⟩,
  ⟨(some 22), (.mv (.t 21)), none⟩,
  ⟨(some 23), (.call 11 []), (some (22, true))⟩,
  ⟨(some 24), (.pick (.t 22) (.t 23) (.c (.bool false))), none⟩,
  ⟨(some 4), (.mv (.t 24)), none⟩]
def a3_4 : List AOper := [
  ⟨(some 6), (.mv (.c .nils)), none⟩]
def a3_5 : List AOper := [
  ⟨(some 7), (.mv (.c (.int .i64 0))), none⟩]
def a3_6 : List AOper := [
  ⟨(some 8), (.mv (.c (.int .i64 0))), none⟩]
def a3_7 : List AOper := [
  ⟨(some 25), (.mv (.t 7)), none⟩,
  ⟨(some 26), (.mv (.t 0)), none⟩,
  ⟨(some 27), (.len false (.t 26)), none⟩,
  ⟨(some 28), (.bin .lss (.t 25) (.t 27)), none⟩]
def a3_8 : List AOper := [
  ⟨(some 9), (.mv (.c (.int .i64 1))), none⟩]
def a3_9 : List AOper := [
  ⟨(some 31), (.mv (.t 1)), none⟩,
  ⟨(some 32), (.len false (.t 31)), none⟩,
  ⟨(some 33), (.bin .gtr (.t 32) (.c (.int .i64 0))), none⟩]
def a3_10 : List AOper := [
  ⟨(some 34), (.mv (.t 1)), none⟩,
  ⟨(some 35), (.mv (.t 8)), none⟩,
  ⟨(some 36), (.mv (.t 1)), none⟩,
  ⟨(some 37), (.len false (.t 36)), none⟩,
  ⟨(some 38), (.bin .rem (.t 35) (.t 37)), none⟩,
  ⟨(some 39), (.idxAddr 1 (.t 34) (.t 38)), none⟩,
  ⟨(some 40), (.load false 1 (.t 39)), none⟩,
  ⟨(some 41), (.conv (.int .i64) (.t 40)), none⟩,
  ⟨(some 42), (.bin .add (.c (.int .i64 1)) (.t 41)), none⟩,
  ⟨(some 9), (.mv (.t 42)), none⟩]
def a3_11 : List AOper := [
  ⟨(some 43), (.mv (.t 8)), none⟩,
  ⟨(some 44), (.bin .gtr (.t 43) (.c (.int .i64 4000))), none⟩,
  ⟨(some 45), (.mv (.t 44)), none⟩,
  ⟨(some 46), (.mv (.t 9)), (some (45, false))⟩,
  ⟨(some 47), (.mv (.t 0)), (some (45, false))⟩,
  ⟨(some 48), (.len false (.t 47)), (some (45, false))⟩,
  ⟨(some 49), (.mv (.t 7)), (some (45, false))⟩,
  ⟨(some 50), (.bin .sub (.t 48) (.t 49)), (some (45, false))⟩,
  ⟨(some 51), (.bin .gtr (.t 46) (.t 50)), (some (45, false))⟩,
  ⟨(some 52), (.pick (.t 45) (.c (.bool true)) (.t 51)), none⟩]
def a3_12 : List AOper := [
  ⟨(some 53), (.mv (.t 0)), none⟩,
  ⟨(some 54), (.len false (.t 53)), none⟩,
  ⟨(some 55), (.mv (.t 7)), none⟩,
  ⟨(some 56), (.bin .sub (.t 54) (.t 55)), none⟩,
  ⟨(some 9), (.mv (.t 56)), none⟩]
def a3_13 : List AOper := [
  ⟨(some 57), (.mv (.t 5)), none⟩,
  ⟨(some 58), (.mv (.t 0)), none⟩,
  ⟨(some 59), (.mv (.t 7)), none⟩,
  ⟨(some 60), (.mv (.t 7)), none⟩,
  ⟨(some 61), (.mv (.t 9)), none⟩,
  ⟨(some 62), (.bin .add (.t 60) (.t 61)), none⟩,
  ⟨(some 63), (.slice 1 (.t 58) (some (.t 59)) (some (.t 62)) none), none⟩,
  ⟨(some 64), (.call 12 [(.t 57), (.c (.int .i64 1)), (.t 63)]), none⟩,
  ⟨(some 65), (.eq true (.iface true) (.t 64) (.c .nili)), none⟩,
  ⟨(some 66), (.mv (.t 65)), none⟩,
  ⟨(some 67), (.mv (.t 5)), (some (66, false))⟩,
  ⟨(some 68), (.mv (.t 9)), (some (66, false))⟩,
  ⟨(some 69), (.call 13 [(.t 67), (.c (.int .i64 1)), (.t 68)]), (some (66, false))⟩,
  ⟨(some 70), (.eq true (.iface true) (.t 69) (.c .nili)), (some (66, false))⟩,
  ⟨(some 71), (.pick (.t 66) (.c (.bool true)) (.t 70)), none⟩]
def a3_14 : List AOper := [
  ⟨(some 4), (.mv (.c (.bool false))), none⟩]
def a3_15 : List AOper := [
  ⟨(some 73), (.mv (.t 5)), none⟩,
  ⟨(some 74), (.mv (.t 9)), none⟩,
  ⟨(some 75), (.call 14 [(.t 73), (.c (.int .i64 0)), (.t 74)]), none⟩,
  ⟨(some 72), (.mv (.t 75)), none⟩,
  ⟨(some 76), (.extract (.t 72) 0), none⟩,
  ⟨(some 77), (.extract (.t 72) 1), none⟩,
  ⟨(some 10), (.mv (.t 76)), none⟩,
  ⟨(some 11), (.mv (.t 77)), none⟩]
def a3_16 : List AOper := [
  ⟨(some 78), (.mv (.t 11)), none⟩,
  ⟨(some 79), (.eq true (.iface true) (.t 78) (.c .nili)), none⟩]
def a3_17 : List AOper := [
  ⟨(some 4), (.mv (.c (.bool false))), none⟩]
def a3_18 : List AOper := [
  ⟨(some 80), (.mv (.t 6)), none⟩,
  ⟨(some 81), (.mv (.t 10)), none⟩,
  ⟨(some 82), (.append 1 1 (.t 80) (.t 81)), none⟩,
  ⟨(some 6), (.mv (.t 82)), none⟩]
def a3_19 : List AOper := [
  ⟨(some 83), (.mv (.t 7)), none⟩,
  ⟨(some 84), (.mv (.t 9)), none⟩,
  ⟨(some 85), (.bin .add (.t 83) (.t 84)), none⟩,
  ⟨(some 7), (.mv (.t 85)), none⟩]
def a3_20 : List AOper := [
  ⟨(some 29), (.mv (.t 8)), none⟩,
  ⟨(some 30), (.bin .add (.t 29) (.c (.int .i64 1))), none⟩,
  ⟨(some 8), (.mv (.t 30)), none⟩]
def a3_l21 : AC := (.seq (.seq (.ops a3_7) (.cond (.t 28) .skip (.exit 0))) (.seq (.block 1 (.seq (.ops a3_8) (.seq (.seq (.ops a3_9) (.cond (.t 33) (.ops a3_10) .skip)) (.seq (.seq (.ops a3_11) (.cond (.t 52) (.ops a3_12) .skip)) (.seq (.seq (.ops a3_13) (.cond (.t 71) (.seq (.ops a3_14) .ret) .skip)) (.seq (.ops a3_15) (.seq (.seq (.ops a3_16) (.cond (.t 79) (.seq (.ops a3_17) .ret) .skip)) (.seq (.ops a3_18) (.ops a3_19))))))))) (.ops a3_20)))
def a3_22 : List AOper := [
  ⟨(some 86), (.mv (.t 6)), none⟩,
  ⟨(some 87), (.conv .b2s (.t 86)), none⟩,
  ⟨(some 88), (.mv (.t 0)), none⟩,
  ⟨(some 89), (.conv .b2s (.t 88)), none⟩,
  ⟨(some 90), (.bin .eql (.t 87) (.t 89)), none⟩,
  ⟨(some 91), (.mv (.t 90)), none⟩,
  ⟨(some 92), (.call 11 []), (some (91, true))⟩,
  ⟨(some 93), (.pick (.t 91) (.t 92) (.c (.bool false))), none⟩,
  ⟨(some 4), (.mv (.t 93)), none⟩]
def a3 : AFunc := ⟨[.tmp 4], (.seq (.ops a3_0) (.seq (.ops a3_1) (.seq (.seq (.ops a3_2) (.cond (.t 19) (.seq (.ops a3_3) .ret) .skip)) (.seq (.ops a3_4) (.seq (.ops a3_5) (.seq (.seq (.ops a3_6) (.block 0 (.loop a3_l21))) (.seq (.ops a3_22) .ret)))))))⟩
/-! ### 4: heddle/heddlelaw05.StreamOwn (97 slots) -/
def a4_0 : List AOper := [
  ⟨(some 2), (.mv (.c (.bool false))), none⟩]
def a4_1 : List AOper := [
  ⟨(some 12), (.call 10 []), none⟩,
  ⟨(some 3), (.mv (.t 12)), none⟩]
def a4_2 : List AOper := [
  ⟨(some 13), (.mv (.t 3)), none⟩,
  ⟨(some 14), (.eq false .ptr (.t 13) (.c .nilp)), none⟩,
  ⟨(some 15), (.mv (.t 14)), none⟩,
  ⟨(some 16), (.mv (.t 0)), (some (15, false))⟩,
  ⟨(some 17), (.len false (.t 16)), (some (15, false))⟩,
  ⟨(some 18), (.bin .gtr (.t 17) (.c (.int .i64 1000))), (some (15, false))⟩,
  ⟨(some 19), (.pick (.t 15) (.c (.bool true)) (.t 18)), none⟩]
def a4_3 : List AOper := [
  ⟨(some 20), (.mv (.t 3)), none⟩,
  ⟨(some 21), (.eq true .ptr (.t 20) (.c .nilp)), none⟩,
  ⟨(some 22), (.mv (.t 21)), none⟩,
  ⟨(some 23), (.call 11 []), (some (22, true))⟩,
  ⟨(some 24), (.pick (.t 22) (.t 23) (.c (.bool false))), none⟩,
  ⟨(some 2), (.mv (.t 24)), none⟩]
def a4_4 : List AOper := [
  ⟨(some 25), (.lit true 1 0 [] []), none⟩,
  ⟨(some 26), (.mv (.t 0)), none⟩,
  ⟨(some 27), (.append 1 1 (.t 25) (.t 26)), none⟩,
  ⟨(some 4), (.mv (.t 27)), none⟩]
def a4_5 : List AOper := [
  ⟨(some 28), (.mv (.t 3)), none⟩,
  ⟨(some 29), (.mv (.t 4)), none⟩,
  ⟨(some 30), (.call 12 [(.t 28), (.c (.int .i64 0)), (.t 29)]), none⟩,
  ⟨(some 31), (.eq true (.iface true) (.t 30) (.c .nili)), none⟩,
  ⟨(some 32), (.mv (.t 31)), none⟩,
  ⟨(some 33), (.mv (.t 3)), (some (32, false))⟩,
  ⟨(some 34), (.mv (.t 4)), (some (32, false))⟩,
  ⟨(some 35), (.call 12 [(.t 33), (.c (.int .i64 0)), (.t 34)]), (some (32, false))⟩,
  ⟨(some 36), (.eq true (.iface true) (.t 35) (.c .nili)), (some (32, false))⟩,
  ⟨(some 37), (.pick (.t 32) (.c (.bool true)) (.t 36)), none⟩]
def a4_6 : List AOper := [
  ⟨(some 2), (.mv (.c (.bool false))), none⟩]
def a4_7 : List AOper := [
  ⟨(some 38), (.mv (.t 4)), none⟩,
  ⟨(some 39), (.len false (.t 38)), none⟩,
  ⟨(some 40), (.mv (.c (.int .i64 0))), none⟩]
def a4_8 : List AOper := [
  ⟨(some 41), (.bin .lss (.t 40) (.t 39)), none⟩]
def a4_9 : List AOper := [
  ⟨(some 42), (.mv (.t 40)), none⟩,
  ⟨(some 5), (.mv (.t 42)), none⟩]
def a4_10 : List AOper := [
  ⟨(some 43), (.mv (.t 4)), none⟩,
  ⟨(some 44), (.mv (.t 5)), none⟩,
  ⟨(some 45), (.mv (.t 4)), none⟩,
  ⟨(some 46), (.mv (.t 5)), none⟩,
  ⟨(some 47), (.idxAddr 1 (.t 45) (.t 46)), none⟩,
  ⟨(some 48), (.load false 1 (.t 47)), none⟩,
  ⟨(some 49), (.bin .xor (.t 48) (.c (.int .u8 255))), none⟩,
  ⟨(some 50), (.idxAddr 1 (.t 43) (.t 44)), none⟩,
  ⟨none, (.store 1 (.t 50) (.t 49)), none⟩]
def a4_11 : List AOper := [
  ⟨(some 51), (.bin .add (.t 40) (.c (.int .i64 1))), none⟩,
  ⟨(some 40), (.mv (.t 51)), none⟩]
def a4_l12 : AC := (.seq (.ops a4_8) (.seq (.cond (.t 41) .skip (.exit 0)) (.seq (.block 1 (.seq (.ops a4_9) (.ops a4_10))) (.ops a4_11))))
def a4_13 : List AOper := [
  ⟨(some 52), (.mv (.t 3)), none⟩,
  ⟨(some 53), (.mv (.t 0)), none⟩,
  ⟨(some 54), (.len false (.t 53)), none⟩,
  ⟨(some 55), (.bin .mul (.c (.int .i64 2)) (.t 54)), none⟩,
  ⟨(some 56), (.call 13 [(.t 52), (.c (.int .i64 0)), (.t 55)]), none⟩,
  ⟨(some 57), (.eq true (.iface true) (.t 56) (.c .nili)), none⟩]
def a4_14 : List AOper := [
  ⟨(some 2), (.mv (.c (.bool false))), none⟩]
def a4_15 : List AOper := [
  ⟨(some 59), (.mv (.t 3)), none⟩,
  ⟨(some 60), (.mv (.t 0)), none⟩,
  ⟨(some 61), (.len false (.t 60)), none⟩,
  ⟨(some 62), (.call 14 [(.t 59), (.c (.int .i64 1)), (.t 61)]), none⟩,
  ⟨(some 58), (.mv (.t 62)), none⟩,
  ⟨(some 63), (.extract (.t 58) 0), none⟩,
  ⟨(some 64), (.extract (.t 58) 1), none⟩,
  ⟨(some 6), (.mv (.t 63)), none⟩,
  ⟨(some 7), (.mv (.t 64)), none⟩]
def a4_16 : List AOper := [
  ⟨(some 65), (.mv (.t 6)), none⟩,
  ⟨(some 66), (.conv .b2s (.t 65)), none⟩,
  ⟨(some 8), (.mv (.t 66)), none⟩]
def a4_17 : List AOper := [
  ⟨(some 67), (.mv (.t 6)), none⟩,
  ⟨(some 68), (.len false (.t 67)), none⟩,
  ⟨(some 69), (.mv (.c (.int .i64 0))), none⟩]
def a4_18 : List AOper := [
  ⟨(some 70), (.bin .lss (.t 69) (.t 68)), none⟩]
def a4_19 : List AOper := [
  ⟨(some 71), (.mv (.t 69)), none⟩,
  ⟨(some 9), (.mv (.t 71)), none⟩]
def a4_20 : List AOper := [
  ⟨(some 72), (.mv (.t 6)), none⟩,
  ⟨(some 73), (.mv (.t 9)), none⟩,
  ⟨(some 74), (.idxAddr 1 (.t 72) (.t 73)), none⟩,
  ⟨none, (.store 1 (.t 74) (.c (.int .u8 7))), none⟩]
def a4_21 : List AOper := [
  ⟨(some 75), (.bin .add (.t 69) (.c (.int .i64 1))), none⟩,
  ⟨(some 69), (.mv (.t 75)), none⟩]
def a4_l22 : AC := (.seq (.ops a4_18) (.seq (.cond (.t 70) .skip (.exit 2)) (.seq (.block 3 (.seq (.ops a4_19) (.ops a4_20))) (.ops a4_21))))
def a4_23 : List AOper := [
  ⟨(some 77), (.mv (.t 3)), none⟩,
  ⟨(some 78), (.mv (.t 0)), none⟩,
  ⟨(some 79), (.len false (.t 78)), none⟩,
  ⟨(some 80), (.call 14 [(.t 77), (.c (.int .i64 1)), (.t 79)]), none⟩,
  ⟨(some 76), (.mv (.t 80)), none⟩,
  ⟨(some 81), (.extract (.t 76) 0), none⟩,
  ⟨(some 82), (.extract (.t 76) 1), none⟩,
  ⟨(some 10), (.mv (.t 81)), none⟩,
  ⟨(some 11), (.mv (.t 82)), none⟩]
def a4_24 : List AOper := [
  ⟨(some 83), (.mv (.t 8)), none⟩,
  ⟨(some 84), (.mv (.t 0)), none⟩,
  ⟨(some 85), (.conv .b2s (.t 84)), none⟩,
  ⟨(some 86), (.bin .eql (.t 83) (.t 85)), none⟩,
  ⟨(some 87), (.mv (.t 86)), none⟩,
  ⟨(some 88), (.mv (.t 10)), (some (87, true))⟩,
  ⟨(some 89), (.conv .b2s (.t 88)), (some (87, true))⟩,
  ⟨(some 90), (.mv (.t 0)), (some (87, true))⟩,
  ⟨(some 91), (.conv .b2s (.t 90)), (some (87, true))⟩,
  ⟨(some 92), (.bin .eql (.t 89) (.t 91)), (some (87, true))⟩,
  ⟨(some 93), (.pick (.t 87) (.t 92) (.c (.bool false))), none⟩,
  ⟨(some 94), (.mv (.t 93)), none⟩,
  ⟨(some 95), (.call 11 []), (some (94, true))⟩,
  ⟨(some 96), (.pick (.t 94) (.t 95) (.c (.bool false))), none⟩,
  ⟨(some 2), (.mv (.t 96)), none⟩]
def a4 : AFunc := ⟨[.tmp 2], (.seq (.ops a4_0) (.seq (.ops a4_1) (.seq (.seq (.ops a4_2) (.cond (.t 19) (.seq (.ops a4_3) .ret) .skip)) (.seq (.ops a4_4) (.seq (.seq (.ops a4_5) (.cond (.t 37) (.seq (.ops a4_6) .ret) .skip)) (.seq (.seq (.ops a4_7) (.block 0 (.loop a4_l12))) (.seq (.seq (.ops a4_13) (.cond (.t 57) (.seq (.ops a4_14) .ret) .skip)) (.seq (.ops a4_15) (.seq (.ops a4_16) (.seq (.seq (.ops a4_17) (.block 2 (.loop a4_l22))) (.seq (.ops a4_23) (.seq (.ops a4_24) .ret))))))))))))⟩
/-! ### 5: heddle/heddlelaw05.StreamFull (52 slots) -/
def a5_0 : List AOper := [
  ⟨(some 2), (.mv (.c (.bool false))), none⟩]
def a5_1 : List AOper := [
  ⟨(some 8), (.call 10 []), none⟩,
  ⟨(some 3), (.mv (.t 8)), none⟩]
def a5_2 : List AOper := [
  ⟨(some 9), (.mv (.t 3)), none⟩,
  ⟨(some 10), (.eq false .ptr (.t 9) (.c .nilp)), none⟩,
  ⟨(some 11), (.mv (.t 10)), none⟩,
  ⟨(some 12), (.mv (.t 3)), (some (11, false))⟩,
  ⟨(some 13), (.makeSlice 1 1 [(.int .u8 0)] (.c (.int .i64 4194304)) (.c (.int .i64 4194304))), (some (11, false))⟩,
  ⟨(some 14), (.call 12 [(.t 12), (.c (.int .i64 0)), (.t 13)]), (some (11, false))⟩,
  ⟨(some 15), (.eq true (.iface true) (.t 14) (.c .nili)), (some (11, false))⟩,
  ⟨(some 16), (.pick (.t 11) (.c (.bool true)) (.t 15)), none⟩]
def a5_3 : List AOper := [
  ⟨(some 2), (.mv (.c (.bool false))), none⟩]
def a5_4 : List AOper := [
  ⟨(some 17), (.mv (.t 0)), none⟩,
  ⟨(some 18), (.conv (.int .i64) (.t 17)), none⟩,
  ⟨(some 19), (.bin .rem (.t 18) (.c (.int .i64 100))), none⟩,
  ⟨(some 4), (.mv (.t 19)), none⟩]
def a5_5 : List AOper := [
  ⟨(some 20), (.mv (.t 3)), none⟩,
  ⟨(some 21), (.mv (.t 4)), none⟩,
  ⟨(some 22), (.makeSlice 1 1 [(.int .u8 0)] (.t 21) (.t 21)), none⟩,
  ⟨(some 23), (.call 12 [(.t 20), (.c (.int .i64 0)), (.t 22)]), none⟩,
  ⟨(some 5), (.mv (.t 23)), none⟩]
def a5_6 : List AOper := [
  ⟨(some 25), (.mv (.t 3)), none⟩,
  ⟨(some 26), (.call 15 [(.t 25), (.c (.int .i64 0))]), none⟩,
  ⟨(some 24), (.mv (.t 26)), none⟩,
  ⟨(some 27), (.extract (.t 24) 0), none⟩,
  ⟨(some 28), (.extract (.t 24) 1), none⟩,
  ⟨(some 6), (.alloc [(.int .i64 0), (.int .i64 0), (.int .i64 0), (.int .i64 0), (.int .i64 0), (.bool false), (.bool false)]), none⟩,
  ⟨none, (.store 7 (.t 6) (.t 27)), none⟩,
  ⟨(some 7), (.mv (.t 28)), none⟩]
def a5_7 : List AOper := [
  ⟨(some 29), (.mv (.t 4)), none⟩,
  ⟨(some 30), (.bin .eql (.t 29) (.c (.int .i64 0))), none⟩]
def a5_8 : List AOper := [
  ⟨(some 31), (.mv (.t 5)), none⟩,
  ⟨(some 32), (.eq false (.iface true) (.t 31) (.c .nili)), none⟩,
  ⟨(some 33), (.mv (.t 32)), none⟩,
  ⟨(some 34), (.fieldAddr 0 (.t 6)), (some (33, true))⟩,
  ⟨(some 35), (.load false 1 (.t 34)), (some (33, true))⟩,
  ⟨(some 36), (.bin .eql (.t 35) (.c (.int .i64 4194304))), (some (33, true))⟩,
  ⟨(some 37), (.pick (.t 33) (.t 36) (.c (.bool false))), none⟩,
  ⟨(some 38), (.mv (.t 37)), none⟩,
  ⟨(some 39), (.call 11 []), (some (38, true))⟩,
  ⟨(some 40), (.pick (.t 38) (.t 39) (.c (.bool false))), none⟩,
  ⟨(some 2), (.mv (.t 40)), none⟩]
def a5_9 : List AOper := [
  ⟨(some 41), (.mv (.t 5)), none⟩,
  ⟨(some 42), (.call 17 [(.c (.str [115, 116, 114, 101, 97, 109])), (.c (.int .i64 0)), (.c (.int .i64 4))]), none⟩,
  ⟨(some 43), (.call 16 [(.t 41), (.t 42)]), none⟩,
  ⟨(some 44), (.mv (.t 43)), none⟩,
  ⟨(some 45), (.fieldAddr 0 (.t 6)), (some (44, true))⟩,
  ⟨(some 46), (.load false 1 (.t 45)), (some (44, true))⟩,
  ⟨(some 47), (.bin .eql (.t 46) (.c (.int .i64 4194304))), (some (44, true))⟩,
  ⟨(some 48), (.pick (.t 44) (.t 47) (.c (.bool false))), none⟩,
  ⟨(some 49), (.mv (.t 48)), none⟩,
  ⟨(some 50), (.call 11 []), (some (49, true))⟩,
  ⟨(some 51), (.pick (.t 49) (.t 50) (.c (.bool false))), none⟩,
  ⟨(some 2), (.mv (.t 51)), none⟩]
def a5 : AFunc := ⟨[.tmp 2], (.seq (.ops a5_0) (.seq (.ops a5_1) (.seq (.seq (.ops a5_2) (.cond (.t 16) (.seq (.ops a5_3) .ret) .skip)) (.seq (.ops a5_4) (.seq (.ops a5_5) (.seq (.ops a5_6) (.seq (.seq (.ops a5_7) (.cond (.t 30) (.seq (.ops a5_8) .ret) .skip)) (.seq (.ops a5_9) .ret))))))))⟩
/-! ### 6: heddle/heddlelaw05.StreamOrders (131 slots) -/
def a6_0 : List AOper := [
  ⟨(some 2), (.mv (.c (.bool false))), none⟩]
def a6_1 : List AOper := [
  ⟨(some 11), (.call 10 []), none⟩,
  ⟨(some 3), (.mv (.t 11)), none⟩]
def a6_2 : List AOper := [
  ⟨(some 12), (.mv (.t 3)), none⟩,
  ⟨(some 13), (.eq false .ptr (.t 12) (.c .nilp)), none⟩]
def a6_3 : List AOper := [
  ⟨(some 2), (.mv (.c (.bool false))), none⟩]
def a6_4 : List AOper := [
  ⟨(some 4), (.alloc [.nils, .nils]), none⟩,
  ⟨(some 5), (.alloc [.nils, .nils]), none⟩]
def a6_5 : List AOper := [
  ⟨(some 6), (.mv (.c (.int .i64 0))), none⟩]
def a6_6 : List AOper := [
  ⟨(some 14), (.mv (.t 6)), none⟩,
  ⟨(some 15), (.mv (.t 0)), none⟩,
  ⟨(some 16), (.len false (.t 15)), none⟩,
  ⟨(some 17), (.bin .lss (.t 14) (.t 16)), none⟩]
def a6_7 : List AOper := [
  ⟨(some 20), (.mv (.t 0)), none⟩,
  ⟨(some 21), (.mv (.t 6)), none⟩,
  ⟨(some 22), (.idxAddr 5 (.t 20) (.t 21)), none⟩,
  ⟨(some 23), (.load true 5 (.t 22)), none⟩,
  ⟨(some 7), (.alloc [(.int .i64 0), (.int .i64 0), (.int .i64 0), (.bool false), .nils]), none⟩,
  ⟨none, (.store 5 (.t 7) (.t 23)), none⟩]
def a6_8 : List AOper := [
  ⟨(some 24), (.fieldAddr 1 (.t 7)), none⟩,
  ⟨(some 25), (.load false 1 (.t 24)), none⟩,
  ⟨(some 26), (.bin .neq (.t 25) (.c (.int .i64 0))), none⟩,
  ⟨(some 27), (.mv (.t 26)), none⟩,
  ⟨(some 28), (.fieldAddr 1 (.t 7)), (some (27, true))⟩,
  ⟨(some 29), (.load false 1 (.t 28)), (some (27, true))⟩,
  ⟨(some 30), (.bin .neq (.t 29) (.c (.int .i64 1))), (some (27, true))⟩,
  ⟨(some 31), (.pick (.t 27) (.t 30) (.c (.bool false))), none⟩]
def a6_9 : List AOper := [
  ⟨(some 32), (.fieldAddr 0 (.t 7)), none⟩,
  ⟨(some 33), (.load false 1 (.t 32)), none⟩]
def a6_10 : List AOper := [
  ⟨(some 35), (.bin .eql (.t 33) (.c (.int .i64 1))), none⟩,
  ⟨(some 34), (.mv (.t 35)), none⟩]
def a6_11 : List AOper := [
  ⟨(some 36), (.mv (.t 3)), none⟩,
  ⟨(some 37), (.fieldAddr 1 (.t 7)), none⟩,
  ⟨(some 38), (.load false 1 (.t 37)), none⟩,
  ⟨(some 39), (.fieldAddr 4 (.t 7)), none⟩,
  ⟨(some 40), (.load false 1 (.t 39)), none⟩,
  ⟨(some 41), (.call 12 [(.t 36), (.t 38), (.t 40)]), none⟩,
  ⟨(some 42), (.eq false (.iface true) (.t 41) (.c .nili)), none⟩]
def a6_12 : List AOper := [
  ⟨(some 43), (.fieldAddr 1 (.t 7)), none⟩,
  ⟨(some 44), (.load false 1 (.t 43)), none⟩,
  ⟨(some 45), (.fieldAddr 1 (.t 7)), none⟩,
  ⟨(some 46), (.load false 1 (.t 45)), none⟩,
  ⟨(some 47), (.idxAddrArr 1 2 (.t 4) (.t 46)), none⟩,
  ⟨(some 48), (.load false 1 (.t 47)), none⟩,
  ⟨(some 49), (.fieldAddr 4 (.t 7)), none⟩,
  ⟨(some 50), (.load false 1 (.t 49)), none⟩,
  ⟨(some 51), (.append 1 1 (.t 48) (.t 50)), none⟩,
  ⟨(some 52), (.idxAddrArr 1 2 (.t 4) (.t 44)), none⟩,
  ⟨none, (.store 1 (.t 52) (.t 51)), none⟩]
def a6_12b : List Nat := [0, 1, 0, 4, 12, 28, 0, 64, 252, 511, 1023]
def a6_13 : List AOper := [
  ⟨(some 54), (.bin .eql (.t 33) (.c (.int .i64 2))), none⟩,
  ⟨(some 53), (.mv (.t 54)), none⟩]
def a6_14 : List AOper := [
  ⟨(some 55), (.mv (.t 3)), none⟩,
  ⟨(some 56), (.fieldAddr 1 (.t 7)), none⟩,
  ⟨(some 57), (.load false 1 (.t 56)), none⟩,
  ⟨(some 58), (.fieldAddr 2 (.t 7)), none⟩,
  ⟨(some 59), (.load false 1 (.t 58)), none⟩,
  ⟨(some 60), (.call 13 [(.t 55), (.t 57), (.t 59)]), none⟩]
def a6_15 : List AOper := [
  ⟨(some 62), (.bin .eql (.t 33) (.c (.int .i64 3))), none⟩,
  ⟨(some 61), (.mv (.t 62)), none⟩]
def a6_16 : List AOper := [
  ⟨(some 63), (.mv (.t 3)), none⟩,
  ⟨(some 64), (.fieldAddr 1 (.t 7)), none⟩,
  ⟨(some 65), (.load false 1 (.t 64)), none⟩,
  ⟨(some 66), (.fieldAddr 3 (.t 7)), none⟩,
  ⟨(some 67), (.load false 1 (.t 66)), none⟩,
  ⟨(some 68), (.call 18 [(.t 63), (.t 65), (.t 67)]), none⟩]
def a6_17 : List AOper := [
  ⟨(some 70), (.bin .eql (.t 33) (.c (.int .i64 4))), none⟩,
  ⟨(some 69), (.mv (.t 70)), none⟩]
def a6_18 : List AOper := [
  ⟨(some 72), (.mv (.t 3)), none⟩,
  ⟨(some 73), (.fieldAddr 1 (.t 7)), none⟩,
  ⟨(some 74), (.load false 1 (.t 73)), none⟩,
  ⟨(some 75), (.fieldAddr 2 (.t 7)), none⟩,
  ⟨(some 76), (.load false 1 (.t 75)), none⟩,
  ⟨(some 77), (.call 14 [(.t 72), (.t 74), (.t 76)]), none⟩,
  ⟨(some 71), (.mv (.t 77)), none⟩,
  ⟨(some 78), (.extract (.t 71) 0), none⟩,
  ⟨(some 79), (.extract (.t 71) 1), none⟩,
  ⟨(some 8), (.mv (.t 78)), none⟩,
  ⟨(some 9), (.mv (.t 79)), none⟩]
def a6_19 : List AOper := [
  ⟨(some 80), (.fieldAddr 1 (.t 7)), none⟩,
  ⟨(some 81), (.load false 1 (.t 80)), none⟩,
  ⟨(some 82), (.fieldAddr 1 (.t 7)), none⟩,
  ⟨(some 83), (.load false 1 (.t 82)), none⟩,
  ⟨(some 84), (.idxAddrArr 1 2 (.t 5) (.t 83)), none⟩,
  ⟨(some 85), (.load false 1 (.t 84)), none⟩,
  ⟨(some 86), (.mv (.t 8)), none⟩,
  ⟨(some 87), (.append 1 1 (.t 85) (.t 86)), none⟩,
  ⟨(some 88), (.idxAddrArr 1 2 (.t 5) (.t 81)), none⟩,
  ⟨none, (.store 1 (.t 88) (.t 87)), none⟩]
def a6_19b : List Nat := [0, 1, 0, 4, 12, 28, 0, 124, 255, 511]
def a6_20 : List AOper := [
  ⟨(some 90), (.bin .eql (.t 33) (.c (.int .i64 5))), none⟩,
  ⟨(some 89), (.mv (.t 90)), none⟩]
def a6_21 : List AOper := [
  ⟨(some 91), (.mv (.t 3)), none⟩,
  ⟨(some 92), (.call 19 [(.t 91)]), none⟩]
def a6_22 : List AOper := [
  ⟨(some 94), (.bin .eql (.t 33) (.c (.int .i64 6))), none⟩,
  ⟨(some 93), (.mv (.t 94)), none⟩]
def a6_23 : List AOper := [
  ⟨(some 95), (.mv (.t 3)), none⟩,
  ⟨(some 96), (.fieldAddr 1 (.t 7)), none⟩,
  ⟨(some 97), (.load false 1 (.t 96)), none⟩,
  ⟨(some 98), (.call 20 [(.t 95), (.t 97)]), none⟩]
def a6_24 : List AOper := [
  ⟨(some 10), (.mv (.c (.int .i64 0))), none⟩]
def a6_25 : List AOper := [
  ⟨(some 99), (.mv (.t 10)), none⟩,
  ⟨(some 100), (.bin .lss (.t 99) (.c (.int .i64 2))), none⟩]
def a6_26 : List AOper := [
  ⟨(some 103), (.mv (.t 10)), none⟩,
  ⟨(some 104), (.idxAddrArr 1 2 (.t 5) (.t 103)), none⟩,
  ⟨(some 105), (.load false 1 (.t 104)), none⟩,
  ⟨(some 106), (.len false (.t 105)), none⟩,
  ⟨(some 107), (.mv (.t 10)), none⟩,
  ⟨(some 108), (.bin .sub (.c (.int .i64 1)) (.t 107)), none⟩,
  ⟨(some 109), (.idxAddrArr 1 2 (.t 4) (.t 108)), none⟩,
  ⟨(some 110), (.load false 1 (.t 109)), none⟩,
  ⟨(some 111), (.len false (.t 110)), none⟩,
  ⟨(some 112), (.bin .gtr (.t 106) (.t 111)), none⟩,
  ⟨(some 113), (.mv (.t 112)), none⟩,
  ⟨(some 114), (.mv (.t 10)), (some (113, false))⟩,
  ⟨(some 115), (.idxAddrArr 1 2 (.t 5) (.t 114)), (some (113, false))⟩,
  ⟨(some 116), (.load false 1 (.t 115)), (some (113, false))⟩,
  ⟨(some 117), (.conv .b2s (.t 116)), (some (113, false))⟩,
  ⟨(some 118), (.mv (.t 10)), (some (113, false))⟩,
  ⟨(some 119), (.bin .sub (.c (.int .i64 1)) (.t 118)), (some (113, false))⟩,
  ⟨(some 120), (.idxAddrArr 1 2 (.t 4) (.t 119)), (some (113, false))⟩,
  ⟨(some 121), (.load false 1 (.t 120)), (some (113, false))⟩,
  ⟨(some 122), (.mv (.t 10)), (some (113, false))⟩,
  ⟨(some 123), (.idxAddrArr 1 2 (.t 5) (.t 122)), (some (113, false))⟩,
  ⟨(some 124), (.load false 1 (.t 123)), (some (113, false))⟩,
  ⟨(some 125), (.len false (.t 124)), (some (113, false))⟩,
  ⟨(some 126), (.slice 1 (.t 121) none (some (.t 125)) none), (some (113, false))⟩,
  ⟨(some 127), (.conv .b2s (.t 126)), (some (113, false))⟩,
  ⟨(some 128), (.bin .neq (.t 117) (.t 127)), (some (113, false))⟩,
  ⟨(some 129), (.pick (.t 113) (.c (.bool true)) (.t 128)), none⟩]
def a6_26b : List Nat := [0, 1, 3, 7, 0, 16, 48, 112, 240, 511, 1023, 2047, 4095, 8191, 16383, 2047, 34815, 100351, 231423, 2047, 526335, 1574911, 3672063, 8357887, 16746495, 33554431, 67108863]
def a6_27 : List AOper := [
  ⟨(some 2), (.mv (.c (.bool false))), none⟩]
def a6_28 : List AOper := [
  ⟨(some 101), (.mv (.t 10)), none⟩,
  ⟨(some 102), (.bin .add (.t 101) (.c (.int .i64 1))), none⟩,
  ⟨(some 10), (.mv (.t 102)), none⟩]
def a6_l29 : AC := (.seq (.seq (.ops a6_25) (.cond (.t 100) .skip (.exit 3))) (.seq (.block 4 (.seq (.draw a6_26 a6_26b) (.cond (.t 129) (.seq (.ops a6_27) .ret) .skip))) (.ops a6_28)))
def a6_30 : List AOper := [
  ⟨(some 18), (.mv (.t 6)), none⟩,
  ⟨(some 19), (.bin .add (.t 18) (.c (.int .i64 1))), none⟩,
  ⟨(some 6), (.mv (.t 19)), none⟩]
def a6_l31 : AC := (.seq (.seq (.ops a6_6) (.cond (.t 17) .skip (.exit 0))) (.seq (.block 1 (.seq (.ops a6_7) (.seq (.seq (.ops a6_8) (.cond (.t 31) (.exit 1) .skip)) (.seq (.seq (.ops a6_9) (.block 2 (.seq (.ops a6_10) (.cond (.t 34) (.seq (.ops a6_11) (.cond (.t 42) (.draw a6_12 a6_12b) .skip)) (.seq (.ops a6_13) (.cond (.t 53) (.ops a6_14) (.seq (.ops a6_15) (.cond (.t 61) (.ops a6_16) (.seq (.ops a6_17) (.cond (.t 69) (.seq (.ops a6_18) (.draw a6_19 a6_19b)) (.seq (.ops a6_20) (.cond (.t 89) (.ops a6_21) (.seq (.ops a6_22) (.cond (.t 93) (.ops a6_23) .skip)))))))))))))) (.seq (.ops a6_24) (.block 3 (.loop a6_l29))))))) (.ops a6_30)))
def a6_32 : List AOper := [
  ⟨(some 130), (.call 11 []), none⟩,
  ⟨(some 2), (.mv (.t 130)), none⟩]
def a6 : AFunc := ⟨[.tmp 2], (.seq (.ops a6_0) (.seq (.ops a6_1) (.seq (.seq (.ops a6_2) (.cond (.t 13) (.seq (.ops a6_3) .ret) .skip)) (.seq (.ops a6_4) (.seq (.seq (.ops a6_5) (.block 0 (.loop a6_l31))) (.seq (.ops a6_32) .ret))))))⟩
/-! ### 7: heddle/heddlelaw05.StreamRuns (31 slots) -/
def a7_0 : List AOper := [
  ⟨(some 2), (.mv (.c (.bool false))), none⟩]
def a7_1 : List AOper := [
  ⟨(some 6), (.call 10 []), none⟩,
  ⟨(some 7), (.call 21 []), none⟩,
  ⟨(some 3), (.mv (.t 6)), none⟩,
  ⟨(some 4), (.mv (.t 7)), none⟩]
def a7_2 : List AOper := [
  ⟨(some 8), (.mv (.t 3)), none⟩,
  ⟨(some 9), (.eq false .ptr (.t 8) (.c .nilp)), none⟩,
  ⟨(some 10), (.mv (.t 9)), none⟩,
  ⟨(some 11), (.call 11 []), (some (10, false))⟩,
  ⟨(some 12), (.un .not (.t 11)), (some (10, false))⟩,
  ⟨(some 13), (.pick (.t 10) (.c (.bool true)) (.t 12)), none⟩]
def a7_3 : List AOper := [
  ⟨(some 2), (.mv (.c (.bool false))), none⟩]
def a7_4 : List AOper := [
  ⟨(some 5), (.mv (.c (.int .i64 0))), none⟩]
def a7_5 : List AOper := [
  ⟨(some 14), (.mv (.t 5)), none⟩,
  ⟨(some 15), (.mv (.t 0)), none⟩,
  ⟨(some 16), (.len false (.t 15)), none⟩,
  ⟨(some 17), (.bin .lss (.t 14) (.t 16)), none⟩]
def a7_6 : List AOper := [
  ⟨(some 20), (.mv (.t 3)), none⟩,
  ⟨(some 21), (.mv (.t 4)), none⟩,
  ⟨(some 22), (.mv (.t 0)), none⟩,
  ⟨(some 23), (.mv (.t 5)), none⟩,
  ⟨(some 24), (.idxAddr 5 (.t 22) (.t 23)), none⟩,
  ⟨(some 25), (.load true 5 (.t 24)), none⟩,
  ⟨(some 26), (.call 22 [(.t 20), (.t 21), (.t 25)]), none⟩,
  ⟨(some 27), (.un .not (.t 26)), none⟩]
def a7_7 : List AOper := [
  ⟨(some 2), (.mv (.c (.bool false))), none⟩]
def a7_8 : List AOper := [
  ⟨(some 18), (.mv (.t 5)), none⟩,
  ⟨(some 19), (.bin .add (.t 18) (.c (.int .i64 1))), none⟩,
  ⟨(some 5), (.mv (.t 19)), none⟩]
def a7_l9 : AC := (.seq (.seq (.ops a7_5) (.cond (.t 17) .skip (.exit 0))) (.seq (.block 1 (.seq (.ops a7_6) (.cond (.t 27) (.seq (.ops a7_7) .ret) .skip))) (.ops a7_8)))
def a7_10 : List AOper := [
  ⟨(some 28), (.mv (.t 3)), none⟩,
  ⟨(some 29), (.mv (.t 4)), none⟩,
  ⟨(some 30), (.call 23 [(.t 28), (.t 29)]), none⟩,
  ⟨(some 2), (.mv (.t 30)), none⟩]
def a7 : AFunc := ⟨[.tmp 2], (.seq (.ops a7_0) (.seq (.ops a7_1) (.seq (.seq (.ops a7_2) (.cond (.t 13) (.seq (.ops a7_3) .ret) .skip)) (.seq (.seq (.ops a7_4) (.block 0 (.loop a7_l9))) (.seq (.ops a7_10) .ret)))))⟩
/-! ### 8: heddle/heddlelaw05.StreamKeeps (94 slots) -/
def a8_0 : List AOper := [
  ⟨(some 2), (.mv (.c (.bool false))), none⟩]
def a8_1 : List AOper := [
  ⟨(some 11), (.call 10 []), none⟩,
  ⟨(some 3), (.mv (.t 11)), none⟩]
def a8_2 : List AOper := [
  ⟨(some 12), (.mv (.t 3)), none⟩,
  ⟨(some 13), (.eq false .ptr (.t 12) (.c .nilp)), none⟩]
def a8_3 : List AOper := [
  ⟨(some 2), (.mv (.c (.bool false))), none⟩]
def a8_4 : List AOper := [
  ⟨(some 14), (.call 21 []), none⟩,
  ⟨(some 4), (.mv (.t 14)), none⟩]
def a8_5 : List AOper := [
  ⟨(some 5), (.mv (.c (.int .i64 0))), none⟩]
def a8_6 : List AOper := [
  ⟨(some 15), (.mv (.t 5)), none⟩,
  ⟨(some 16), (.mv (.t 0)), none⟩,
  ⟨(some 17), (.len false (.t 16)), none⟩,
  ⟨(some 18), (.bin .lss (.t 15) (.t 17)), none⟩]
def a8_7 : List AOper := [
  ⟨(some 21), (.mv (.t 0)), none⟩,
  ⟨(some 22), (.mv (.t 5)), none⟩,
  ⟨(some 23), (.idxAddr 5 (.t 21) (.t 22)), none⟩,
  ⟨(some 24), (.load true 5 (.t 23)), none⟩,
  ⟨(some 6), (.alloc [(.int .i64 0), (.int .i64 0), (.int .i64 0), (.bool false), .nils]), none⟩,
  ⟨none, (.store 5 (.t 6) (.t 24)), none⟩]
def a8_8 : List AOper := [
  ⟨(some 25), (.fieldAddr 0 (.t 6)), none⟩,
  ⟨(some 26), (.load false 1 (.t 25)), none⟩,
  ⟨(some 27), (.bin .geq (.t 26) (.c (.int .i64 5))), none⟩]
def a8_9 : List AOper := [
  ⟨(some 28), (.mv (.t 3)), none⟩,
  ⟨(some 29), (.mv (.t 4)), none⟩,
  ⟨(some 30), (.load true 5 (.t 6)), none⟩,
  ⟨(some 31), (.call 22 [(.t 28), (.t 29), (.t 30)]), none⟩,
  ⟨(some 32), (.un .not (.t 31)), none⟩]
def a8_10 : List AOper := [
  ⟨(some 2), (.mv (.c (.bool false))), none⟩]
def a8_11 : List AOper := [
  ⟨(some 34), (.mv (.t 3)), none⟩,
  ⟨(some 35), (.call 15 [(.t 34), (.c (.int .i64 0))]), none⟩,
  ⟨(some 33), (.mv (.t 35)), none⟩,
  ⟨(some 36), (.extract (.t 33) 0), none⟩,
  ⟨(some 37), (.extract (.t 33) 1), none⟩,
  ⟨(some 7), (.alloc [(.int .i64 0), (.int .i64 0), (.int .i64 0), (.int .i64 0), (.int .i64 0), (.bool false), (.bool false)]), none⟩,
  ⟨none, (.store 7 (.t 7) (.t 36)), none⟩,
  ⟨(some 8), (.mv (.t 37)), none⟩]
def a8_12 : List AOper := [
  ⟨(some 39), (.mv (.t 3)), none⟩,
  ⟨(some 40), (.call 15 [(.t 39), (.c (.int .i64 1))]), none⟩,
  ⟨(some 38), (.mv (.t 40)), none⟩,
  ⟨(some 41), (.extract (.t 38) 0), none⟩,
  ⟨(some 42), (.extract (.t 38) 1), none⟩,
  ⟨(some 9), (.alloc [(.int .i64 0), (.int .i64 0), (.int .i64 0), (.int .i64 0), (.int .i64 0), (.bool false), (.bool false)]), none⟩,
  ⟨none, (.store 7 (.t 9) (.t 41)), none⟩,
  ⟨(some 10), (.mv (.t 42)), none⟩]
def a8_13 : List AOper := [
  ⟨(some 43), (.mv (.t 8)), none⟩,
  ⟨(some 44), (.eq true (.iface true) (.t 43) (.c .nili)), none⟩,
  ⟨(some 45), (.mv (.t 44)), none⟩,
  ⟨(some 46), (.mv (.t 10)), (some (45, false))⟩,
  ⟨(some 47), (.eq true (.iface true) (.t 46) (.c .nili)), (some (45, false))⟩,
  ⟨(some 48), (.pick (.t 45) (.c (.bool true)) (.t 47)), none⟩,
  ⟨(some 49), (.mv (.t 48)), none⟩,
  ⟨(some 50), (.fieldAddr 2 (.t 7)), (some (49, false))⟩,
  ⟨(some 51), (.load false 1 (.t 50)), (some (49, false))⟩,
  ⟨(some 52), (.fieldAddr 3 (.t 9)), (some (49, false))⟩,
  ⟨(some 53), (.load false 1 (.t 52)), (some (49, false))⟩,
  ⟨(some 54), (.fieldAddr 0 (.t 7)), (some (49, false))⟩,
  ⟨(some 55), (.load false 1 (.t 54)), (some (49, false))⟩,
  ⟨(some 56), (.bin .add (.t 53) (.t 55)), (some (49, false))⟩,
  ⟨(some 57), (.bin .neq (.t 51) (.t 56)), (some (49, false))⟩,
  ⟨(some 58), (.pick (.t 49) (.c (.bool true)) (.t 57)), none⟩,
  ⟨(some 59), (.mv (.t 58)), none⟩,
  ⟨(some 60), (.fieldAddr 2 (.t 9)), (some (59, false))⟩,
  ⟨(some 61), (.load false 1 (.t 60)), (some (59, false))⟩,
  ⟨(some 62), (.fieldAddr 3 (.t 7)), (some (59, false))⟩,
  ⟨(some 63), (.load false 1 (.t 62)), (some (59, false))⟩,
  ⟨(some 64), (.fieldAddr 0 (.t 9)), (some (59, false))⟩,
  ⟨(some 65), (.load false 1 (.t 64)), (some (59, false))⟩,
  ⟨(some 66), (.bin .add (.t 63) (.t 65)), (some (59, false))⟩,
  ⟨(some 67), (.bin .neq (.t 61) (.t 66)), (some (59, false))⟩,
  ⟨(some 68), (.pick (.t 59) (.c (.bool true)) (.t 67)), none⟩,
  ⟨(some 69), (.mv (.t 68)), none⟩,
  ⟨(some 70), (.fieldAddr 3 (.t 7)), (some (69, false))⟩,
  ⟨(some 71), (.load false 1 (.t 70)), (some (69, false))⟩,
  ⟨(some 72), (.fieldAddr 4 (.t 7)), (some (69, false))⟩,
  ⟨(some 73), (.load false 1 (.t 72)), (some (69, false))⟩,
  ⟨(some 74), (.fieldAddr 1 (.t 7)), (some (69, false))⟩,
  ⟨(some 75), (.load false 1 (.t 74)), (some (69, false))⟩,
  ⟨(some 76), (.bin .add (.t 73) (.t 75)), (some (69, false))⟩,
  ⟨(some 77), (.bin .neq (.t 71) (.t 76)), (some (69, false))⟩,
  ⟨(some 78), (.pick (.t 69) (.c (.bool true)) (.t 77)), none⟩,
  ⟨(some 79), (.mv (.t 78)), none⟩,
  ⟨(some 80), (.fieldAddr 3 (.t 9)), (some (79, false))⟩,
  ⟨(some 81), (.load false 1 (.t 80)), (some (79, false))⟩,
  ⟨(some 82), (.fieldAddr 4 (.t 9)), (some (79, false))⟩,
  ⟨(some 83), (.load false 1 (.t 82)), (some (79, false))⟩,
  ⟨(some 84), (.fieldAddr 1 (.t 9)), (some (79, false))⟩,
  ⟨(some 85), (.load false 1 (.t 84)), (some (79, false))⟩,
  ⟨(some 86), (.bin .add (.t 83) (.t 85)), (some (79, false))⟩,
  ⟨(some 87), (.bin .neq (.t 81) (.t 86)), (some (79, false))⟩,
  ⟨(some 88), (.pick (.t 79) (.c (.bool true)) (.t 87)), none⟩,
  ⟨(some 89), (.mv (.t 88)), none⟩,
  ⟨(some 90), (.fieldAddr 6 (.t 7)), (some (89, false))⟩,
  ⟨(some 91), (.load false 1 (.t 90)), (some (89, false))⟩,
  ⟨(some 92), (.pick (.t 89) (.c (.bool true)) (.t 91)), none⟩]
def a8_14 : List AOper := [
  ⟨(some 2), (.mv (.c (.bool false))), none⟩]
def a8_15 : List AOper := [
  ⟨(some 19), (.mv (.t 5)), none⟩,
  ⟨(some 20), (.bin .add (.t 19) (.c (.int .i64 1))), none⟩,
  ⟨(some 5), (.mv (.t 20)), none⟩]
def a8_l16 : AC := (.seq (.seq (.ops a8_6) (.cond (.t 18) .skip (.exit 0))) (.seq (.block 1 (.seq (.ops a8_7) (.seq (.seq (.ops a8_8) (.cond (.t 27) (.exit 1) .skip)) (.seq (.seq (.ops a8_9) (.cond (.t 32) (.seq (.ops a8_10) .ret) .skip)) (.seq (.ops a8_11) (.seq (.ops a8_12) (.seq (.ops a8_13) (.cond (.t 92) (.seq (.ops a8_14) .ret) .skip)))))))) (.ops a8_15)))
def a8_17 : List AOper := [
  ⟨(some 93), (.call 11 []), none⟩,
  ⟨(some 2), (.mv (.t 93)), none⟩]
def a8 : AFunc := ⟨[.tmp 2], (.seq (.ops a8_0) (.seq (.ops a8_1) (.seq (.seq (.ops a8_2) (.cond (.t 13) (.seq (.ops a8_3) .ret) .skip)) (.seq (.ops a8_4) (.seq (.seq (.ops a8_5) (.block 0 (.loop a8_l16))) (.seq (.ops a8_17) .ret))))))⟩
/-! ### 9: heddle/heddlelaw05.StreamNobody (98 slots) -/
def a9_0 : List AOper := [
  ⟨(some 1), (.box false 5 (.t 0)), none⟩,
  ⟨(some 2), (.mv (.c (.bool false))), none⟩]
def a9_1 : List AOper := [
  ⟨(some 3), (.mv (.c .nilp)), none⟩]
def a9_2 : List AOper := [
  ⟨(some 11), (.call 17 [(.c (.str [115, 116, 114, 101, 97, 109])), (.c (.int .i64 0)), (.c (.int .i64 3))]), none⟩,
  ⟨(some 4), (.mv (.t 11)), none⟩]
def a9_3 : List AOper := [
  ⟨(some 12), (.mv (.t 3)), none⟩,
  ⟨(some 13), (.build [(.bool false), (.bool false), .nils, .nils, (.int .i64 0), (.int .i64 0), (.int .i64 0), (.bool false), .nils, .nils, (.int .i64 0), (.int .i64 0), (.int .i64 0), (.bool false)] []), none⟩,
  ⟨(some 14), (.box false 14 (.t 13)), none⟩,
  ⟨(some 15), (.lit true 1 2 [.nilp, .nilp] [(0, 1, (.t 12)), (1, 1, (.t 14))]), none⟩,
  ⟨(some 16), (.len false (.t 15)), none⟩,
  ⟨(some 17), (.mv (.c (.int .i64 0))), none⟩]
def a9_4 : List AOper := [
  ⟨(some 18), (.bin .lss (.t 17) (.t 16)), none⟩]
def a9_5 : List AOper := [
  ⟨(some 19), (.idxAddr 1 (.t 15) (.t 17)), none⟩,
  ⟨(some 20), (.load false 1 (.t 19)), none⟩,
  ⟨(some 6), (.mv (.t 20)), none⟩]
def a9_6 : List AOper := [
  ⟨(some 22), (.mv (.t 6)), none⟩,
  ⟨(some 23), (.fieldAddr 1 (.t 1)), none⟩,
  ⟨(some 24), (.load false 1 (.t 23)), none⟩,
  ⟨(some 25), (.fieldAddr 2 (.t 1)), none⟩,
  ⟨(some 26), (.load false 1 (.t 25)), none⟩,
  ⟨(some 27), (.call 14 [(.t 22), (.t 24), (.t 26)]), none⟩,
  ⟨(some 21), (.mv (.t 27)), none⟩,
  ⟨(some 28), (.extract (.t 21) 0), none⟩,
  ⟨(some 29), (.extract (.t 21) 1), none⟩,
  ⟨(some 7), (.mv (.t 28)), none⟩,
  ⟨(some 8), (.mv (.t 29)), none⟩]
def a9_7 : List AOper := [
  ⟨(some 31), (.mv (.t 6)), none⟩,
  ⟨(some 32), (.fieldAddr 1 (.t 1)), none⟩,
  ⟨(some 33), (.load false 1 (.t 32)), none⟩,
  ⟨(some 34), (.call 15 [(.t 31), (.t 33)]), none⟩,
  ⟨(some 30), (.mv (.t 34)), none⟩,
  ⟨(some 35), (.extract (.t 30) 0), none⟩,
  ⟨(some 36), (.extract (.t 30) 1), none⟩,
  ⟨(some 9), (.alloc [(.int .i64 0), (.int .i64 0), (.int .i64 0), (.int .i64 0), (.int .i64 0), (.bool false), (.bool false)]), none⟩,
  ⟨none, (.store 7 (.t 9) (.t 35)), none⟩,
  ⟨(some 10), (.mv (.t 36)), none⟩]
def a9_8 : List AOper := [
  ⟨(some 37), (.mv (.t 6)), none⟩,
  ⟨(some 38), (.fieldAddr 1 (.t 1)), none⟩,
  ⟨(some 39), (.load false 1 (.t 38)), none⟩,
  ⟨(some 40), (.fieldAddr 4 (.t 1)), none⟩,
  ⟨(some 41), (.load false 1 (.t 40)), none⟩,
  ⟨(some 42), (.call 12 [(.t 37), (.t 39), (.t 41)]), none⟩,
  ⟨(some 43), (.mv (.t 4)), none⟩,
  ⟨(some 44), (.call 16 [(.t 42), (.t 43)]), none⟩,
  ⟨(some 45), (.un .not (.t 44)), none⟩,
  ⟨(some 46), (.mv (.t 45)), none⟩,
  ⟨(some 47), (.mv (.t 6)), (some (46, false))⟩,
  ⟨(some 48), (.fieldAddr 1 (.t 1)), (some (46, false))⟩,
  ⟨(some 49), (.load false 1 (.t 48)), (some (46, false))⟩,
  ⟨(some 50), (.fieldAddr 2 (.t 1)), (some (46, false))⟩,
  ⟨(some 51), (.load false 1 (.t 50)), (some (46, false))⟩,
  ⟨(some 52), (.call 13 [(.t 47), (.t 49), (.t 51)]), (some (46, false))⟩,
  ⟨(some 53), (.mv (.t 4)), (some (46, false))⟩,
  ⟨(some 54), (.call 16 [(.t 52), (.t 53)]), (some (46, false))⟩,
  ⟨(some 55), (.un .not (.t 54)), (some (46, false))⟩,
  ⟨(some 56), (.pick (.t 46) (.c (.bool true)) (.t 55)), none⟩,
  ⟨(some 57), (.mv (.t 56)), none⟩,
  ⟨(some 58), (.mv (.t 6)), (some (57, false))⟩,
  ⟨(some 59), (.fieldAddr 1 (.t 1)), (some (57, false))⟩,
  ⟨(some 60), (.load false 1 (.t 59)), (some (57, false))⟩,
  ⟨(some 61), (.fieldAddr 3 (.t 1)), (some (57, false))⟩,
  ⟨(some 62), (.load false 1 (.t 61)), (some (57, false))⟩,
  ⟨(some 63), (.call 18 [(.t 58), (.t 60), (.t 62)]), (some (57, false))⟩,
  ⟨(some 64), (.mv (.t 4)), (some (57, false))⟩,
  ⟨(some 65), (.call 16 [(.t 63), (.t 64)]), (some (57, false))⟩,
  ⟨(some 66), (.un .not (.t 65)), (some (57, false))⟩,
  ⟨(some 67), (.pick (.t 57) (.c (.bool true)) (.t 66)), none⟩,
  ⟨(some 68), (.mv (.t 67)), none⟩,
  ⟨(some 69), (.mv (.t 8)), (some (68, false))⟩,
  ⟨(some 70), (.mv (.t 4)), (some (68, false))⟩,
  ⟨(some 71), (.call 16 [(.t 69), (.t 70)]), (some (68, false))⟩,
  ⟨(some 72), (.un .not (.t 71)), (some (68, false))⟩,
  ⟨(some 73), (.pick (.t 68) (.c (.bool true)) (.t 72)), none⟩,
  ⟨(some 74), (.mv (.t 73)), none⟩,
  ⟨(some 75), (.mv (.t 10)), (some (74, false))⟩,
  ⟨(some 76), (.mv (.t 4)), (some (74, false))⟩,
  ⟨(some 77), (.call 16 [(.t 75), (.t 76)]), (some (74, false))⟩,
  ⟨(some 78), (.un .not (.t 77)), (some (74, false))⟩,
  ⟨(some 79), (.pick (.t 74) (.c (.bool true)) (.t 78)), none⟩,
  ⟨(some 80), (.mv (.t 79)), none⟩,
  ⟨(some 81), (.mv (.t 6)), (some (80, false))⟩,
  ⟨(some 82), (.call 19 [(.t 81)]), (some (80, false))⟩,
  ⟨(some 83), (.mv (.t 4)), (some (80, false))⟩,
  ⟨(some 84), (.call 16 [(.t 82), (.t 83)]), (some (80, false))⟩,
  ⟨(some 85), (.un .not (.t 84)), (some (80, false))⟩,
  ⟨(some 86), (.pick (.t 80) (.c (.bool true)) (.t 85)), none⟩,
  ⟨(some 87), (.mv (.t 86)), none⟩,
  ⟨(some 88), (.mv (.t 6)), (some (87, false))⟩,
  ⟨(some 89), (.fieldAddr 1 (.t 1)), (some (87, false))⟩,
  ⟨(some 90), (.load false 1 (.t 89)), (some (87, false))⟩,
  ⟨(some 91), (.call 20 [(.t 88), (.t 90)]), (some (87, false))⟩,
  ⟨(some 92), (.mv (.t 4)), (some (87, false))⟩,
  ⟨(some 93), (.call 16 [(.t 91), (.t 92)]), (some (87, false))⟩,
  ⟨(some 94), (.un .not (.t 93)), (some (87, false))⟩,
  ⟨(some 95), (.pick (.t 87) (.c (.bool true)) (.t 94)), none⟩]
def a9_9 : List AOper := [
  ⟨(some 2), (.mv (.c (.bool false))), none⟩]
def a9_10 : List AOper := [
  ⟨(some 96), (.bin .add (.t 17) (.c (.int .i64 1))), none⟩,
  ⟨(some 17), (.mv (.t 96)), none⟩]
def a9_l11 : AC := (.seq (.ops a9_4) (.seq (.cond (.t 18) .skip (.exit 0)) (.seq (.block 1 (.seq (.ops a9_5) (.seq (.ops a9_6) (.seq (.ops a9_7) (.seq (.ops a9_8) (.cond (.t 95) (.seq (.ops a9_9) .ret) .skip)))))) (.ops a9_10))))
def a9_12 : List AOper := [
  ⟨(some 97), (.call 11 []), none⟩,
  ⟨(some 2), (.mv (.t 97)), none⟩]
def a9 : AFunc := ⟨[.tmp 2], (.seq (.ops a9_0) (.seq (.ops a9_1) (.seq (.ops a9_2) (.seq (.seq (.ops a9_3) (.block 0 (.loop a9_l11))) (.seq (.ops a9_12) .ret)))))⟩
/-! ### 10: heddle/stream.New (3 slots) -/
def a10_0 : List AOper := [
  ⟨(some 0), (.mv (.c .nilp)), none⟩]
def a10_1 : List AOper := [
  ⟨(some 1), (.build [(.bool false), (.bool false), .nils, .nils, (.int .i64 0), (.int .i64 0), (.int .i64 0), (.bool false), .nils, .nils, (.int .i64 0), (.int .i64 0), (.int .i64 0), (.bool false)] [(0, 1, (.c (.bool true)))]), none⟩,
  ⟨(some 2), (.box false 14 (.t 1)), none⟩,
  ⟨(some 0), (.mv (.t 2)), none⟩]
def a10 : AFunc := ⟨[.tmp 0], (.seq (.ops a10_0) (.seq (.ops a10_1) .ret))⟩
/-! ### 11: heddle/heddlelaw05.alive (50 slots) -/
def a11_0 : List AOper := [
  ⟨(some 0), (.mv (.c (.bool false))), none⟩]
def a11_1 : List AOper := [
  ⟨(some 7), (.call 10 []), none⟩,
  ⟨(some 1), (.mv (.t 7)), none⟩]
def a11_2 : List AOper := [
  ⟨(some 8), (.mv (.t 1)), none⟩,
  ⟨(some 9), (.eq false .ptr (.t 8) (.c .nilp)), none⟩,
  ⟨(some 10), (.mv (.t 9)), none⟩,
  ⟨(some 11), (.mv (.t 1)), (some (10, false))⟩,
  ⟨(some 12), (.lit false 1 5 [(.int .u8 0), (.int .u8 0), (.int .u8 0), (.int .u8 0), (.int .u8 0)] [(0, 1, (.c (.int .u8 104))), (1, 1, (.c (.int .u8 101))), (2, 1, (.c (.int .u8 108))), (3, 1, (.c (.int .u8 108))), (4, 1, (.c (.int .u8 111)))]), (some (10, false))⟩,
  ⟨(some 13), (.conv .b2b (.t 12)), (some (10, false))⟩,
  ⟨(some 14), (.call 12 [(.t 11), (.c (.int .i64 0)), (.t 13)]), (some (10, false))⟩,
  ⟨(some 15), (.eq true (.iface true) (.t 14) (.c .nili)), (some (10, false))⟩,
  ⟨(some 16), (.pick (.t 10) (.c (.bool true)) (.t 15)), none⟩,
  ⟨(some 17), (.mv (.t 16)), none⟩,
  ⟨(some 18), (.mv (.t 1)), (some (17, false))⟩,
  ⟨(some 19), (.call 13 [(.t 18), (.c (.int .i64 0)), (.c (.int .i64 2))]), (some (17, false))⟩,
  ⟨(some 20), (.eq true (.iface true) (.t 19) (.c .nili)), (some (17, false))⟩,
  ⟨(some 21), (.pick (.t 17) (.c (.bool true)) (.t 20)), none⟩]
def a11_3 : List AOper := [
  ⟨(some 0), (.mv (.c (.bool false))), none⟩]
def a11_4 : List AOper := [
  ⟨(some 23), (.mv (.t 1)), none⟩,
  ⟨(some 24), (.call 14 [(.t 23), (.c (.int .i64 1)), (.c (.int .i64 10))]), none⟩,
  ⟨(some 22), (.mv (.t 24)), none⟩,
  ⟨(some 25), (.extract (.t 22) 0), none⟩,
  ⟨(some 26), (.extract (.t 22) 1), none⟩,
  ⟨(some 2), (.mv (.t 25)), none⟩,
  ⟨(some 3), (.mv (.t 26)), none⟩]
def a11_5 : List AOper := [
  ⟨(some 27), (.mv (.t 1)), none⟩,
  ⟨(some 28), (.call 19 [(.t 27)]), none⟩,
  ⟨(some 4), (.mv (.t 28)), none⟩]
def a11_6 : List AOper := [
  ⟨(some 30), (.mv (.t 1)), none⟩,
  ⟨(some 31), (.call 14 [(.t 30), (.c (.int .i64 1)), (.c (.int .i64 10))]), none⟩,
  ⟨(some 29), (.mv (.t 31)), none⟩,
  ⟨(some 32), (.extract (.t 29) 0), none⟩,
  ⟨(some 33), (.extract (.t 29) 1), none⟩,
  ⟨(some 5), (.mv (.t 32)), none⟩,
  ⟨(some 6), (.mv (.t 33)), none⟩]
def a11_7 : List AOper := [
  ⟨(some 34), (.mv (.t 3)), none⟩,
  ⟨(some 35), (.eq false (.iface true) (.t 34) (.c .nili)), none⟩,
  ⟨(some 36), (.mv (.t 35)), none⟩,
  ⟨(some 37), (.mv (.t 4)), (some (36, true))⟩,
  ⟨(some 38), (.eq false (.iface true) (.t 37) (.c .nili)), (some (36, true))⟩,
  ⟨(some 39), (.pick (.t 36) (.t 38) (.c (.bool false))), none⟩,
  ⟨(some 40), (.mv (.t 39)), none⟩,
  ⟨(some 41), (.mv (.t 2)), (some (40, true))⟩,
  ⟨(some 42), (.conv .b2s (.t 41)), (some (40, true))⟩,
  ⟨(some 43), (.bin .eql (.t 42) (.c (.str [104, 101]))), (some (40, true))⟩,
  ⟨(some 44), (.pick (.t 40) (.t 43) (.c (.bool false))), none⟩,
  ⟨(some 45), (.mv (.t 44)), none⟩,
  ⟨(some 46), (.mv (.t 6)), (some (45, true))⟩,
  ⟨(some 47), (.call 17 [(.c (.str [115, 116, 114, 101, 97, 109])), (.c (.int .i64 0)), (.c (.int .i64 8))]), (some (45, true))⟩,
  ⟨(some 48), (.call 16 [(.t 46), (.t 47)]), (some (45, true))⟩,
  ⟨(some 49), (.pick (.t 45) (.t 48) (.c (.bool false))), none⟩,
  ⟨(some 0), (.mv (.t 49)), none⟩]
def a11 : AFunc := ⟨[.tmp 0], (.seq (.ops a11_0) (.seq (.ops a11_1) (.seq (.seq (.ops a11_2) (.cond (.t 21) (.seq (.ops a11_3) .ret) .skip)) (.seq (.ops a11_4) (.seq (.ops a11_5) (.seq (.ops a11_6) (.seq (.ops a11_7) .ret)))))))⟩
/-! ### 12: (*heddle/stream.Stream).Send (48 slots) -/
def a12_0 : List AOper := [
  ⟨(some 6), (.mv (.c .nili)), none⟩]
def a12_1 : List AOper := [
  ⟨(some 9), (.mv (.t 0)), none⟩,
  ⟨(some 10), (.mv (.t 1)), none⟩,
  ⟨(some 11), (.call 24 [(.t 9), (.t 10)]), none⟩,
  ⟨(some 7), (.mv (.t 11)), none⟩]
def a12_2 : List AOper := [
  ⟨(some 12), (.mv (.t 7)), none⟩,
  ⟨(some 13), (.eq true (.iface true) (.t 12) (.c .nili)), none⟩]
def a12_3 : List AOper := [
  ⟨(some 14), (.mv (.t 7)), none⟩,
  ⟨(some 6), (.mv (.t 14)), none⟩]
def a12_4 : List AOper := [
  ⟨(some 15), (.mv (.t 0)), none⟩,
  ⟨(some 16), (.mv (.t 1)), none⟩,
  ⟨(some 17), (.nilCheck (.t 15)), none⟩,
  ⟨(some 18), (.fieldAddr 2 (.t 17)), none⟩,
  ⟨(some 19), (.idxAddrArr 6 2 (.t 18) (.t 16)), none⟩,
  ⟨(some 8), (.mv (.t 19)), none⟩]
def a12_5 : List AOper := [
  ⟨(some 20), (.mv (.t 2)), none⟩,
  ⟨(some 21), (.len false (.t 20)), none⟩,
  ⟨(some 22), (.mv (.t 8)), none⟩,
  ⟨(some 23), (.nilCheck (.t 22)), none⟩,
  ⟨(some 24), (.fieldAddr 0 (.t 23)), none⟩,
  ⟨(some 25), (.load false 1 (.t 24)), none⟩,
  ⟨(some 26), (.len false (.t 25)), none⟩,
  ⟨(some 27), (.bin .sub (.c (.int .i64 4194304)) (.t 26)), none⟩,
  ⟨(some 28), (.bin .gtr (.t 21) (.t 27)), none⟩]
def a12_6 : List AOper := [
  ⟨(some 29), (.call 25 [(.c (.int .i64 4))]), none⟩,
  ⟨(some 6), (.mv (.t 29)), none⟩]
def a12_7 : List AOper := [
  ⟨(some 30), (.mv (.t 8)), none⟩,
  ⟨(some 31), (.mv (.t 8)), none⟩,
  ⟨(some 32), (.nilCheck (.t 31)), none⟩,
  ⟨(some 33), (.fieldAddr 0 (.t 32)), none⟩,
  ⟨(some 34), (.load false 1 (.t 33)), none⟩,
  ⟨(some 35), (.mv (.t 2)), none⟩,
  ⟨(some 36), (.append 1 1 (.t 34) (.t 35)), none⟩,
  ⟨(some 37), (.nilCheck (.t 30)), none⟩,
  ⟨(some 38), (.fieldAddr 0 (.t 37)), none⟩,
  ⟨none, (.store 1 (.t 38) (.t 36)), none⟩]
def a12_8 : List AOper := [
  ⟨(some 39), (.mv (.t 8)), none⟩,
  ⟨(some 40), (.nilCheck (.t 39)), none⟩,
  ⟨(some 41), (.fieldAddr 2 (.t 40)), none⟩,
  ⟨(some 42), (.load false 1 (.t 41)), none⟩,
  ⟨(some 43), (.mv (.t 2)), none⟩,
  ⟨(some 44), (.len false (.t 43)), none⟩,
  ⟨(some 45), (.bin .add (.t 42) (.t 44)), none⟩,
  ⟨(some 46), (.nilCheck (.t 39)), none⟩,
  ⟨(some 47), (.fieldAddr 2 (.t 46)), none⟩,
  ⟨none, (.store 1 (.t 47) (.t 45)), none⟩]
def a12_9 : List AOper := [
  ⟨(some 6), (.mv (.c .nili)), none⟩]
def a12 : AFunc := ⟨[.tmp 6], (.seq (.ops a12_0) (.seq (.seq (.ops a12_1) (.seq (.ops a12_2) (.cond (.t 13) (.seq (.ops a12_3) .ret) .skip))) (.seq (.ops a12_4) (.seq (.seq (.ops a12_5) (.cond (.t 28) (.seq (.ops a12_6) .ret) .skip)) (.seq (.ops a12_7) (.seq (.ops a12_8) (.seq (.ops a12_9) .ret)))))))⟩
/-! ### 13: (*heddle/stream.Stream).Move (60 slots) -/
def a13_0 : List AOper := [
  ⟨(some 6), (.mv (.c .nili)), none⟩]
def a13_1 : List AOper := [
  ⟨(some 10), (.mv (.t 0)), none⟩,
  ⟨(some 11), (.mv (.t 1)), none⟩,
  ⟨(some 12), (.call 24 [(.t 10), (.t 11)]), none⟩,
  ⟨(some 7), (.mv (.t 12)), none⟩]
def a13_2 : List AOper := [
  ⟨(some 13), (.mv (.t 7)), none⟩,
  ⟨(some 14), (.eq true (.iface true) (.t 13) (.c .nili)), none⟩]
def a13_3 : List AOper := [
  ⟨(some 15), (.mv (.t 7)), none⟩,
  ⟨(some 6), (.mv (.t 15)), none⟩]
def a13_4 : List AOper := [
  ⟨(some 16), (.mv (.t 0)), none⟩,
  ⟨(some 17), (.mv (.t 1)), none⟩,
  ⟨(some 18), (.nilCheck (.t 16)), none⟩,
  ⟨(some 19), (.fieldAddr 2 (.t 18)), none⟩,
  ⟨(some 20), (.idxAddrArr 6 2 (.t 19) (.t 17)), none⟩,
  ⟨(some 8), (.mv (.t 20)), none⟩]
def a13_5 : List AOper := [
  ⟨(some 22), (.mv (.t 2)), none⟩,
  ⟨(some 23), (.bin .lss (.t 22) (.c (.int .i64 0))), none⟩,
  ⟨(some 21), (.mv (.t 23)), none⟩]
def a13_6 : List AOper := [
  ⟨(some 24), (.call 25 [(.c (.int .i64 1))]), none⟩,
  ⟨(some 6), (.mv (.t 24)), none⟩]
def a13_7 : List AOper := [
  ⟨(some 26), (.mv (.t 8)), none⟩,
  ⟨(some 27), (.nilCheck (.t 26)), none⟩,
  ⟨(some 28), (.fieldAddr 5 (.t 27)), none⟩,
  ⟨(some 29), (.load false 1 (.t 28)), none⟩,
  ⟨(some 25), (.mv (.t 29)), none⟩]
def a13_8 : List AOper := [
  ⟨(some 30), (.call 25 [(.c (.int .i64 101))]), none⟩,
  ⟨(some 6), (.mv (.t 30)), none⟩]
def a13_9 : List AOper := [
  ⟨(some 32), (.mv (.t 2)), none⟩,
  ⟨(some 33), (.mv (.t 8)), none⟩,
  ⟨(some 34), (.nilCheck (.t 33)), none⟩,
  ⟨(some 35), (.fieldAddr 0 (.t 34)), none⟩,
  ⟨(some 36), (.load false 1 (.t 35)), none⟩,
  ⟨(some 37), (.len false (.t 36)), none⟩,
  ⟨(some 38), (.bin .gtr (.t 32) (.t 37)), none⟩,
  ⟨(some 31), (.mv (.t 38)), none⟩]
def a13_10 : List AOper := [
  ⟨(some 39), (.call 25 [(.c (.int .i64 102))]), none⟩,
  ⟨(some 6), (.mv (.t 39)), none⟩]
def a13_11 : List AOper := [
  ⟨(some 41), (.mv (.t 2)), none⟩,
  ⟨(some 42), (.mv (.t 0)), none⟩,
  ⟨(some 43), (.mv (.t 1)), none⟩,
  ⟨(some 44), (.bin .sub (.c (.int .i64 1)) (.t 43)), none⟩,
  ⟨(some 45), (.nilCheck (.t 42)), none⟩,
  ⟨(some 46), (.fieldAddr 2 (.t 45)), none⟩,
  ⟨(some 47), (.idxAddrArr 6 2 (.t 46) (.t 44)), none⟩,
  ⟨(some 48), (.fieldAddr 1 (.t 47)), none⟩,
  ⟨(some 49), (.load false 1 (.t 48)), none⟩,
  ⟨(some 50), (.len false (.t 49)), none⟩,
  ⟨(some 51), (.bin .sub (.c (.int .i64 4194304)) (.t 50)), none⟩,
  ⟨(some 52), (.bin .gtr (.t 41) (.t 51)), none⟩,
  ⟨(some 40), (.mv (.t 52)), none⟩]
def a13_12 : List AOper := [
  ⟨(some 53), (.call 25 [(.c (.int .i64 5))]), none⟩,
  ⟨(some 6), (.mv (.t 53)), none⟩]
def a13_13 : List AOper := [
  ⟨(some 54), (.mv (.t 0)), none⟩,
  ⟨(some 55), (.mkFunc (.func 26) [(.t 54)] []), none⟩,
  ⟨(some 9), (.mv (.t 55)), none⟩]
def a13_14 : List AOper := [
  ⟨(some 56), (.mv (.t 9)), none⟩,
  ⟨(some 57), (.mv (.t 1)), none⟩,
  ⟨(some 58), (.mv (.t 2)), none⟩,
  ⟨(some 59), (.callv (.t 56) [(.t 57), (.t 58)]), none⟩]
def a13_15 : List AOper := [
  ⟨(some 6), (.mv (.c .nili)), none⟩]
def a13 : AFunc := ⟨[.tmp 6], (.seq (.ops a13_0) (.seq (.seq (.ops a13_1) (.seq (.ops a13_2) (.cond (.t 14) (.seq (.ops a13_3) .ret) .skip))) (.seq (.ops a13_4) (.seq (.block 0 (.seq (.ops a13_5) (.cond (.t 21) (.seq (.ops a13_6) .ret) (.seq (.ops a13_7) (.cond (.t 25) (.seq (.ops a13_8) .ret) (.seq (.ops a13_9) (.cond (.t 31) (.seq (.ops a13_10) .ret) (.seq (.ops a13_11) (.cond (.t 40) (.seq (.ops a13_12) .ret) .skip))))))))) (.seq (.ops a13_13) (.seq (.ops a13_14) (.seq (.ops a13_15) .ret)))))))⟩
/-! ### 14: (*heddle/stream.Stream).Read (78 slots) -/
def a14_0 : List AOper := [
  ⟨(some 6), (.mv (.c .nils)), none⟩,
  ⟨(some 7), (.mv (.c .nili)), none⟩]
def a14_1 : List AOper := [
  ⟨(some 13), (.mv (.t 0)), none⟩,
  ⟨(some 14), (.mv (.t 1)), none⟩,
  ⟨(some 15), (.call 24 [(.t 13), (.t 14)]), none⟩,
  ⟨(some 8), (.mv (.t 15)), none⟩]
def a14_2 : List AOper := [
  ⟨(some 16), (.mv (.t 8)), none⟩,
  ⟨(some 17), (.mkIface 42 (.c (.int .i64 100))), none⟩,
  ⟨(some 18), (.call 27 [(.t 16), (.t 17)]), none⟩,
  ⟨(some 9), (.mv (.t 18)), none⟩]
def a14_3 : List AOper := [
  ⟨(some 19), (.mv (.t 8)), none⟩,
  ⟨(some 20), (.eq true (.iface true) (.t 19) (.c .nili)), none⟩,
  ⟨(some 21), (.mv (.t 20)), none⟩,
  ⟨(some 22), (.mv (.t 9)), (some (21, true))⟩,
  ⟨(some 23), (.un .not (.t 22)), (some (21, true))⟩,
  ⟨(some 24), (.pick (.t 21) (.t 23) (.c (.bool false))), none⟩]
def a14_4 : List AOper := [
  ⟨(some 25), (.mv (.t 8)), none⟩,
  ⟨(some 6), (.mv (.c .nils)), none⟩,
  ⟨(some 7), (.mv (.t 25)), none⟩]
def a14_5 : List AOper := [
  ⟨(some 26), (.mv (.t 2)), none⟩,
  ⟨(some 27), (.bin .lss (.t 26) (.c (.int .i64 0))), none⟩]
def a14_6 : List AOper := [
  ⟨(some 28), (.call 25 [(.c (.int .i64 1))]), none⟩,
  ⟨(some 6), (.mv (.c .nils)), none⟩,
  ⟨(some 7), (.mv (.t 28)), none⟩]
def a14_7 : List AOper := [
  ⟨(some 29), (.mv (.t 0)), none⟩,
  ⟨(some 30), (.mv (.t 1)), none⟩,
  ⟨(some 31), (.nilCheck (.t 29)), none⟩,
  ⟨(some 32), (.fieldAddr 2 (.t 31)), none⟩,
  ⟨(some 33), (.idxAddrArr 6 2 (.t 32) (.t 30)), none⟩,
  ⟨(some 10), (.mv (.t 33)), none⟩]
def a14_8 : List AOper := [
  ⟨(some 34), (.mv (.t 9)), none⟩,
  ⟨(some 35), (.mv (.t 34)), none⟩,
  ⟨(some 36), (.mv (.t 10)), (some (35, true))⟩,
  ⟨(some 37), (.nilCheck (.t 36)), (some (35, true))⟩,
  ⟨(some 38), (.fieldAddr 1 (.t 37)), (some (35, true))⟩,
  ⟨(some 39), (.load false 1 (.t 38)), (some (35, true))⟩,
  ⟨(some 40), (.len false (.t 39)), (some (35, true))⟩,
  ⟨(some 41), (.bin .eql (.t 40) (.c (.int .i64 0))), (some (35, true))⟩,
  ⟨(some 42), (.pick (.t 35) (.t 41) (.c (.bool false))), none⟩]
def a14_9 : List AOper := [
  ⟨(some 43), (.call 25 [(.c (.int .i64 8))]), none⟩,
  ⟨(some 6), (.mv (.c .nils)), none⟩,
  ⟨(some 7), (.mv (.t 43)), none⟩]
def a14_10 : List AOper := [
  ⟨(some 44), (.mv (.t 2)), none⟩,
  ⟨(some 45), (.mv (.t 10)), none⟩,
  ⟨(some 46), (.nilCheck (.t 45)), none⟩,
  ⟨(some 47), (.fieldAddr 1 (.t 46)), none⟩,
  ⟨(some 48), (.load false 1 (.t 47)), none⟩,
  ⟨(some 49), (.len false (.t 48)), none⟩,
  ⟨(some 50), (.minmax false (.t 44) (.t 49)), none⟩,
  ⟨(some 11), (.mv (.t 50)), none⟩]
def a14_11 : List AOper := [
  ⟨(some 51), (.mv (.t 10)), none⟩,
  ⟨(some 52), (.nilCheck (.t 51)), none⟩,
  ⟨(some 53), (.fieldAddr 1 (.t 52)), none⟩,
  ⟨(some 54), (.load false 1 (.t 53)), none⟩,
  ⟨(some 55), (.mv (.t 11)), none⟩,
  ⟨(some 56), (.mv (.t 11)), none⟩,
  ⟨(some 57), (.slice 1 (.t 54) none (some (.t 55)) (some (.t 56))), none⟩,
  ⟨(some 58), (.call 28 [(.t 57)]), none⟩,
  ⟨(some 12), (.mv (.t 58)), none⟩]
def a14_12 : List AOper := [
  ⟨(some 59), (.mv (.t 10)), none⟩,
  ⟨(some 60), (.mv (.t 10)), none⟩,
  ⟨(some 61), (.nilCheck (.t 60)), none⟩,
  ⟨(some 62), (.fieldAddr 1 (.t 61)), none⟩,
  ⟨(some 63), (.load false 1 (.t 62)), none⟩,
  ⟨(some 64), (.mv (.t 11)), none⟩,
  ⟨(some 65), (.slice 1 (.t 63) (some (.t 64)) none none), none⟩,
  ⟨(some 66), (.call 28 [(.t 65)]), none⟩,
  ⟨(some 67), (.nilCheck (.t 59)), none⟩,
  ⟨(some 68), (.fieldAddr 1 (.t 67)), none⟩,
  ⟨none, (.store 1 (.t 68) (.t 66)), none⟩]
def a14_13 : List AOper := [
  ⟨(some 69), (.mv (.t 10)), none⟩,
  ⟨(some 70), (.nilCheck (.t 69)), none⟩,
  ⟨(some 71), (.fieldAddr 4 (.t 70)), none⟩,
  ⟨(some 72), (.load false 1 (.t 71)), none⟩,
  ⟨(some 73), (.mv (.t 11)), none⟩,
  ⟨(some 74), (.bin .add (.t 72) (.t 73)), none⟩,
  ⟨(some 75), (.nilCheck (.t 69)), none⟩,
  ⟨(some 76), (.fieldAddr 4 (.t 75)), none⟩,
  ⟨none, (.store 1 (.t 76) (.t 74)), none⟩]
def a14_14 : List AOper := [
  ⟨(some 77), (.mv (.t 12)), none⟩,
  ⟨(some 6), (.mv (.t 77)), none⟩,
  ⟨(some 7), (.mv (.c .nili)), none⟩]
def a14 : AFunc := ⟨[.tmp 6, .tmp 7], (.seq (.ops a14_0) (.seq (.ops a14_1) (.seq (.ops a14_2) (.seq (.seq (.ops a14_3) (.cond (.t 24) (.seq (.ops a14_4) .ret) .skip)) (.seq (.seq (.ops a14_5) (.cond (.t 27) (.seq (.ops a14_6) .ret) .skip)) (.seq (.ops a14_7) (.seq (.seq (.ops a14_8) (.cond (.t 42) (.seq (.ops a14_9) .ret) .skip)) (.seq (.ops a14_10) (.seq (.ops a14_11) (.seq (.ops a14_12) (.seq (.ops a14_13) (.seq (.ops a14_14) .ret))))))))))))⟩
/-! ### 15: (*heddle/stream.Stream).State (40 slots) -/
def a15_0 : List AOper := [
  ⟨(some 4), (.alloc [(.int .i64 0), (.int .i64 0), (.int .i64 0), (.int .i64 0), (.int .i64 0), (.bool false), (.bool false)]), none⟩,
  ⟨(some 5), (.mv (.c .nili)), none⟩]
def a15_1 : List AOper := [
  ⟨(some 8), (.mv (.t 0)), none⟩,
  ⟨(some 9), (.mv (.t 1)), none⟩,
  ⟨(some 10), (.call 29 [(.t 8), (.t 9)]), none⟩,
  ⟨(some 6), (.mv (.t 10)), none⟩]
def a15_2 : List AOper := [
  ⟨(some 11), (.mv (.t 6)), none⟩,
  ⟨(some 12), (.eq true (.iface true) (.t 11) (.c .nili)), none⟩]
def a15_3 : List AOper := [
  ⟨(some 13), (.build [(.int .i64 0), (.int .i64 0), (.int .i64 0), (.int .i64 0), (.int .i64 0), (.bool false), (.bool false)] []), none⟩,
  ⟨(some 14), (.mv (.t 6)), none⟩,
  ⟨none, (.store 7 (.t 4) (.t 13)), none⟩,
  ⟨(some 5), (.mv (.t 14)), none⟩]
def a15_4 : List AOper := [
  ⟨(some 15), (.mv (.t 0)), none⟩,
  ⟨(some 16), (.mv (.t 1)), none⟩,
  ⟨(some 17), (.nilCheck (.t 15)), none⟩,
  ⟨(some 18), (.fieldAddr 2 (.t 17)), none⟩,
  ⟨(some 19), (.idxAddrArr 6 2 (.t 18) (.t 16)), none⟩,
  ⟨(some 20), (.load true 6 (.t 19)), none⟩,
  ⟨(some 7), (.alloc [.nils, .nils, (.int .i64 0), (.int .i64 0), (.int .i64 0), (.bool false)]), none⟩,
  ⟨none, (.store 6 (.t 7) (.t 20)), none⟩]
def a15_5 : List AOper := [
  ⟨(some 21), (.fieldAddr 0 (.t 7)), none⟩,
  ⟨(some 22), (.load false 1 (.t 21)), none⟩,
  ⟨(some 23), (.len false (.t 22)), none⟩,
  ⟨(some 24), (.fieldAddr 1 (.t 7)), none⟩,
  ⟨(some 25), (.load false 1 (.t 24)), none⟩,
  ⟨(some 26), (.len false (.t 25)), none⟩,
  ⟨(some 27), (.fieldAddr 2 (.t 7)), none⟩,
  ⟨(some 28), (.load false 1 (.t 27)), none⟩,
  ⟨(some 29), (.fieldAddr 3 (.t 7)), none⟩,
  ⟨(some 30), (.load false 1 (.t 29)), none⟩,
  ⟨(some 31), (.fieldAddr 4 (.t 7)), none⟩,
  ⟨(some 32), (.load false 1 (.t 31)), none⟩,
  ⟨(some 33), (.fieldAddr 5 (.t 7)), none⟩,
  ⟨(some 34), (.load false 1 (.t 33)), none⟩,
  ⟨(some 35), (.mv (.t 0)), none⟩,
  ⟨(some 36), (.nilCheck (.t 35)), none⟩,
  ⟨(some 37), (.fieldAddr 1 (.t 36)), none⟩,
  ⟨(some 38), (.load false 1 (.t 37)), none⟩,
  ⟨(some 39), (.build [(.int .i64 0), (.int .i64 0), (.int .i64 0), (.int .i64 0), (.int .i64 0), (.bool false), (.bool false)] [(0, 1, (.t 23)), (1, 1, (.t 26)), (2, 1, (.t 28)), (3, 1, (.t 30)), (4, 1, (.t 32)), (5, 1, (.t 34)), (6, 1, (.t 38))]), none⟩,
  ⟨none, (.store 7 (.t 4) (.t 39)), none⟩,
  ⟨(some 5), (.mv (.c .nili)), none⟩]
def a15_5b : List Nat := [0, 1, 3, 0, 8, 24, 0, 64, 0, 256, 0, 1024, 0, 4096, 0, 16384, 49152, 114688, 262143, 524287, 1048575]
def a15 : AFunc := ⟨[.cell 4 true 7, .tmp 5], (.seq (.ops a15_0) (.seq (.seq (.ops a15_1) (.seq (.ops a15_2) (.cond (.t 12) (.seq (.ops a15_3) .ret) .skip))) (.seq (.ops a15_4) (.seq (.draw a15_5 a15_5b) .ret))))⟩
/-! ### 16: heddle/heddlemem.Refused (44 slots) -/
def a16_0 : List AOper := [
  ⟨(some 4), (.mv (.c (.bool false))), none⟩]
def a16_1 : List AOper := [
  ⟨(some 7), (.mv (.t 1)), none⟩,
  ⟨(some 8), (.len false (.t 7)), none⟩,
  ⟨(some 9), (.bin .eql (.t 8) (.c (.int .i64 0))), none⟩]
def a16_2 : List AOper := [
  ⟨(some 10), (.mv (.t 0)), none⟩,
  ⟨(some 11), (.eq false (.iface true) (.t 10) (.c .nili)), none⟩,
  ⟨(some 4), (.mv (.t 11)), none⟩]
def a16_3 : List AOper := [
  ⟨(some 12), (.mv (.t 0)), none⟩,
  ⟨(some 13), (.call 30 [(.t 12)]), none⟩,
  ⟨(some 5), (.mv (.t 13)), none⟩]
def a16_4 : List AOper := [
  ⟨(some 14), (.mv (.t 5)), none⟩,
  ⟨(some 15), (.len false (.t 14)), none⟩,
  ⟨(some 16), (.mv (.t 1)), none⟩,
  ⟨(some 17), (.len false (.t 16)), none⟩,
  ⟨(some 18), (.bin .neq (.t 15) (.t 17)), none⟩]
def a16_5 : List AOper := [
  ⟨(some 4), (.mv (.c (.bool false))), none⟩]
def a16_6 : List AOper := [
  ⟨(some 6), (.mv (.c (.int .i64 0))), none⟩]
def a16_7 : List AOper := [
  ⟨(some 19), (.mv (.t 6)), none⟩,
  ⟨(some 20), (.mv (.t 1)), none⟩,
  ⟨(some 21), (.len false (.t 20)), none⟩,
  ⟨(some 22), (.bin .lss (.t 19) (.t 21)), none⟩]
def a16_8 : List AOper := [
  ⟨(some 25), (.mv (.t 5)), none⟩,
  ⟨(some 26), (.mv (.t 6)), none⟩,
  ⟨(some 27), (.idxAddr 3 (.t 25) (.t 26)), none⟩,
  ⟨(some 28), (.load true 3 (.t 27)), none⟩,
  ⟨(some 29), (.mv (.t 1)), none⟩,
  ⟨(some 30), (.mv (.t 6)), none⟩,
  ⟨(some 31), (.idxAddr 3 (.t 29) (.t 30)), none⟩,
  ⟨(some 32), (.load true 3 (.t 31)), none⟩,
  ⟨(some 33), (.eq true (.struct [(0, 1, false, .str), (1, 1, false, .int), (2, 1, false, .int)]) (.t 28) (.t 32)), none⟩]
def a16_8b : List Nat := [0, 0, 3, 7, 0, 0, 48, 112, 255]
def a16_9 : List AOper := [
  ⟨(some 4), (.mv (.c (.bool false))), none⟩]
def a16_10 : List AOper := [
  ⟨(some 23), (.mv (.t 6)), none⟩,
  ⟨(some 24), (.bin .add (.t 23) (.c (.int .i64 1))), none⟩,
  ⟨(some 6), (.mv (.t 24)), none⟩]
def a16_l11 : AC := (.seq (.seq (.ops a16_7) (.cond (.t 22) .skip (.exit 0))) (.seq (.block 1 (.seq (.draw a16_8 a16_8b) (.cond (.t 33) (.seq (.ops a16_9) .ret) .skip))) (.ops a16_10)))
def a16_12 : List AOper := [
  ⟨(some 34), (.mv (.t 0)), none⟩,
  ⟨(some 35), (.mv (.t 1)), none⟩,
  ⟨(some 36), (.mv (.t 1)), none⟩,
  ⟨(some 37), (.len false (.t 36)), none⟩,
  ⟨(some 38), (.bin .sub (.t 37) (.c (.int .i64 1))), none⟩,
  ⟨(some 39), (.idxAddr 3 (.t 35) (.t 38)), none⟩,
  ⟨(some 40), (.fieldAddr 2 (.t 39)), none⟩,
  ⟨(some 41), (.load false 1 (.t 40)), none⟩,
  ⟨(some 42), (.mkIface 42 (.t 41)), none⟩,
  ⟨(some 43), (.call 27 [(.t 34), (.t 42)]), none⟩,
  ⟨(some 4), (.mv (.t 43)), none⟩]
def a16 : AFunc := ⟨[.tmp 4], (.seq (.ops a16_0) (.seq (.seq (.ops a16_1) (.cond (.t 9) (.seq (.ops a16_2) .ret) .skip)) (.seq (.ops a16_3) (.seq (.seq (.ops a16_4) (.cond (.t 18) (.seq (.ops a16_5) .ret) .skip)) (.seq (.seq (.ops a16_6) (.block 0 (.loop a16_l11))) (.seq (.ops a16_12) .ret))))))⟩
/-! ### 17: heddle/heddlemem.One (12 slots) -/
def a17_0 : List AOper := [
  ⟨(some 6), (.mv (.c .nils)), none⟩]
def a17_1 : List AOper := [
  ⟨(some 7), (.mv (.t 0)), none⟩,
  ⟨(some 8), (.mv (.t 1)), none⟩,
  ⟨(some 9), (.mv (.t 2)), none⟩,
  ⟨(some 10), (.build [(.str []), (.int .i64 0), (.int .i64 0)] [(0, 1, (.t 7)), (1, 1, (.t 8)), (2, 1, (.t 9))]), none⟩,
  ⟨(some 11), (.lit true 3 1 [(.str []), (.int .i64 0), (.int .i64 0)] [(0, 3, (.t 10))]), none⟩,
  ⟨(some 6), (.mv (.t 11)), none⟩]
def a17 : AFunc := ⟨[.tmp 6], (.seq (.ops a17_0) (.seq (.ops a17_1) .ret))⟩
/-! ### 18: (*heddle/stream.Stream).Stall (21 slots) -/
def a18_0 : List AOper := [
  ⟨(some 6), (.mv (.c .nili)), none⟩]
def a18_1 : List AOper := [
  ⟨(some 8), (.mv (.t 0)), none⟩,
  ⟨(some 9), (.mv (.t 1)), none⟩,
  ⟨(some 10), (.call 24 [(.t 8), (.t 9)]), none⟩,
  ⟨(some 7), (.mv (.t 10)), none⟩]
def a18_2 : List AOper := [
  ⟨(some 11), (.mv (.t 7)), none⟩,
  ⟨(some 12), (.eq true (.iface true) (.t 11) (.c .nili)), none⟩]
def a18_3 : List AOper := [
  ⟨(some 13), (.mv (.t 7)), none⟩,
  ⟨(some 6), (.mv (.t 13)), none⟩]
def a18_4 : List AOper := [
  ⟨(some 14), (.mv (.t 0)), none⟩,
  ⟨(some 15), (.mv (.t 1)), none⟩,
  ⟨(some 16), (.mv (.t 2)), none⟩,
  ⟨(some 17), (.nilCheck (.t 14)), none⟩,
  ⟨(some 18), (.fieldAddr 2 (.t 17)), none⟩,
  ⟨(some 19), (.idxAddrArr 6 2 (.t 18) (.t 15)), none⟩,
  ⟨(some 20), (.fieldAddr 5 (.t 19)), none⟩,
  ⟨none, (.store 1 (.t 20) (.t 16)), none⟩]
def a18_5 : List AOper := [
  ⟨(some 6), (.mv (.c .nili)), none⟩]
def a18 : AFunc := ⟨[.tmp 6], (.seq (.ops a18_0) (.seq (.seq (.ops a18_1) (.seq (.ops a18_2) (.cond (.t 12) (.seq (.ops a18_3) .ret) .skip))) (.seq (.ops a18_4) (.seq (.ops a18_5) .ret))))⟩
/-! ### 19: (*heddle/stream.Stream).Break (11 slots) -/
def a19_0 : List AOper := [
  ⟨(some 2), (.mv (.c .nili)), none⟩]
def a19_1 : List AOper := [
  ⟨(some 4), (.mv (.t 0)), none⟩,
  ⟨(some 5), (.call 24 [(.t 4), (.c (.int .i64 0))]), none⟩,
  ⟨(some 3), (.mv (.t 5)), none⟩]
def a19_2 : List AOper := [
  ⟨(some 6), (.mv (.t 3)), none⟩,
  ⟨(some 7), (.eq true (.iface true) (.t 6) (.c .nili)), none⟩]
def a19_3 : List AOper := [
  ⟨(some 8), (.mv (.t 3)), none⟩,
  ⟨(some 2), (.mv (.t 8)), none⟩]
def a19_4 : List AOper := [
  ⟨(some 9), (.mv (.t 0)), none⟩,
  ⟨(some 10), (.call 31 [(.t 9)]), none⟩]
def a19_5 : List AOper := [
  ⟨(some 2), (.mv (.c .nili)), none⟩]
def a19 : AFunc := ⟨[.tmp 2], (.seq (.ops a19_0) (.seq (.seq (.ops a19_1) (.seq (.ops a19_2) (.cond (.t 7) (.seq (.ops a19_3) .ret) .skip))) (.seq (.ops a19_4) (.seq (.ops a19_5) .ret))))⟩
/-! ### 20: (*heddle/stream.Stream).Close (25 slots) -/
def a20_0 : List AOper := [
  ⟨(some 4), (.mv (.c .nili)), none⟩]
def a20_1 : List AOper := [
  ⟨(some 6), (.mv (.t 0)), none⟩,
  ⟨(some 7), (.mv (.t 1)), none⟩,
  ⟨(some 8), (.call 24 [(.t 6), (.t 7)]), none⟩,
  ⟨(some 5), (.mv (.t 8)), none⟩]
def a20_2 : List AOper := [
  ⟨(some 9), (.mv (.t 5)), none⟩,
  ⟨(some 10), (.eq true (.iface true) (.t 9) (.c .nili)), none⟩]
def a20_3 : List AOper := [
  ⟨(some 11), (.mv (.t 5)), none⟩,
  ⟨(some 4), (.mv (.t 11)), none⟩]
def a20_4 : List AOper := [
  ⟨(some 12), (.mv (.t 0)), none⟩,
  ⟨(some 13), (.mv (.t 1)), none⟩,
  ⟨(some 14), (.mv (.t 0)), none⟩,
  ⟨(some 15), (.mv (.t 1)), none⟩,
  ⟨(some 16), (.nilCheck (.t 14)), none⟩,
  ⟨(some 17), (.fieldAddr 2 (.t 16)), none⟩,
  ⟨(some 18), (.idxAddrArr 6 2 (.t 17) (.t 15)), none⟩,
  ⟨(some 19), (.fieldAddr 0 (.t 18)), none⟩,
  ⟨(some 20), (.load false 1 (.t 19)), none⟩,
  ⟨(some 21), (.len false (.t 20)), none⟩,
  ⟨(some 22), (.call 26 [(.t 12), (.t 13), (.t 21)]), none⟩]
def a20_5 : List AOper := [
  ⟨(some 23), (.mv (.t 0)), none⟩,
  ⟨(some 24), (.call 31 [(.t 23)]), none⟩]
def a20_6 : List AOper := [
  ⟨(some 4), (.mv (.c .nili)), none⟩]
def a20 : AFunc := ⟨[.tmp 4], (.seq (.ops a20_0) (.seq (.seq (.ops a20_1) (.seq (.ops a20_2) (.cond (.t 10) (.seq (.ops a20_3) .ret) .skip))) (.seq (.ops a20_4) (.seq (.ops a20_5) (.seq (.ops a20_6) .ret)))))⟩
/-! ### 21: heddle/heddleref05.New (3 slots) -/
def a21_0 : List AOper := [
  ⟨(some 0), (.mv (.c .nilp)), none⟩]
def a21_1 : List AOper := [
  ⟨(some 1), (.build [.nils, .nils, .nils, .nils, (.int .i64 0), (.int .i64 0), (.int .i64 0), (.int .i64 0), (.int .i64 0), (.int .i64 0), (.bool false), (.bool false), (.bool false)] []), none⟩,
  ⟨(some 2), (.box false 13 (.t 1)), none⟩,
  ⟨(some 0), (.mv (.t 2)), none⟩]
def a21 : AFunc := ⟨[.tmp 0], (.seq (.ops a21_0) (.seq (.ops a21_1) .ret))⟩
/-! ### 22: heddle/heddlelaw05.step (109 slots) -/
def a22_0 : List AOper := [
  ⟨(some 5), (.box false 5 (.t 2)), none⟩,
  ⟨(some 6), (.mv (.c (.bool false))), none⟩]
def a22_1 : List AOper := [
  ⟨(some 11), (.fieldAddr 0 (.t 5)), none⟩,
  ⟨(some 12), (.load false 1 (.t 11)), none⟩]
def a22_2 : List AOper := [
  ⟨(some 14), (.bin .eql (.t 12) (.c (.int .i64 1))), none⟩,
  ⟨(some 13), (.mv (.t 14)), none⟩]
def a22_3 : List AOper := [
  ⟨(some 15), (.mv (.t 0)), none⟩,
  ⟨(some 16), (.fieldAddr 1 (.t 5)), none⟩,
  ⟨(some 17), (.load false 1 (.t 16)), none⟩,
  ⟨(some 18), (.fieldAddr 4 (.t 5)), none⟩,
  ⟨(some 19), (.load false 1 (.t 18)), none⟩,
  ⟨(some 20), (.call 12 [(.t 15), (.t 17), (.t 19)]), none⟩,
  ⟨(some 21), (.mv (.t 1)), none⟩,
  ⟨(some 22), (.fieldAddr 1 (.t 5)), none⟩,
  ⟨(some 23), (.load false 1 (.t 22)), none⟩,
  ⟨(some 24), (.fieldAddr 4 (.t 5)), none⟩,
  ⟨(some 25), (.load false 1 (.t 24)), none⟩,
  ⟨(some 26), (.call 32 [(.t 21), (.t 23), (.t 25)]), none⟩,
  ⟨(some 27), (.call 16 [(.t 20), (.t 26)]), none⟩,
  ⟨(some 6), (.mv (.t 27)), none⟩]
def a22_3b : List Nat := [0, 0, 2, 0, 8, 31, 0, 0, 128, 0, 512, 2047, 4095, 8191]
def a22_4 : List AOper := [
  ⟨(some 29), (.bin .eql (.t 12) (.c (.int .i64 2))), none⟩,
  ⟨(some 28), (.mv (.t 29)), none⟩]
def a22_5 : List AOper := [
  ⟨(some 30), (.mv (.t 0)), none⟩,
  ⟨(some 31), (.fieldAddr 1 (.t 5)), none⟩,
  ⟨(some 32), (.load false 1 (.t 31)), none⟩,
  ⟨(some 33), (.fieldAddr 2 (.t 5)), none⟩,
  ⟨(some 34), (.load false 1 (.t 33)), none⟩,
  ⟨(some 35), (.call 13 [(.t 30), (.t 32), (.t 34)]), none⟩,
  ⟨(some 36), (.mv (.t 1)), none⟩,
  ⟨(some 37), (.fieldAddr 1 (.t 5)), none⟩,
  ⟨(some 38), (.load false 1 (.t 37)), none⟩,
  ⟨(some 39), (.fieldAddr 2 (.t 5)), none⟩,
  ⟨(some 40), (.load false 1 (.t 39)), none⟩,
  ⟨(some 41), (.call 33 [(.t 36), (.t 38), (.t 40)]), none⟩,
  ⟨(some 42), (.call 16 [(.t 35), (.t 41)]), none⟩,
  ⟨(some 6), (.mv (.t 42)), none⟩]
def a22_5b : List Nat := [0, 0, 2, 0, 8, 31, 0, 0, 128, 0, 512, 2047, 4095, 8191]
def a22_6 : List AOper := [
  ⟨(some 44), (.bin .eql (.t 12) (.c (.int .i64 3))), none⟩,
  ⟨(some 43), (.mv (.t 44)), none⟩]
def a22_7 : List AOper := [
  ⟨(some 45), (.mv (.t 0)), none⟩,
  ⟨(some 46), (.fieldAddr 1 (.t 5)), none⟩,
  ⟨(some 47), (.load false 1 (.t 46)), none⟩,
  ⟨(some 48), (.fieldAddr 3 (.t 5)), none⟩,
  ⟨(some 49), (.load false 1 (.t 48)), none⟩,
  ⟨(some 50), (.call 18 [(.t 45), (.t 47), (.t 49)]), none⟩,
  ⟨(some 51), (.mv (.t 1)), none⟩,
  ⟨(some 52), (.fieldAddr 1 (.t 5)), none⟩,
  ⟨(some 53), (.load false 1 (.t 52)), none⟩,
  ⟨(some 54), (.fieldAddr 3 (.t 5)), none⟩,
  ⟨(some 55), (.load false 1 (.t 54)), none⟩,
  ⟨(some 56), (.call 34 [(.t 51), (.t 53), (.t 55)]), none⟩,
  ⟨(some 57), (.call 16 [(.t 50), (.t 56)]), none⟩,
  ⟨(some 6), (.mv (.t 57)), none⟩]
def a22_7b : List Nat := [0, 0, 2, 0, 8, 31, 0, 0, 128, 0, 512, 2047, 4095, 8191]
def a22_8 : List AOper := [
  ⟨(some 59), (.bin .eql (.t 12) (.c (.int .i64 4))), none⟩,
  ⟨(some 58), (.mv (.t 59)), none⟩]
def a22_9 : List AOper := [
  ⟨(some 61), (.mv (.t 0)), none⟩,
  ⟨(some 62), (.fieldAddr 1 (.t 5)), none⟩,
  ⟨(some 63), (.load false 1 (.t 62)), none⟩,
  ⟨(some 64), (.fieldAddr 2 (.t 5)), none⟩,
  ⟨(some 65), (.load false 1 (.t 64)), none⟩,
  ⟨(some 66), (.call 14 [(.t 61), (.t 63), (.t 65)]), none⟩,
  ⟨(some 60), (.mv (.t 66)), none⟩,
  ⟨(some 67), (.extract (.t 60) 0), none⟩,
  ⟨(some 68), (.extract (.t 60) 1), none⟩,
  ⟨(some 7), (.mv (.t 67)), none⟩,
  ⟨(some 8), (.mv (.t 68)), none⟩]
def a22_10 : List AOper := [
  ⟨(some 70), (.mv (.t 1)), none⟩,
  ⟨(some 71), (.fieldAddr 1 (.t 5)), none⟩,
  ⟨(some 72), (.load false 1 (.t 71)), none⟩,
  ⟨(some 73), (.fieldAddr 2 (.t 5)), none⟩,
  ⟨(some 74), (.load false 1 (.t 73)), none⟩,
  ⟨(some 75), (.call 35 [(.t 70), (.t 72), (.t 74)]), none⟩,
  ⟨(some 69), (.mv (.t 75)), none⟩,
  ⟨(some 76), (.extract (.t 69) 0), none⟩,
  ⟨(some 77), (.extract (.t 69) 1), none⟩,
  ⟨(some 9), (.mv (.t 76)), none⟩,
  ⟨(some 10), (.mv (.t 77)), none⟩]
def a22_11 : List AOper := [
  ⟨(some 78), (.mv (.t 7)), none⟩,
  ⟨(some 79), (.conv .b2s (.t 78)), none⟩,
  ⟨(some 80), (.mv (.t 9)), none⟩,
  ⟨(some 81), (.conv .b2s (.t 80)), none⟩,
  ⟨(some 82), (.bin .eql (.t 79) (.t 81)), none⟩,
  ⟨(some 83), (.mv (.t 82)), none⟩,
  ⟨(some 84), (.mv (.t 8)), (some (83, true))⟩,
  ⟨(some 85), (.mv (.t 10)), (some (83, true))⟩,
  ⟨(some 86), (.call 16 [(.t 84), (.t 85)]), (some (83, true))⟩,
  ⟨(some 87), (.pick (.t 83) (.t 86) (.c (.bool false))), none⟩,
  ⟨(some 6), (.mv (.t 87)), none⟩]
def a22_12 : List AOper := [
  ⟨(some 89), (.bin .eql (.t 12) (.c (.int .i64 5))), none⟩,
  ⟨(some 88), (.mv (.t 89)), none⟩]
def a22_13 : List AOper := [
  ⟨(some 90), (.mv (.t 0)), none⟩,
  ⟨(some 91), (.call 19 [(.t 90)]), none⟩,
  ⟨(some 92), (.mv (.t 1)), none⟩,
  ⟨(some 93), (.call 36 [(.t 92)]), none⟩,
  ⟨(some 94), (.call 16 [(.t 91), (.t 93)]), none⟩,
  ⟨(some 6), (.mv (.t 94)), none⟩]
def a22_14 : List AOper := [
  ⟨(some 96), (.bin .eql (.t 12) (.c (.int .i64 6))), none⟩,
  ⟨(some 95), (.mv (.t 96)), none⟩]
def a22_15 : List AOper := [
  ⟨(some 97), (.mv (.t 0)), none⟩,
  ⟨(some 98), (.fieldAddr 1 (.t 5)), none⟩,
  ⟨(some 99), (.load false 1 (.t 98)), none⟩,
  ⟨(some 100), (.call 20 [(.t 97), (.t 99)]), none⟩,
  ⟨(some 101), (.mv (.t 1)), none⟩,
  ⟨(some 102), (.fieldAddr 1 (.t 5)), none⟩,
  ⟨(some 103), (.load false 1 (.t 102)), none⟩,
  ⟨(some 104), (.call 37 [(.t 101), (.t 103)]), none⟩,
  ⟨(some 105), (.call 16 [(.t 100), (.t 104)]), none⟩,
  ⟨(some 6), (.mv (.t 105)), none⟩]
def a22_15b : List Nat := [0, 0, 2, 7, 0, 0, 32, 127, 255, 511]
def a22_16 : List AOper := [
  ⟨(some 106), (.mv (.t 0)), none⟩,
  ⟨(some 107), (.mv (.t 1)), none⟩,
  ⟨(some 108), (.call 23 [(.t 106), (.t 107)]), none⟩,
  ⟨(some 6), (.mv (.t 108)), none⟩]
def a22 : AFunc := ⟨[.tmp 6], (.seq (.ops a22_0) (.seq (.seq (.ops a22_1) (.block 0 (.seq (.ops a22_2) (.cond (.t 13) (.seq (.draw a22_3 a22_3b) .ret) (.seq (.ops a22_4) (.cond (.t 28) (.seq (.draw a22_5 a22_5b) .ret) (.seq (.ops a22_6) (.cond (.t 43) (.seq (.draw a22_7 a22_7b) .ret) (.seq (.ops a22_8) (.cond (.t 58) (.seq (.ops a22_9) (.seq (.ops a22_10) (.seq (.ops a22_11) .ret))) (.seq (.ops a22_12) (.cond (.t 88) (.seq (.ops a22_13) .ret) (.seq (.ops a22_14) (.cond (.t 95) (.seq (.draw a22_15 a22_15b) .ret) .skip)))))))))))))) (.seq (.ops a22_16) .ret)))⟩
/-! ### 23: heddle/heddlelaw05.states (35 slots) -/
def a23_0 : List AOper := [
  ⟨(some 4), (.mv (.c (.bool false))), none⟩]
def a23_1 : List AOper := [
  ⟨(some 5), (.mv (.c (.int .i64 (-1)))), none⟩]
def a23_2 : List AOper := [
  ⟨(some 10), (.mv (.t 5)), none⟩,
  ⟨(some 11), (.bin .leq (.t 10) (.c (.int .i64 2))), none⟩]
def a23_3 : List AOper := [
  ⟨(some 15), (.mv (.t 0)), none⟩,
  ⟨(some 16), (.mv (.t 5)), none⟩,
  ⟨(some 17), (.call 15 [(.t 15), (.t 16)]), none⟩,
  ⟨(some 14), (.mv (.t 17)), none⟩,
  ⟨(some 18), (.extract (.t 14) 0), none⟩,
  ⟨(some 19), (.extract (.t 14) 1), none⟩,
  ⟨(some 6), (.alloc [(.int .i64 0), (.int .i64 0), (.int .i64 0), (.int .i64 0), (.int .i64 0), (.bool false), (.bool false)]), none⟩,
  ⟨none, (.store 7 (.t 6) (.t 18)), none⟩,
  ⟨(some 7), (.mv (.t 19)), none⟩]
def a23_4 : List AOper := [
  ⟨(some 21), (.mv (.t 1)), none⟩,
  ⟨(some 22), (.mv (.t 5)), none⟩,
  ⟨(some 23), (.call 38 [(.t 21), (.t 22)]), none⟩,
  ⟨(some 20), (.mv (.t 23)), none⟩,
  ⟨(some 24), (.extract (.t 20) 0), none⟩,
  ⟨(some 25), (.extract (.t 20) 1), none⟩,
  ⟨(some 8), (.alloc [(.int .i64 0), (.int .i64 0), (.int .i64 0), (.int .i64 0), (.int .i64 0), (.bool false), (.bool false)]), none⟩,
  ⟨none, (.store 7 (.t 8) (.t 24)), none⟩,
  ⟨(some 9), (.mv (.t 25)), none⟩]
def a23_5 : List AOper := [
  ⟨(some 26), (.load true 7 (.t 6)), none⟩,
  ⟨(some 27), (.load true 7 (.t 8)), none⟩,
  ⟨(some 28), (.eq true (.struct [(0, 1, false, .int), (1, 1, false, .int), (2, 1, false, .int), (3, 1, false, .int), (4, 1, false, .int), (5, 1, false, .bool), (6, 1, false, .bool)]) (.t 26) (.t 27)), none⟩,
  ⟨(some 29), (.mv (.t 28)), none⟩,
  ⟨(some 30), (.mv (.t 7)), (some (29, false))⟩,
  ⟨(some 31), (.mv (.t 9)), (some (29, false))⟩,
  ⟨(some 32), (.call 16 [(.t 30), (.t 31)]), (some (29, false))⟩,
  ⟨(some 33), (.un .not (.t 32)), (some (29, false))⟩,
  ⟨(some 34), (.pick (.t 29) (.c (.bool true)) (.t 33)), none⟩]
def a23_6 : List AOper := [
  ⟨(some 4), (.mv (.c (.bool false))), none⟩]
def a23_7 : List AOper := [
  ⟨(some 12), (.mv (.t 5)), none⟩,
  ⟨(some 13), (.bin .add (.t 12) (.c (.int .i64 1))), none⟩,
  ⟨(some 5), (.mv (.t 13)), none⟩]
def a23_l8 : AC := (.seq (.seq (.ops a23_2) (.cond (.t 11) .skip (.exit 0))) (.seq (.block 1 (.seq (.ops a23_3) (.seq (.ops a23_4) (.seq (.ops a23_5) (.cond (.t 34) (.seq (.ops a23_6) .ret) .skip))))) (.ops a23_7)))
def a23_9 : List AOper := [
  ⟨(some 4), (.mv (.c (.bool true))), none⟩]
def a23 : AFunc := ⟨[.tmp 4], (.seq (.ops a23_0) (.seq (.seq (.ops a23_1) (.block 0 (.loop a23_l8))) (.seq (.ops a23_9) .ret)))⟩
/-! ### 24: (*heddle/stream.Stream).open (17 slots) -/
def a24_0 : List AOper := [
  ⟨(some 4), (.mv (.c .nili)), none⟩]
def a24_1 : List AOper := [
  ⟨(some 6), (.mv (.t 0)), none⟩,
  ⟨(some 7), (.mv (.t 1)), none⟩,
  ⟨(some 8), (.call 29 [(.t 6), (.t 7)]), none⟩,
  ⟨(some 5), (.mv (.t 8)), none⟩]
def a24_2 : List AOper := [
  ⟨(some 9), (.mv (.t 5)), none⟩,
  ⟨(some 10), (.eq true (.iface true) (.t 9) (.c .nili)), none⟩]
def a24_3 : List AOper := [
  ⟨(some 11), (.mv (.t 5)), none⟩,
  ⟨(some 4), (.mv (.t 11)), none⟩]
def a24_4 : List AOper := [
  ⟨(some 12), (.mv (.t 0)), none⟩,
  ⟨(some 13), (.nilCheck (.t 12)), none⟩,
  ⟨(some 14), (.fieldAddr 1 (.t 13)), none⟩,
  ⟨(some 15), (.load false 1 (.t 14)), none⟩]
def a24_5 : List AOper := [
  ⟨(some 16), (.call 25 [(.c (.int .i64 100))]), none⟩,
  ⟨(some 4), (.mv (.t 16)), none⟩]
def a24_6 : List AOper := [
  ⟨(some 4), (.mv (.c .nili)), none⟩]
def a24 : AFunc := ⟨[.tmp 4], (.seq (.ops a24_0) (.seq (.seq (.ops a24_1) (.seq (.ops a24_2) (.cond (.t 10) (.seq (.ops a24_3) .ret) .skip))) (.seq (.seq (.ops a24_4) (.cond (.t 15) (.seq (.ops a24_5) .ret) .skip)) (.seq (.ops a24_6) .ret))))⟩
/-! ### 25: heddle/stream.refused (7 slots) -/
def a25_0 : List AOper := [
  ⟨(some 2), (.mv (.c .nili)), none⟩]
def a25_1 : List AOper := [
  ⟨(some 3), (.mv (.t 0)), none⟩,
  ⟨(some 4), (.build [(.str []), (.int .i64 0), (.int .i64 0), .nili] [(0, 1, (.c (.str [115, 116, 114, 101, 97, 109]))), (2, 1, (.t 3))]), none⟩,
  ⟨(some 5), (.box true 4 (.t 4)), none⟩,
  ⟨(some 6), (.mkIface 84 (.t 5)), none⟩,
  ⟨(some 2), (.mv (.t 6)), none⟩]
def a25 : AFunc := ⟨[.tmp 2], (.seq (.ops a25_0) (.seq (.ops a25_1) .ret))⟩
/-! ### 26: (*heddle/stream.Stream).move (54 slots) -/
def a26_0 : List AOper := [
  ⟨(some 9), (.mv (.t 0)), none⟩,
  ⟨(some 10), (.mv (.t 1)), none⟩,
  ⟨(some 11), (.nilCheck (.t 9)), none⟩,
  ⟨(some 12), (.fieldAddr 2 (.t 11)), none⟩,
  ⟨(some 13), (.idxAddrArr 6 2 (.t 12) (.t 10)), none⟩,
  ⟨(some 14), (.mv (.t 0)), none⟩,
  ⟨(some 15), (.mv (.t 1)), none⟩,
  ⟨(some 16), (.bin .sub (.c (.int .i64 1)) (.t 15)), none⟩,
  ⟨(some 17), (.nilCheck (.t 14)), none⟩,
  ⟨(some 18), (.fieldAddr 2 (.t 17)), none⟩,
  ⟨(some 19), (.idxAddrArr 6 2 (.t 18) (.t 16)), none⟩,
  ⟨(some 6), (.mv (.t 13)), none⟩,
  ⟨(some 7), (.mv (.t 19)), none⟩]
def a26_0b : List Nat := [0, 0, 1, 5, 15, 0, 0, 64, 32, 288, 992, 31, 4095]
def a26_1 : List AOper := [
  ⟨(some 20), (.mv (.t 6)), none⟩,
  ⟨(some 21), (.nilCheck (.t 20)), none⟩,
  ⟨(some 22), (.fieldAddr 0 (.t 21)), none⟩,
  ⟨(some 23), (.load false 1 (.t 22)), none⟩,
  ⟨(some 24), (.mv (.t 2)), none⟩,
  ⟨(some 25), (.mv (.t 2)), none⟩,
  ⟨(some 26), (.slice 1 (.t 23) none (some (.t 24)) (some (.t 25))), none⟩,
  ⟨(some 8), (.mv (.t 26)), none⟩]
def a26_2 : List AOper := [
  ⟨(some 27), (.mv (.t 7)), none⟩,
  ⟨(some 28), (.mv (.t 7)), none⟩,
  ⟨(some 29), (.nilCheck (.t 28)), none⟩,
  ⟨(some 30), (.fieldAddr 1 (.t 29)), none⟩,
  ⟨(some 31), (.load false 1 (.t 30)), none⟩,
  ⟨(some 32), (.mv (.t 8)), none⟩,
  ⟨(some 33), (.append 1 1 (.t 31) (.t 32)), none⟩,
  ⟨(some 34), (.nilCheck (.t 27)), none⟩,
  ⟨(some 35), (.fieldAddr 1 (.t 34)), none⟩,
  ⟨none, (.store 1 (.t 35) (.t 33)), none⟩]
def a26_3 : List AOper := [
  ⟨(some 36), (.mv (.t 7)), none⟩,
  ⟨(some 37), (.nilCheck (.t 36)), none⟩,
  ⟨(some 38), (.fieldAddr 3 (.t 37)), none⟩,
  ⟨(some 39), (.load false 1 (.t 38)), none⟩,
  ⟨(some 40), (.mv (.t 2)), none⟩,
  ⟨(some 41), (.bin .add (.t 39) (.t 40)), none⟩,
  ⟨(some 42), (.nilCheck (.t 36)), none⟩,
  ⟨(some 43), (.fieldAddr 3 (.t 42)), none⟩,
  ⟨none, (.store 1 (.t 43) (.t 41)), none⟩]
def a26_4 : List AOper := [
  ⟨(some 44), (.mv (.t 6)), none⟩,
  ⟨(some 45), (.mv (.t 6)), none⟩,
  ⟨(some 46), (.nilCheck (.t 45)), none⟩,
  ⟨(some 47), (.fieldAddr 0 (.t 46)), none⟩,
  ⟨(some 48), (.load false 1 (.t 47)), none⟩,
  ⟨(some 49), (.mv (.t 2)), none⟩,
  ⟨(some 50), (.slice 1 (.t 48) (some (.t 49)) none none), none⟩,
  ⟨(some 51), (.call 28 [(.t 50)]), none⟩,
  ⟨(some 52), (.nilCheck (.t 44)), none⟩,
  ⟨(some 53), (.fieldAddr 0 (.t 52)), none⟩,
  ⟨none, (.store 1 (.t 53) (.t 51)), none⟩]
def a26 : AFunc := ⟨[], (.seq (.draw a26_0 a26_0b) (.seq (.ops a26_1) (.seq (.ops a26_2) (.seq (.ops a26_3) (.ops a26_4)))))⟩
/-! ### 28: slices.Clone[[]byte,byte] (8 slots) -/
def a28_0 : List AOper := [
  ⟨(some 2), (.mv (.c .nils)), none⟩]
def a28_1 : List AOper := [
  ⟨(some 3), (.mv (.t 0)), none⟩,
  ⟨(some 4), (.eq false .slice (.t 3) (.c .nils)), none⟩]
def a28_2 : List AOper := [
  ⟨(some 2), (.mv (.c .nils)), none⟩]
def a28_3 : List AOper := [
  ⟨(some 5), (.lit true 1 0 [] []), none⟩,
  ⟨(some 6), (.mv (.t 0)), none⟩,
  ⟨(some 7), (.append 1 1 (.t 5) (.t 6)), none⟩,
  ⟨(some 2), (.mv (.t 7)), none⟩]
def a28 : AFunc := ⟨[.tmp 2], (.seq (.ops a28_0) (.seq (.seq (.ops a28_1) (.cond (.t 4) (.seq (.ops a28_2) .ret) .skip)) (.seq (.ops a28_3) .ret)))⟩
/-! ### 29: (*heddle/stream.Stream).asked (24 slots) -/
def a29_0 : List AOper := [
  ⟨(some 4), (.mv (.c .nili)), none⟩]
def a29_1 : List AOper := [
  ⟨(some 6), (.mv (.t 0)), none⟩,
  ⟨(some 7), (.eq false .ptr (.t 6) (.c .nilp)), none⟩,
  ⟨(some 8), (.mv (.t 7)), none⟩,
  ⟨(some 9), (.mv (.t 0)), (some (8, false))⟩,
  ⟨(some 10), (.nilCheck (.t 9)), (some (8, false))⟩,
  ⟨(some 11), (.fieldAddr 0 (.t 10)), (some (8, false))⟩,
  ⟨(some 12), (.load false 1 (.t 11)), (some (8, false))⟩,
  ⟨(some 13), (.un .not (.t 12)), (some (8, false))⟩,
  ⟨(some 14), (.pick (.t 8) (.c (.bool true)) (.t 13)), none⟩,
  ⟨(some 5), (.mv (.t 14)), none⟩]
def a29_2 : List AOper := [
  ⟨(some 15), (.call 25 [(.c (.int .i64 3))]), none⟩,
  ⟨(some 4), (.mv (.t 15)), none⟩]
def a29_3 : List AOper := [
  ⟨(some 17), (.mv (.t 1)), none⟩,
  ⟨(some 18), (.bin .neq (.t 17) (.c (.int .i64 0))), none⟩,
  ⟨(some 19), (.mv (.t 18)), none⟩,
  ⟨(some 20), (.mv (.t 1)), (some (19, true))⟩,
  ⟨(some 21), (.bin .neq (.t 20) (.c (.int .i64 1))), (some (19, true))⟩,
  ⟨(some 22), (.pick (.t 19) (.t 21) (.c (.bool false))), none⟩,
  ⟨(some 16), (.mv (.t 22)), none⟩]
def a29_4 : List AOper := [
  ⟨(some 23), (.call 25 [(.c (.int .i64 2))]), none⟩,
  ⟨(some 4), (.mv (.t 23)), none⟩]
def a29_5 : List AOper := [
  ⟨(some 4), (.mv (.c .nili)), none⟩]
def a29 : AFunc := ⟨[.tmp 4], (.seq (.ops a29_0) (.seq (.block 0 (.seq (.ops a29_1) (.cond (.t 5) (.seq (.ops a29_2) .ret) (.seq (.ops a29_3) (.cond (.t 16) (.seq (.ops a29_4) .ret) .skip))))) (.seq (.ops a29_5) .ret)))⟩
/-! ### 30: heddle/heddlemem.Chain (44 slots) -/
def a30_0 : List AOper := [
  ⟨(some 2), (.mv (.c .nils)), none⟩]
def a30_1 : List AOper := [
  ⟨(some 3), (.mv (.c .nils)), none⟩]
def a30_2 : List AOper := [
  ⟨(some 4), (.mv (.c (.int .i64 0))), none⟩]
def a30_3 : List AOper := [
  ⟨(some 6), (.mv (.t 4)), none⟩,
  ⟨(some 7), (.bin .lss (.t 6) (.c (.int .i64 16))), none⟩,
  ⟨(some 8), (.mv (.t 7)), none⟩,
  ⟨(some 9), (.mv (.t 0)), (some (8, true))⟩,
  ⟨(some 10), (.eq true (.iface true) (.t 9) (.c .nili)), (some (8, true))⟩,
  ⟨(some 11), (.pick (.t 8) (.t 10) (.c (.bool false))), none⟩]
def a30_4 : List AOper := [
  ⟨(some 5), (.alloc [.nilp]), none⟩]
def a30_5 : List AOper := [
  ⟨(some 14), (.mv (.t 0)), none⟩,
  ⟨(some 15), (.mkIface 92 (.t 5)), none⟩,
  ⟨(some 16), (.call 41 [(.t 14), (.t 15)]), none⟩,
  ⟨(some 17), (.un .not (.t 16)), none⟩,
  ⟨(some 18), (.mv (.t 17)), none⟩,
  ⟨(some 19), (.load false 1 (.t 5)), (some (18, false))⟩,
  ⟨(some 20), (.eq false .ptr (.t 19) (.c .nilp)), (some (18, false))⟩,
  ⟨(some 21), (.pick (.t 18) (.c (.bool true)) (.t 20)), none⟩]
def a30_6 : List AOper := [
  ⟨(some 22), (.mv (.t 3)), none⟩,
  ⟨(some 2), (.mv (.t 22)), none⟩]
def a30_7 : List AOper := [
  ⟨(some 23), (.mv (.t 3)), none⟩,
  ⟨(some 24), (.load false 1 (.t 5)), none⟩,
  ⟨(some 25), (.nilCheck (.t 24)), none⟩,
  ⟨(some 26), (.fieldAddr 0 (.t 25)), none⟩,
  ⟨(some 27), (.load false 1 (.t 26)), none⟩,
  ⟨(some 28), (.load false 1 (.t 5)), none⟩,
  ⟨(some 29), (.nilCheck (.t 28)), none⟩,
  ⟨(some 30), (.fieldAddr 1 (.t 29)), none⟩,
  ⟨(some 31), (.load false 1 (.t 30)), none⟩,
  ⟨(some 32), (.load false 1 (.t 5)), none⟩,
  ⟨(some 33), (.nilCheck (.t 32)), none⟩,
  ⟨(some 34), (.fieldAddr 2 (.t 33)), none⟩,
  ⟨(some 35), (.load false 1 (.t 34)), none⟩,
  ⟨(some 36), (.build [(.str []), (.int .i64 0), (.int .i64 0)] [(0, 1, (.t 27)), (1, 1, (.t 31)), (2, 1, (.t 35))]), none⟩,
  ⟨(some 37), (.lit true 3 1 [(.str []), (.int .i64 0), (.int .i64 0)] [(0, 3, (.t 36))]), none⟩,
  ⟨(some 38), (.append 3 32 (.t 23) (.t 37)), none⟩,
  ⟨(some 3), (.mv (.t 38)), none⟩]
def a30_7b : List Nat := [0, 0, 2, 6, 14, 0, 32, 96, 224, 0, 512, 1536, 3584, 8190, 16382, 32767, 65535]
def a30_8 : List AOper := [
  ⟨(some 39), (.load false 1 (.t 5)), none⟩,
  ⟨(some 40), (.nilCheck (.t 39)), none⟩,
  ⟨(some 41), (.fieldAddr 3 (.t 40)), none⟩,
  ⟨(some 42), (.load false 1 (.t 41)), none⟩,
  ⟨(some 0), (.mv (.t 42)), none⟩]
def a30_9 : List AOper := [
  ⟨(some 12), (.mv (.t 4)), none⟩,
  ⟨(some 13), (.bin .add (.t 12) (.c (.int .i64 1))), none⟩,
  ⟨(some 4), (.mv (.t 13)), none⟩]
def a30_l10 : AC := (.seq (.seq (.ops a30_3) (.cond (.t 11) .skip (.exit 0))) (.seq (.block 1 (.seq (.ops a30_4) (.seq (.seq (.ops a30_5) (.cond (.t 21) (.seq (.ops a30_6) .ret) .skip)) (.seq (.draw a30_7 a30_7b) (.ops a30_8))))) (.ops a30_9)))
def a30_11 : List AOper := [
  ⟨(some 43), (.mv (.t 3)), none⟩,
  ⟨(some 2), (.mv (.t 43)), none⟩]
def a30 : AFunc := ⟨[.tmp 2], (.seq (.ops a30_0) (.seq (.ops a30_1) (.seq (.seq (.ops a30_2) (.block 0 (.loop a30_l10))) (.seq (.ops a30_11) .ret))))⟩
/-! ### 31: (*heddle/stream.Stream).end (15 slots) -/
def a31_0 : List AOper := [
  ⟨(some 2), (.mv (.t 0)), none⟩,
  ⟨(some 3), (.nilCheck (.t 2)), none⟩,
  ⟨(some 4), (.fieldAddr 1 (.t 3)), none⟩,
  ⟨none, (.store 1 (.t 4) (.c (.bool true))), none⟩]
def a31_1 : List AOper := [
  ⟨(some 5), (.mv (.t 0)), none⟩,
  ⟨(some 6), (.mv (.t 0)), none⟩,
  ⟨(some 7), (.nilCheck (.t 5)), none⟩,
  ⟨(some 8), (.fieldAddr 2 (.t 7)), none⟩,
  ⟨(some 9), (.idxAddrArr 6 2 (.t 8) (.c (.int .i64 0))), none⟩,
  ⟨(some 10), (.fieldAddr 0 (.t 9)), none⟩,
  ⟨none, (.store 1 (.t 10) (.c .nils)), none⟩,
  ⟨(some 11), (.nilCheck (.t 6)), none⟩,
  ⟨(some 12), (.fieldAddr 2 (.t 11)), none⟩,
  ⟨(some 13), (.idxAddrArr 6 2 (.t 12) (.c (.int .i64 1))), none⟩,
  ⟨(some 14), (.fieldAddr 0 (.t 13)), none⟩,
  ⟨none, (.store 1 (.t 14) (.c .nils)), none⟩]
def a31_1b : List Nat := [0, 0, 1, 5, 13, 29, 61, 2, 130, 511, 1023, 2047]
def a31 : AFunc := ⟨[], (.seq (.ops a31_0) (.draw a31_1 a31_1b))⟩
/-! ### 32: (*heddle/heddleref05.Stream).Send (60 slots) -/
def a32_0 : List AOper := [
  ⟨(some 6), (.mv (.c .nils)), none⟩]
def a32_1 : List AOper := [
  ⟨(some 8), (.mv (.t 1)), none⟩,
  ⟨(some 9), (.call 42 [(.t 8)]), none⟩,
  ⟨(some 10), (.un .not (.t 9)), none⟩,
  ⟨(some 7), (.mv (.t 10)), none⟩]
def a32_2 : List AOper := [
  ⟨(some 11), (.call 43 [(.c (.int .i64 2))]), none⟩,
  ⟨(some 6), (.mv (.t 11)), none⟩]
def a32_3 : List AOper := [
  ⟨(some 13), (.mv (.t 0)), none⟩,
  ⟨(some 14), (.nilCheck (.t 13)), none⟩,
  ⟨(some 15), (.fieldAddr 12 (.t 14)), none⟩,
  ⟨(some 16), (.load false 1 (.t 15)), none⟩,
  ⟨(some 12), (.mv (.t 16)), none⟩]
def a32_4 : List AOper := [
  ⟨(some 17), (.call 43 [(.c (.int .i64 100))]), none⟩,
  ⟨(some 6), (.mv (.t 17)), none⟩]
def a32_5 : List AOper := [
  ⟨(some 19), (.mv (.t 0)), none⟩,
  ⟨(some 20), (.mv (.t 1)), none⟩,
  ⟨(some 21), (.nilCheck (.t 19)), none⟩,
  ⟨(some 22), (.fieldAddr 0 (.t 21)), none⟩,
  ⟨(some 23), (.idxAddrArr 1 2 (.t 22) (.t 20)), none⟩,
  ⟨(some 24), (.load false 1 (.t 23)), none⟩,
  ⟨(some 25), (.len false (.t 24)), none⟩,
  ⟨(some 26), (.mv (.t 2)), none⟩,
  ⟨(some 27), (.len false (.t 26)), none⟩,
  ⟨(some 28), (.bin .add (.t 25) (.t 27)), none⟩,
  ⟨(some 29), (.bin .gtr (.t 28) (.c (.int .i64 4194304))), none⟩,
  ⟨(some 18), (.mv (.t 29)), none⟩]
def a32_6 : List AOper := [
  ⟨(some 30), (.call 43 [(.c (.int .i64 4))]), none⟩,
  ⟨(some 6), (.mv (.t 30)), none⟩]
def a32_7 : List AOper := [
  ⟨(some 31), (.mv (.t 0)), none⟩,
  ⟨(some 32), (.mv (.t 1)), none⟩,
  ⟨(some 33), (.lit true 1 0 [] []), none⟩,
  ⟨(some 34), (.mv (.t 0)), none⟩,
  ⟨(some 35), (.mv (.t 1)), none⟩,
  ⟨(some 36), (.nilCheck (.t 34)), none⟩,
  ⟨(some 37), (.fieldAddr 0 (.t 36)), none⟩,
  ⟨(some 38), (.idxAddrArr 1 2 (.t 37) (.t 35)), none⟩,
  ⟨(some 39), (.load false 1 (.t 38)), none⟩,
  ⟨(some 40), (.append 1 1 (.t 33) (.t 39)), none⟩,
  ⟨(some 41), (.mv (.t 2)), none⟩,
  ⟨(some 42), (.append 1 1 (.t 40) (.t 41)), none⟩,
  ⟨(some 43), (.nilCheck (.t 31)), none⟩,
  ⟨(some 44), (.fieldAddr 0 (.t 43)), none⟩,
  ⟨(some 45), (.idxAddrArr 1 2 (.t 44) (.t 32)), none⟩,
  ⟨none, (.store 1 (.t 45) (.t 42)), none⟩]
def a32_7b : List Nat := [0, 0, 0, 0, 0, 8, 40, 120, 248, 508, 0, 2044, 1, 4097, 16383, 32767]
def a32_8 : List AOper := [
  ⟨(some 46), (.mv (.t 0)), none⟩,
  ⟨(some 47), (.mv (.t 1)), none⟩,
  ⟨(some 48), (.mv (.t 0)), none⟩,
  ⟨(some 49), (.mv (.t 1)), none⟩,
  ⟨(some 50), (.nilCheck (.t 48)), none⟩,
  ⟨(some 51), (.fieldAddr 4 (.t 50)), none⟩,
  ⟨(some 52), (.idxAddrArr 1 2 (.t 51) (.t 49)), none⟩,
  ⟨(some 53), (.load false 1 (.t 52)), none⟩,
  ⟨(some 54), (.mv (.t 2)), none⟩,
  ⟨(some 55), (.len false (.t 54)), none⟩,
  ⟨(some 56), (.bin .add (.t 53) (.t 55)), none⟩,
  ⟨(some 57), (.nilCheck (.t 46)), none⟩,
  ⟨(some 58), (.fieldAddr 4 (.t 57)), none⟩,
  ⟨(some 59), (.idxAddrArr 1 2 (.t 58) (.t 47)), none⟩,
  ⟨none, (.store 1 (.t 59) (.t 56)), none⟩]
def a32_8b : List Nat := [0, 0, 0, 0, 4, 20, 60, 124, 0, 256, 1020, 1, 2049, 8191, 16383]
def a32_9 : List AOper := [
  ⟨(some 6), (.mv (.c .nils)), none⟩]
def a32 : AFunc := ⟨[.tmp 6], (.seq (.ops a32_0) (.seq (.block 0 (.seq (.ops a32_1) (.cond (.t 7) (.seq (.ops a32_2) .ret) (.seq (.ops a32_3) (.cond (.t 12) (.seq (.ops a32_4) .ret) (.seq (.ops a32_5) (.cond (.t 18) (.seq (.ops a32_6) .ret) .skip))))))) (.seq (.draw a32_7 a32_7b) (.seq (.draw a32_8 a32_8b) (.seq (.ops a32_9) .ret)))))⟩
/-! ### 33: (*heddle/heddleref05.Stream).Move (58 slots) -/
def a33_0 : List AOper := [
  ⟨(some 6), (.mv (.c .nils)), none⟩]
def a33_1 : List AOper := [
  ⟨(some 8), (.mv (.t 1)), none⟩,
  ⟨(some 9), (.call 42 [(.t 8)]), none⟩,
  ⟨(some 10), (.un .not (.t 9)), none⟩,
  ⟨(some 7), (.mv (.t 10)), none⟩]
def a33_2 : List AOper := [
  ⟨(some 11), (.call 43 [(.c (.int .i64 2))]), none⟩,
  ⟨(some 6), (.mv (.t 11)), none⟩]
def a33_3 : List AOper := [
  ⟨(some 13), (.mv (.t 0)), none⟩,
  ⟨(some 14), (.nilCheck (.t 13)), none⟩,
  ⟨(some 15), (.fieldAddr 12 (.t 14)), none⟩,
  ⟨(some 16), (.load false 1 (.t 15)), none⟩,
  ⟨(some 12), (.mv (.t 16)), none⟩]
def a33_4 : List AOper := [
  ⟨(some 17), (.call 43 [(.c (.int .i64 100))]), none⟩,
  ⟨(some 6), (.mv (.t 17)), none⟩]
def a33_5 : List AOper := [
  ⟨(some 19), (.mv (.t 2)), none⟩,
  ⟨(some 20), (.bin .lss (.t 19) (.c (.int .i64 0))), none⟩,
  ⟨(some 18), (.mv (.t 20)), none⟩]
def a33_6 : List AOper := [
  ⟨(some 21), (.call 43 [(.c (.int .i64 1))]), none⟩,
  ⟨(some 6), (.mv (.t 21)), none⟩]
def a33_7 : List AOper := [
  ⟨(some 23), (.mv (.t 0)), none⟩,
  ⟨(some 24), (.mv (.t 1)), none⟩,
  ⟨(some 25), (.nilCheck (.t 23)), none⟩,
  ⟨(some 26), (.fieldAddr 10 (.t 25)), none⟩,
  ⟨(some 27), (.idxAddrArr 1 2 (.t 26) (.t 24)), none⟩,
  ⟨(some 28), (.load false 1 (.t 27)), none⟩,
  ⟨(some 22), (.mv (.t 28)), none⟩]
def a33_8 : List AOper := [
  ⟨(some 29), (.call 43 [(.c (.int .i64 101))]), none⟩,
  ⟨(some 6), (.mv (.t 29)), none⟩]
def a33_9 : List AOper := [
  ⟨(some 31), (.mv (.t 2)), none⟩,
  ⟨(some 32), (.mv (.t 0)), none⟩,
  ⟨(some 33), (.mv (.t 1)), none⟩,
  ⟨(some 34), (.nilCheck (.t 32)), none⟩,
  ⟨(some 35), (.fieldAddr 0 (.t 34)), none⟩,
  ⟨(some 36), (.idxAddrArr 1 2 (.t 35) (.t 33)), none⟩,
  ⟨(some 37), (.load false 1 (.t 36)), none⟩,
  ⟨(some 38), (.len false (.t 37)), none⟩,
  ⟨(some 39), (.bin .gtr (.t 31) (.t 38)), none⟩,
  ⟨(some 30), (.mv (.t 39)), none⟩]
def a33_10 : List AOper := [
  ⟨(some 40), (.call 43 [(.c (.int .i64 102))]), none⟩,
  ⟨(some 6), (.mv (.t 40)), none⟩]
def a33_11 : List AOper := [
  ⟨(some 42), (.mv (.t 0)), none⟩,
  ⟨(some 43), (.mv (.t 1)), none⟩,
  ⟨(some 44), (.bin .sub (.c (.int .i64 1)) (.t 43)), none⟩,
  ⟨(some 45), (.nilCheck (.t 42)), none⟩,
  ⟨(some 46), (.fieldAddr 2 (.t 45)), none⟩,
  ⟨(some 47), (.idxAddrArr 1 2 (.t 46) (.t 44)), none⟩,
  ⟨(some 48), (.load false 1 (.t 47)), none⟩,
  ⟨(some 49), (.len false (.t 48)), none⟩,
  ⟨(some 50), (.mv (.t 2)), none⟩,
  ⟨(some 51), (.bin .add (.t 49) (.t 50)), none⟩,
  ⟨(some 52), (.bin .gtr (.t 51) (.c (.int .i64 4194304))), none⟩,
  ⟨(some 41), (.mv (.t 52)), none⟩]
def a33_12 : List AOper := [
  ⟨(some 53), (.call 43 [(.c (.int .i64 5))]), none⟩,
  ⟨(some 6), (.mv (.t 53)), none⟩]
def a33_13 : List AOper := [
  ⟨(some 54), (.mv (.t 0)), none⟩,
  ⟨(some 55), (.mv (.t 1)), none⟩,
  ⟨(some 56), (.mv (.t 2)), none⟩,
  ⟨(some 57), (.call 44 [(.t 54), (.t 55), (.t 56)]), none⟩]
def a33_14 : List AOper := [
  ⟨(some 6), (.mv (.c .nils)), none⟩]
def a33 : AFunc := ⟨[.tmp 6], (.seq (.ops a33_0) (.seq (.block 0 (.seq (.ops a33_1) (.cond (.t 7) (.seq (.ops a33_2) .ret) (.seq (.ops a33_3) (.cond (.t 12) (.seq (.ops a33_4) .ret) (.seq (.ops a33_5) (.cond (.t 18) (.seq (.ops a33_6) .ret) (.seq (.ops a33_7) (.cond (.t 22) (.seq (.ops a33_8) .ret) (.seq (.ops a33_9) (.cond (.t 30) (.seq (.ops a33_10) .ret) (.seq (.ops a33_11) (.cond (.t 41) (.seq (.ops a33_12) .ret) .skip))))))))))))) (.seq (.ops a33_13) (.seq (.ops a33_14) .ret))))⟩
/-! ### 34: (*heddle/heddleref05.Stream).Stall (22 slots) -/
def a34_0 : List AOper := [
  ⟨(some 6), (.mv (.c .nils)), none⟩]
def a34_1 : List AOper := [
  ⟨(some 7), (.mv (.t 1)), none⟩,
  ⟨(some 8), (.call 42 [(.t 7)]), none⟩,
  ⟨(some 9), (.un .not (.t 8)), none⟩]
def a34_2 : List AOper := [
  ⟨(some 10), (.call 43 [(.c (.int .i64 2))]), none⟩,
  ⟨(some 6), (.mv (.t 10)), none⟩]
def a34_3 : List AOper := [
  ⟨(some 11), (.mv (.t 0)), none⟩,
  ⟨(some 12), (.nilCheck (.t 11)), none⟩,
  ⟨(some 13), (.fieldAddr 12 (.t 12)), none⟩,
  ⟨(some 14), (.load false 1 (.t 13)), none⟩]
def a34_4 : List AOper := [
  ⟨(some 15), (.call 43 [(.c (.int .i64 100))]), none⟩,
  ⟨(some 6), (.mv (.t 15)), none⟩]
def a34_5 : List AOper := [
  ⟨(some 16), (.mv (.t 0)), none⟩,
  ⟨(some 17), (.mv (.t 1)), none⟩,
  ⟨(some 18), (.mv (.t 2)), none⟩,
  ⟨(some 19), (.nilCheck (.t 16)), none⟩,
  ⟨(some 20), (.fieldAddr 10 (.t 19)), none⟩,
  ⟨(some 21), (.idxAddrArr 1 2 (.t 20) (.t 17)), none⟩,
  ⟨none, (.store 1 (.t 21) (.t 18)), none⟩]
def a34_6 : List AOper := [
  ⟨(some 6), (.mv (.c .nils)), none⟩]
def a34 : AFunc := ⟨[.tmp 6], (.seq (.ops a34_0) (.seq (.seq (.ops a34_1) (.cond (.t 9) (.seq (.ops a34_2) .ret) .skip)) (.seq (.seq (.ops a34_3) (.cond (.t 14) (.seq (.ops a34_4) .ret) .skip)) (.seq (.ops a34_5) (.seq (.ops a34_6) .ret)))))⟩
/-! ### 35: (*heddle/heddleref05.Stream).Read (85 slots) -/
def a35_0 : List AOper := [
  ⟨(some 6), (.mv (.c .nils)), none⟩,
  ⟨(some 7), (.mv (.c .nils)), none⟩]
def a35_1 : List AOper := [
  ⟨(some 11), (.mv (.t 1)), none⟩,
  ⟨(some 12), (.call 42 [(.t 11)]), none⟩,
  ⟨(some 13), (.un .not (.t 12)), none⟩,
  ⟨(some 10), (.mv (.t 13)), none⟩]
def a35_2 : List AOper := [
  ⟨(some 14), (.call 43 [(.c (.int .i64 2))]), none⟩,
  ⟨(some 6), (.mv (.c .nils)), none⟩,
  ⟨(some 7), (.mv (.t 14)), none⟩]
def a35_3 : List AOper := [
  ⟨(some 16), (.mv (.t 2)), none⟩,
  ⟨(some 17), (.bin .lss (.t 16) (.c (.int .i64 0))), none⟩,
  ⟨(some 15), (.mv (.t 17)), none⟩]
def a35_4 : List AOper := [
  ⟨(some 18), (.call 43 [(.c (.int .i64 1))]), none⟩,
  ⟨(some 6), (.mv (.c .nils)), none⟩,
  ⟨(some 7), (.mv (.t 18)), none⟩]
def a35_5 : List AOper := [
  ⟨(some 20), (.mv (.t 0)), none⟩,
  ⟨(some 21), (.nilCheck (.t 20)), none⟩,
  ⟨(some 22), (.fieldAddr 12 (.t 21)), none⟩,
  ⟨(some 23), (.load false 1 (.t 22)), none⟩,
  ⟨(some 24), (.mv (.t 23)), none⟩,
  ⟨(some 25), (.mv (.t 0)), (some (24, true))⟩,
  ⟨(some 26), (.mv (.t 1)), (some (24, true))⟩,
  ⟨(some 27), (.nilCheck (.t 25)), (some (24, true))⟩,
  ⟨(some 28), (.fieldAddr 2 (.t 27)), (some (24, true))⟩,
  ⟨(some 29), (.idxAddrArr 1 2 (.t 28) (.t 26)), (some (24, true))⟩,
  ⟨(some 30), (.load false 1 (.t 29)), (some (24, true))⟩,
  ⟨(some 31), (.len false (.t 30)), (some (24, true))⟩,
  ⟨(some 32), (.bin .eql (.t 31) (.c (.int .i64 0))), (some (24, true))⟩,
  ⟨(some 33), (.pick (.t 24) (.t 32) (.c (.bool false))), none⟩,
  ⟨(some 19), (.mv (.t 33)), none⟩]
def a35_6 : List AOper := [
  ⟨(some 34), (.call 43 [(.c (.int .i64 8))]), none⟩,
  ⟨(some 6), (.mv (.c .nils)), none⟩,
  ⟨(some 7), (.mv (.t 34)), none⟩]
def a35_7 : List AOper := [
  ⟨(some 35), (.mv (.t 0)), none⟩,
  ⟨(some 36), (.mv (.t 1)), none⟩,
  ⟨(some 37), (.nilCheck (.t 35)), none⟩,
  ⟨(some 38), (.fieldAddr 2 (.t 37)), none⟩,
  ⟨(some 39), (.idxAddrArr 1 2 (.t 38) (.t 36)), none⟩,
  ⟨(some 40), (.load false 1 (.t 39)), none⟩,
  ⟨(some 41), (.len false (.t 40)), none⟩,
  ⟨(some 8), (.mv (.t 41)), none⟩]
def a35_8 : List AOper := [
  ⟨(some 42), (.mv (.t 8)), none⟩,
  ⟨(some 43), (.mv (.t 2)), none⟩,
  ⟨(some 44), (.bin .gtr (.t 42) (.t 43)), none⟩]
def a35_9 : List AOper := [
  ⟨(some 45), (.mv (.t 2)), none⟩,
  ⟨(some 8), (.mv (.t 45)), none⟩]
def a35_10 : List AOper := [
  ⟨(some 46), (.lit true 1 0 [] []), none⟩,
  ⟨(some 47), (.mv (.t 0)), none⟩,
  ⟨(some 48), (.mv (.t 1)), none⟩,
  ⟨(some 49), (.nilCheck (.t 47)), none⟩,
  ⟨(some 50), (.fieldAddr 2 (.t 49)), none⟩,
  ⟨(some 51), (.idxAddrArr 1 2 (.t 50) (.t 48)), none⟩,
  ⟨(some 52), (.load false 1 (.t 51)), none⟩,
  ⟨(some 53), (.mv (.t 8)), none⟩,
  ⟨(some 54), (.slice 1 (.t 52) none (some (.t 53)) none), none⟩,
  ⟨(some 55), (.append 1 1 (.t 46) (.t 54)), none⟩,
  ⟨(some 9), (.mv (.t 55)), none⟩]
def a35_11 : List AOper := [
  ⟨(some 56), (.mv (.t 0)), none⟩,
  ⟨(some 57), (.mv (.t 1)), none⟩,
  ⟨(some 58), (.lit true 1 0 [] []), none⟩,
  ⟨(some 59), (.mv (.t 0)), none⟩,
  ⟨(some 60), (.mv (.t 1)), none⟩,
  ⟨(some 61), (.nilCheck (.t 59)), none⟩,
  ⟨(some 62), (.fieldAddr 2 (.t 61)), none⟩,
  ⟨(some 63), (.idxAddrArr 1 2 (.t 62) (.t 60)), none⟩,
  ⟨(some 64), (.load false 1 (.t 63)), none⟩,
  ⟨(some 65), (.mv (.t 8)), none⟩,
  ⟨(some 66), (.slice 1 (.t 64) (some (.t 65)) none none), none⟩,
  ⟨(some 67), (.append 1 1 (.t 58) (.t 66)), none⟩,
  ⟨(some 68), (.nilCheck (.t 56)), none⟩,
  ⟨(some 69), (.fieldAddr 2 (.t 68)), none⟩,
  ⟨(some 70), (.idxAddrArr 1 2 (.t 69) (.t 57)), none⟩,
  ⟨none, (.store 1 (.t 70) (.t 67)), none⟩]
def a35_11b : List Nat := [0, 0, 0, 0, 0, 8, 40, 120, 248, 0, 1016, 2044, 1, 4097, 16383, 32767]
def a35_12 : List AOper := [
  ⟨(some 71), (.mv (.t 0)), none⟩,
  ⟨(some 72), (.mv (.t 1)), none⟩,
  ⟨(some 73), (.mv (.t 0)), none⟩,
  ⟨(some 74), (.mv (.t 1)), none⟩,
  ⟨(some 75), (.nilCheck (.t 73)), none⟩,
  ⟨(some 76), (.fieldAddr 8 (.t 75)), none⟩,
  ⟨(some 77), (.idxAddrArr 1 2 (.t 76) (.t 74)), none⟩,
  ⟨(some 78), (.load false 1 (.t 77)), none⟩,
  ⟨(some 79), (.mv (.t 8)), none⟩,
  ⟨(some 80), (.bin .add (.t 78) (.t 79)), none⟩,
  ⟨(some 81), (.nilCheck (.t 71)), none⟩,
  ⟨(some 82), (.fieldAddr 8 (.t 81)), none⟩,
  ⟨(some 83), (.idxAddrArr 1 2 (.t 82) (.t 72)), none⟩,
  ⟨none, (.store 1 (.t 83) (.t 80)), none⟩]
def a35_12b : List Nat := [0, 0, 0, 0, 4, 20, 60, 124, 0, 508, 1, 1025, 4095, 8191]
def a35_13 : List AOper := [
  ⟨(some 84), (.mv (.t 9)), none⟩,
  ⟨(some 6), (.mv (.t 84)), none⟩,
  ⟨(some 7), (.mv (.c .nils)), none⟩]
def a35 : AFunc := ⟨[.tmp 6, .tmp 7], (.seq (.ops a35_0) (.seq (.block 0 (.seq (.ops a35_1) (.cond (.t 10) (.seq (.ops a35_2) .ret) (.seq (.ops a35_3) (.cond (.t 15) (.seq (.ops a35_4) .ret) (.seq (.ops a35_5) (.cond (.t 19) (.seq (.ops a35_6) .ret) .skip))))))) (.seq (.ops a35_7) (.seq (.seq (.ops a35_8) (.cond (.t 44) (.ops a35_9) .skip)) (.seq (.ops a35_10) (.seq (.draw a35_11 a35_11b) (.seq (.draw a35_12 a35_12b) (.seq (.ops a35_13) .ret))))))))⟩
/-! ### 36: (*heddle/heddleref05.Stream).Break (19 slots) -/
def a36_0 : List AOper := [
  ⟨(some 2), (.mv (.c .nils)), none⟩]
def a36_1 : List AOper := [
  ⟨(some 3), (.mv (.t 0)), none⟩,
  ⟨(some 4), (.nilCheck (.t 3)), none⟩,
  ⟨(some 5), (.fieldAddr 12 (.t 4)), none⟩,
  ⟨(some 6), (.load false 1 (.t 5)), none⟩]
def a36_2 : List AOper := [
  ⟨(some 7), (.call 43 [(.c (.int .i64 100))]), none⟩,
  ⟨(some 2), (.mv (.t 7)), none⟩]
def a36_3 : List AOper := [
  ⟨(some 8), (.mv (.t 0)), none⟩,
  ⟨(some 9), (.nilCheck (.t 8)), none⟩,
  ⟨(some 10), (.fieldAddr 12 (.t 9)), none⟩,
  ⟨none, (.store 1 (.t 10) (.c (.bool true))), none⟩]
def a36_4 : List AOper := [
  ⟨(some 11), (.mv (.t 0)), none⟩,
  ⟨(some 12), (.mv (.t 0)), none⟩,
  ⟨(some 13), (.nilCheck (.t 11)), none⟩,
  ⟨(some 14), (.fieldAddr 0 (.t 13)), none⟩,
  ⟨(some 15), (.idxAddrArr 1 2 (.t 14) (.c (.int .i64 0))), none⟩,
  ⟨none, (.store 1 (.t 15) (.c .nils)), none⟩,
  ⟨(some 16), (.nilCheck (.t 12)), none⟩,
  ⟨(some 17), (.fieldAddr 0 (.t 16)), none⟩,
  ⟨(some 18), (.idxAddrArr 1 2 (.t 17) (.c (.int .i64 1))), none⟩,
  ⟨none, (.store 1 (.t 18) (.c .nils)), none⟩]
def a36_4b : List Nat := [0, 0, 1, 5, 13, 29, 2, 66, 255, 511]
def a36_5 : List AOper := [
  ⟨(some 2), (.mv (.c .nils)), none⟩]
def a36 : AFunc := ⟨[.tmp 2], (.seq (.ops a36_0) (.seq (.seq (.ops a36_1) (.cond (.t 6) (.seq (.ops a36_2) .ret) .skip)) (.seq (.ops a36_3) (.seq (.draw a36_4 a36_4b) (.seq (.ops a36_5) .ret)))))⟩
/-! ### 37: (*heddle/heddleref05.Stream).Close (26 slots) -/
def a37_0 : List AOper := [
  ⟨(some 4), (.mv (.c .nils)), none⟩]
def a37_1 : List AOper := [
  ⟨(some 5), (.mv (.t 1)), none⟩,
  ⟨(some 6), (.call 42 [(.t 5)]), none⟩,
  ⟨(some 7), (.un .not (.t 6)), none⟩]
def a37_2 : List AOper := [
  ⟨(some 8), (.call 43 [(.c (.int .i64 2))]), none⟩,
  ⟨(some 4), (.mv (.t 8)), none⟩]
def a37_3 : List AOper := [
  ⟨(some 9), (.mv (.t 0)), none⟩,
  ⟨(some 10), (.nilCheck (.t 9)), none⟩,
  ⟨(some 11), (.fieldAddr 12 (.t 10)), none⟩,
  ⟨(some 12), (.load false 1 (.t 11)), none⟩]
def a37_4 : List AOper := [
  ⟨(some 13), (.call 43 [(.c (.int .i64 100))]), none⟩,
  ⟨(some 4), (.mv (.t 13)), none⟩]
def a37_5 : List AOper := [
  ⟨(some 14), (.mv (.t 0)), none⟩,
  ⟨(some 15), (.mv (.t 1)), none⟩,
  ⟨(some 16), (.mv (.t 0)), none⟩,
  ⟨(some 17), (.mv (.t 1)), none⟩,
  ⟨(some 18), (.nilCheck (.t 16)), none⟩,
  ⟨(some 19), (.fieldAddr 0 (.t 18)), none⟩,
  ⟨(some 20), (.idxAddrArr 1 2 (.t 19) (.t 17)), none⟩,
  ⟨(some 21), (.load false 1 (.t 20)), none⟩,
  ⟨(some 22), (.len false (.t 21)), none⟩,
  ⟨(some 23), (.call 44 [(.t 14), (.t 15), (.t 22)]), none⟩]
def a37_6 : List AOper := [
  ⟨(some 24), (.mv (.t 0)), none⟩,
  ⟨(some 25), (.call 36 [(.t 24)]), none⟩,
  ⟨(some 4), (.mv (.t 25)), none⟩]
def a37 : AFunc := ⟨[.tmp 4], (.seq (.ops a37_0) (.seq (.seq (.ops a37_1) (.cond (.t 7) (.seq (.ops a37_2) .ret) .skip)) (.seq (.seq (.ops a37_3) (.cond (.t 12) (.seq (.ops a37_4) .ret) .skip)) (.seq (.ops a37_5) (.seq (.ops a37_6) .ret)))))⟩
/-! ### 38: (*heddle/heddleref05.Stream).State (54 slots) -/
def a38_0 : List AOper := [
  ⟨(some 4), (.alloc [(.int .i64 0), (.int .i64 0), (.int .i64 0), (.int .i64 0), (.int .i64 0), (.bool false), (.bool false)]), none⟩,
  ⟨(some 5), (.mv (.c .nils)), none⟩]
def a38_1 : List AOper := [
  ⟨(some 6), (.mv (.t 1)), none⟩,
  ⟨(some 7), (.call 42 [(.t 6)]), none⟩,
  ⟨(some 8), (.un .not (.t 7)), none⟩]
def a38_2 : List AOper := [
  ⟨(some 9), (.build [(.int .i64 0), (.int .i64 0), (.int .i64 0), (.int .i64 0), (.int .i64 0), (.bool false), (.bool false)] []), none⟩,
  ⟨(some 10), (.call 43 [(.c (.int .i64 2))]), none⟩,
  ⟨none, (.store 7 (.t 4) (.t 9)), none⟩,
  ⟨(some 5), (.mv (.t 10)), none⟩]
def a38_3 : List AOper := [
  ⟨(some 11), (.mv (.t 0)), none⟩,
  ⟨(some 12), (.mv (.t 1)), none⟩,
  ⟨(some 13), (.nilCheck (.t 11)), none⟩,
  ⟨(some 14), (.fieldAddr 0 (.t 13)), none⟩,
  ⟨(some 15), (.idxAddrArr 1 2 (.t 14) (.t 12)), none⟩,
  ⟨(some 16), (.load false 1 (.t 15)), none⟩,
  ⟨(some 17), (.len false (.t 16)), none⟩,
  ⟨(some 18), (.mv (.t 0)), none⟩,
  ⟨(some 19), (.mv (.t 1)), none⟩,
  ⟨(some 20), (.nilCheck (.t 18)), none⟩,
  ⟨(some 21), (.fieldAddr 2 (.t 20)), none⟩,
  ⟨(some 22), (.idxAddrArr 1 2 (.t 21) (.t 19)), none⟩,
  ⟨(some 23), (.load false 1 (.t 22)), none⟩,
  ⟨(some 24), (.len false (.t 23)), none⟩,
  ⟨(some 25), (.mv (.t 0)), none⟩,
  ⟨(some 26), (.mv (.t 1)), none⟩,
  ⟨(some 27), (.nilCheck (.t 25)), none⟩,
  ⟨(some 28), (.fieldAddr 4 (.t 27)), none⟩,
  ⟨(some 29), (.idxAddrArr 1 2 (.t 28) (.t 26)), none⟩,
  ⟨(some 30), (.load false 1 (.t 29)), none⟩,
  ⟨(some 31), (.mv (.t 0)), none⟩,
  ⟨(some 32), (.mv (.t 1)), none⟩,
  ⟨(some 33), (.nilCheck (.t 31)), none⟩,
  ⟨(some 34), (.fieldAddr 6 (.t 33)), none⟩,
  ⟨(some 35), (.idxAddrArr 1 2 (.t 34) (.t 32)), none⟩,
  ⟨(some 36), (.load false 1 (.t 35)), none⟩,
  ⟨(some 37), (.mv (.t 0)), none⟩,
  ⟨(some 38), (.mv (.t 1)), none⟩,
  ⟨(some 39), (.nilCheck (.t 37)), none⟩,
  ⟨(some 40), (.fieldAddr 8 (.t 39)), none⟩,
  ⟨(some 41), (.idxAddrArr 1 2 (.t 40) (.t 38)), none⟩,
  ⟨(some 42), (.load false 1 (.t 41)), none⟩,
  ⟨(some 43), (.mv (.t 0)), none⟩,
  ⟨(some 44), (.mv (.t 1)), none⟩,
  ⟨(some 45), (.nilCheck (.t 43)), none⟩,
  ⟨(some 46), (.fieldAddr 10 (.t 45)), none⟩,
  ⟨(some 47), (.idxAddrArr 1 2 (.t 46) (.t 44)), none⟩,
  ⟨(some 48), (.load false 1 (.t 47)), none⟩,
  ⟨(some 49), (.mv (.t 0)), none⟩,
  ⟨(some 50), (.nilCheck (.t 49)), none⟩,
  ⟨(some 51), (.fieldAddr 12 (.t 50)), none⟩,
  ⟨(some 52), (.load false 1 (.t 51)), none⟩,
  ⟨(some 53), (.build [(.int .i64 0), (.int .i64 0), (.int .i64 0), (.int .i64 0), (.int .i64 0), (.bool false), (.bool false)] [(0, 1, (.t 17)), (1, 1, (.t 24)), (2, 1, (.t 30)), (3, 1, (.t 36)), (4, 1, (.t 42)), (5, 1, (.t 48)), (6, 1, (.t 52))]), none⟩,
  ⟨none, (.store 7 (.t 4) (.t 53)), none⟩,
  ⟨(some 5), (.mv (.c .nils)), none⟩]
def a38_3b : List Nat := [0, 0, 1, 5, 15, 31, 63, 0, 0, 128, 640, 1920, 3968, 8064, 0, 0, 16384, 81920, 245760, 507904, 0, 0, 1048576, 5242880, 15728640, 32505856, 0, 0, 67108864, 335544320, 1006632960, 2080374784, 0, 0, 4294967296, 21474836480, 64424509440, 133143986176, 0, 274877906944, 824633720832, 1924145348608, 4398046511103, 8796093022207, 17592186044415]
def a38 : AFunc := ⟨[.cell 4 true 7, .tmp 5], (.seq (.ops a38_0) (.seq (.seq (.ops a38_1) (.cond (.t 8) (.seq (.ops a38_2) .ret) .skip)) (.seq (.draw a38_3 a38_3b) .ret)))⟩
/-! ### 42: heddle/heddleref05.end (9 slots) -/
def a42_0 : List AOper := [
  ⟨(some 2), (.mv (.c (.bool false))), none⟩]
def a42_1 : List AOper := [
  ⟨(some 3), (.mv (.t 0)), none⟩,
  ⟨(some 4), (.bin .eql (.t 3) (.c (.int .i64 0))), none⟩,
  ⟨(some 5), (.mv (.t 4)), none⟩,
  ⟨(some 6), (.mv (.t 0)), (some (5, false))⟩,
  ⟨(some 7), (.bin .eql (.t 6) (.c (.int .i64 1))), (some (5, false))⟩,
  ⟨(some 8), (.pick (.t 5) (.c (.bool true)) (.t 7)), none⟩,
  ⟨(some 2), (.mv (.t 8)), none⟩]
def a42 : AFunc := ⟨[.tmp 2], (.seq (.ops a42_0) (.seq (.ops a42_1) .ret))⟩
/-! ### 43: heddle/heddleref05.no (5 slots) -/
def a43_0 : List AOper := [
  ⟨(some 2), (.mv (.c .nils)), none⟩]
def a43_1 : List AOper := [
  ⟨(some 3), (.mv (.t 0)), none⟩,
  ⟨(some 4), (.call 17 [(.c (.str [115, 116, 114, 101, 97, 109])), (.c (.int .i64 0)), (.t 3)]), none⟩,
  ⟨(some 2), (.mv (.t 4)), none⟩]
def a43 : AFunc := ⟨[.tmp 2], (.seq (.ops a43_0) (.seq (.ops a43_1) .ret))⟩
/-! ### 44: (*heddle/heddleref05.Stream).move (60 slots) -/
def a44_0 : List AOper := [
  ⟨(some 6), (.mv (.t 0)), none⟩,
  ⟨(some 7), (.mv (.t 1)), none⟩,
  ⟨(some 8), (.bin .sub (.c (.int .i64 1)) (.t 7)), none⟩,
  ⟨(some 9), (.lit true 1 0 [] []), none⟩,
  ⟨(some 10), (.mv (.t 0)), none⟩,
  ⟨(some 11), (.mv (.t 1)), none⟩,
  ⟨(some 12), (.bin .sub (.c (.int .i64 1)) (.t 11)), none⟩,
  ⟨(some 13), (.nilCheck (.t 10)), none⟩,
  ⟨(some 14), (.fieldAddr 2 (.t 13)), none⟩,
  ⟨(some 15), (.idxAddrArr 1 2 (.t 14) (.t 12)), none⟩,
  ⟨(some 16), (.load false 1 (.t 15)), none⟩,
  ⟨(some 17), (.append 1 1 (.t 9) (.t 16)), none⟩,
  ⟨(some 18), (.mv (.t 0)), none⟩,
  ⟨(some 19), (.mv (.t 1)), none⟩,
  ⟨(some 20), (.nilCheck (.t 18)), none⟩,
  ⟨(some 21), (.fieldAddr 0 (.t 20)), none⟩,
  ⟨(some 22), (.idxAddrArr 1 2 (.t 21) (.t 19)), none⟩,
  ⟨(some 23), (.load false 1 (.t 22)), none⟩,
  ⟨(some 24), (.mv (.t 2)), none⟩,
  ⟨(some 25), (.slice 1 (.t 23) none (some (.t 24)) none), none⟩,
  ⟨(some 26), (.append 1 1 (.t 17) (.t 25)), none⟩,
  ⟨(some 27), (.nilCheck (.t 6)), none⟩,
  ⟨(some 28), (.fieldAddr 2 (.t 27)), none⟩,
  ⟨(some 29), (.idxAddrArr 1 2 (.t 28) (.t 8)), none⟩,
  ⟨none, (.store 1 (.t 29) (.t 26)), none⟩]
def a44_0b : List Nat := [0, 0, 2, 0, 0, 0, 32, 16, 144, 496, 1008, 2040, 0, 0, 4096, 20480, 61440, 126976, 0, 520192, 1048568, 1, 2097153, 8388607, 16777215]
def a44_1 : List AOper := [
  ⟨(some 30), (.mv (.t 0)), none⟩,
  ⟨(some 31), (.mv (.t 1)), none⟩,
  ⟨(some 32), (.lit true 1 0 [] []), none⟩,
  ⟨(some 33), (.mv (.t 0)), none⟩,
  ⟨(some 34), (.mv (.t 1)), none⟩,
  ⟨(some 35), (.nilCheck (.t 33)), none⟩,
  ⟨(some 36), (.fieldAddr 0 (.t 35)), none⟩,
  ⟨(some 37), (.idxAddrArr 1 2 (.t 36) (.t 34)), none⟩,
  ⟨(some 38), (.load false 1 (.t 37)), none⟩,
  ⟨(some 39), (.mv (.t 2)), none⟩,
  ⟨(some 40), (.slice 1 (.t 38) (some (.t 39)) none none), none⟩,
  ⟨(some 41), (.append 1 1 (.t 32) (.t 40)), none⟩,
  ⟨(some 42), (.nilCheck (.t 30)), none⟩,
  ⟨(some 43), (.fieldAddr 0 (.t 42)), none⟩,
  ⟨(some 44), (.idxAddrArr 1 2 (.t 43) (.t 31)), none⟩,
  ⟨none, (.store 1 (.t 44) (.t 41)), none⟩]
def a44_1b : List Nat := [0, 0, 0, 0, 0, 8, 40, 120, 248, 0, 1016, 2044, 1, 4097, 16383, 32767]
def a44_2 : List AOper := [
  ⟨(some 45), (.mv (.t 0)), none⟩,
  ⟨(some 46), (.mv (.t 1)), none⟩,
  ⟨(some 47), (.bin .sub (.c (.int .i64 1)) (.t 46)), none⟩,
  ⟨(some 48), (.mv (.t 0)), none⟩,
  ⟨(some 49), (.mv (.t 1)), none⟩,
  ⟨(some 50), (.bin .sub (.c (.int .i64 1)) (.t 49)), none⟩,
  ⟨(some 51), (.nilCheck (.t 48)), none⟩,
  ⟨(some 52), (.fieldAddr 6 (.t 51)), none⟩,
  ⟨(some 53), (.idxAddrArr 1 2 (.t 52) (.t 50)), none⟩,
  ⟨(some 54), (.load false 1 (.t 53)), none⟩,
  ⟨(some 55), (.mv (.t 2)), none⟩,
  ⟨(some 56), (.bin .add (.t 54) (.t 55)), none⟩,
  ⟨(some 57), (.nilCheck (.t 45)), none⟩,
  ⟨(some 58), (.fieldAddr 6 (.t 57)), none⟩,
  ⟨(some 59), (.idxAddrArr 1 2 (.t 58) (.t 47)), none⟩,
  ⟨none, (.store 1 (.t 59) (.t 56)), none⟩]
def a44_2b : List Nat := [0, 0, 2, 0, 0, 16, 8, 72, 248, 504, 0, 2040, 1, 4097, 16383, 32767]
def a44 : AFunc := ⟨[], (.seq (.draw a44_0 a44_0b) (.seq (.draw a44_1 a44_1b) (.draw a44_2 a44_2b)))⟩
def func : Nat → Option AFunc
  | 3 => some a3
  | 4 => some a4
  | 5 => some a5
  | 6 => some a6
  | 7 => some a7
  | 8 => some a8
  | 9 => some a9
  | 10 => some a10
  | 11 => some a11
  | 12 => some a12
  | 13 => some a13
  | 14 => some a14
  | 15 => some a15
  | 16 => some a16
  | 17 => some a17
  | 18 => some a18
  | 19 => some a19
  | 20 => some a20
  | 21 => some a21
  | 22 => some a22
  | 23 => some a23
  | 24 => some a24
  | 25 => some a25
  | 26 => some a26
  | 28 => some a28
  | 29 => some a29
  | 30 => some a30
  | 31 => some a31
  | 32 => some a32
  | 33 => some a33
  | 34 => some a34
  | 35 => some a35
  | 36 => some a36
  | 37 => some a37
  | 38 => some a38
  | 42 => some a42
  | 43 => some a43
  | 44 => some a44
  | _ => none

/-- errors.As of a Fault, into a variable of Faults -/
def asP : List AV → Heap → Option (AV × Heap)
  | [.ifc 84 (.fp cs), .ifc 92 (.ptr id gen off)], h => (h.at_ id gen).bind fun os => if off < os.length then some (.bool true, h.upd id gen (splice os off [.fp cs])) else none
  | _, _ => none
/-- errors.Is of no error, or of a Fault without another below, and a number -/
def isP : List AV → Heap → Option (AV × Heap)
  | [.ifc 84 (.fp [_, _, .int .i64 c, .nili]), .ifc 42 (.int .i64 c')], h => some (.bool (c == c'), h)
  | [.nili, .ifc 42 (.int .i64 c')], h => some (.bool false, h)
  | _, _ => none
def prims : Nat → Option (List AV → Heap → Option (AV × Heap))
  | 41 => some asP
  | 27 => some isP
  | _ => none
/-- what the world must be like: errors.errorType is laid -/
def start (B : Nat) (w : World) : Prop := 0 < B ∧ w.cell? ⟨0, 0, none⟩ = some (.iface 96 (.agg #[.pointer (some ⟨1, 27, none⟩)]))
def env : Env := { func := func, glob := fun _ => none, pure_ := fun n => n == 11 || n == 25 || n == 17 || n == 42 || n == 43, prim := prims, ok := start }
end Go.St
