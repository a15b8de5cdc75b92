/-
  THE ABSTRACT MACHINE's code of the functions that the three statements of package frame reach: printed by a program of this session's own; FrTie shows that it is what the translation gives.
-/
import Derived.Test.YtlggjdneolgkoaaAmCore
set_option linter.unusedVariables false
namespace Go.Fr
open Go.AM
/-! ### 4: heddle/heddlelaw06.FrameBack (88 slots) -/
def a4_0 : List AOper := [
  ⟨(some 4), (.mv (.c (.bool false))), none⟩]
def a4_1 : List AOper := [
  ⟨(some 5), (.mv (.c .nils)), none⟩]
def a4_2 : List AOper := [
  ⟨(some 6), (.mv (.c (.int .i64 0))), none⟩]
def a4_3 : List AOper := [
  ⟨(some 12), (.mv (.t 6)), none⟩,
  ⟨(some 13), (.mv (.t 1)), none⟩,
  ⟨(some 14), (.len false (.t 13)), none⟩,
  ⟨(some 15), (.bin .lss (.t 12) (.t 14)), none⟩]
def a4_4 : List AOper := [
  ⟨(some 19), (.mv (.t 0)), none⟩,
  ⟨(some 20), (.mv (.t 1)), none⟩,
  ⟨(some 21), (.mv (.t 6)), none⟩,
  ⟨(some 22), (.idxAddr 1 (.t 20) (.t 21)), none⟩,
  ⟨(some 23), (.load false 1 (.t 22)), none⟩,
  ⟨(some 24), (.call 13 [(.t 19), (.t 23)]), none⟩,
  ⟨(some 18), (.mv (.t 24)), none⟩,
  ⟨(some 25), (.extract (.t 18) 0), none⟩,
  ⟨(some 26), (.extract (.t 18) 1), none⟩,
  ⟨(some 7), (.mv (.t 25)), none⟩,
  ⟨(some 8), (.mv (.t 26)), none⟩]
def a4_5 : List AOper := [
  ⟨(some 27), (.mv (.t 8)), none⟩,
  ⟨(some 28), (.eq true (.iface true) (.t 27) (.c .nili)), none⟩]
def a4_6 : List AOper := [
  ⟨(some 29), (.mv (.t 7)), none⟩,
  ⟨(some 30), (.len false (.t 29)), none⟩,
  ⟨(some 31), (.bin .eql (.t 30) (.c (.int .i64 0))), none⟩,
  ⟨(some 32), (.mv (.t 31)), none⟩,
  ⟨(some 33), (.call 7 []), (some (32, true))⟩,
  ⟨(some 34), (.pick (.t 32) (.t 33) (.c (.bool false))), none⟩,
  ⟨(some 35), (.mv (.t 34)), none⟩,
  ⟨(some 36), (.mv (.t 0)), (some (35, true))⟩,
  ⟨(some 37), (.bin .neq (.t 36) (.c (.int .i64 2))), (some (35, true))⟩,
  ⟨(some 38), (.mv (.t 37)), (some (35, true))⟩,
  ⟨(some 39), (.mv (.t 0)), (some (38, true))⟩,
  ⟨(some 40), (.bin .neq (.t 39) (.c (.int .i64 4))), (some (38, true))⟩,
  ⟨(some 41), (.pick (.t 38) (.t 40) (.c (.bool false))), (some (35, true))⟩,
  ⟨(some 42), (.mv (.t 41)), (some (35, true))⟩,
  ⟨(some 43), (.mv (.t 1)), (some (42, false))⟩,
  ⟨(some 44), (.mv (.t 6)), (some (42, false))⟩,
  ⟨(some 45), (.idxAddr 1 (.t 43) (.t 44)), (some (42, false))⟩,
  ⟨(some 46), (.load false 1 (.t 45)), (some (42, false))⟩,
  ⟨(some 47), (.len false (.t 46)), (some (42, false))⟩,
  ⟨(some 48), (.bin .gtr (.t 47) (.c (.int .i64 1024))), (some (42, false))⟩,
  ⟨(some 49), (.pick (.t 42) (.c (.bool true)) (.t 48)), (some (35, true))⟩,
  ⟨(some 50), (.pick (.t 35) (.t 49) (.c (.bool false))), none⟩,
  ⟨(some 4), (.mv (.t 50)), none⟩]
def a4_7 : List AOper := [
  ⟨(some 51), (.mv (.t 5)), none⟩,
  ⟨(some 52), (.mv (.t 7)), none⟩,
  ⟨(some 53), (.append 1 1 (.t 51) (.t 52)), none⟩,
  ⟨(some 5), (.mv (.t 53)), none⟩]
def a4_8 : List AOper := [
  ⟨(some 16), (.mv (.t 6)), none⟩,
  ⟨(some 17), (.bin .add (.t 16) (.c (.int .i64 1))), none⟩,
  ⟨(some 6), (.mv (.t 17)), none⟩]
def a4_l9 : AC := (.seq (.seq (.ops a4_3) (.cond (.t 15) .skip (.exit 0))) (.seq (.block 1 (.seq (.ops a4_4) (.seq (.seq (.ops a4_5) (.cond (.t 28) (.seq (.ops a4_6) .ret) .skip)) (.ops a4_7)))) (.ops a4_8)))
def a4_10 : List AOper := [
  ⟨(some 55), (.mv (.t 0)), none⟩,
  ⟨(some 56), (.mv (.t 5)), none⟩,
  ⟨(some 57), (.call 14 [(.t 55), (.t 56)]), none⟩,
  ⟨(some 54), (.mv (.t 57)), none⟩,
  ⟨(some 58), (.extract (.t 54) 0), none⟩,
  ⟨(some 59), (.extract (.t 54) 1), none⟩,
  ⟨(some 60), (.extract (.t 54) 2), none⟩,
  ⟨(some 9), (.mv (.t 58)), none⟩,
  ⟨(some 10), (.mv (.t 59)), none⟩,
  ⟨(some 11), (.mv (.t 60)), none⟩]
def a4_11 : List AOper := [
  ⟨(some 61), (.mv (.t 0)), none⟩,
  ⟨(some 62), (.bin .neq (.t 61) (.c (.int .i64 2))), none⟩,
  ⟨(some 63), (.mv (.t 62)), none⟩,
  ⟨(some 64), (.mv (.t 0)), (some (63, true))⟩,
  ⟨(some 65), (.bin .neq (.t 64) (.c (.int .i64 4))), (some (63, true))⟩,
  ⟨(some 66), (.pick (.t 63) (.t 65) (.c (.bool false))), none⟩]
def a4_12 : List AOper := [
  ⟨(some 67), (.mv (.t 11)), none⟩,
  ⟨(some 68), (.eq true (.iface true) (.t 67) (.c .nili)), none⟩,
  ⟨(some 69), (.mv (.t 68)), none⟩,
  ⟨(some 70), (.call 7 []), (some (69, true))⟩,
  ⟨(some 71), (.pick (.t 69) (.t 70) (.c (.bool false))), none⟩,
  ⟨(some 4), (.mv (.t 71)), none⟩]
def a4_13 : List AOper := [
  ⟨(some 72), (.mv (.t 11)), none⟩,
  ⟨(some 73), (.eq false (.iface true) (.t 72) (.c .nili)), none⟩,
  ⟨(some 74), (.mv (.t 73)), none⟩,
  ⟨(some 75), (.mv (.t 10)), (some (74, true))⟩,
  ⟨(some 76), (.mv (.t 5)), (some (74, true))⟩,
  ⟨(some 77), (.len false (.t 76)), (some (74, true))⟩,
  ⟨(some 78), (.bin .eql (.t 75) (.t 77)), (some (74, true))⟩,
  ⟨(some 79), (.pick (.t 74) (.t 78) (.c (.bool false))), none⟩,
  ⟨(some 80), (.mv (.t 79)), none⟩,
  ⟨(some 81), (.mv (.t 1)), (some (80, true))⟩,
  ⟨(some 82), (.mv (.t 9)), (some (80, true))⟩,
  ⟨(some 83), (.call 11 [(.t 81), (.t 82)]), (some (80, true))⟩,
  ⟨(some 84), (.pick (.t 80) (.t 83) (.c (.bool false))), none⟩,
  ⟨(some 85), (.mv (.t 84)), none⟩,
  ⟨(some 86), (.call 7 []), (some (85, true))⟩,
  ⟨(some 87), (.pick (.t 85) (.t 86) (.c (.bool false))), none⟩,
  ⟨(some 4), (.mv (.t 87)), none⟩]
def a4 : AFunc := ⟨[.tmp 4], (.seq (.ops a4_0) (.seq (.ops a4_1) (.seq (.seq (.ops a4_2) (.block 0 (.loop a4_l9))) (.seq (.ops a4_10) (.seq (.seq (.ops a4_11) (.cond (.t 66) (.seq (.ops a4_12) .ret) .skip)) (.seq (.ops a4_13) .ret))))))⟩
/-! ### 5: heddle/heddlelaw06.FrameOwn (160 slots) -/
def a5_0 : List AOper := [
  ⟨(some 4), (.mv (.c (.bool false))), none⟩]
def a5_1 : List AOper := [
  ⟨(some 26), (.lit true 1 0 [] []), none⟩,
  ⟨(some 27), (.mv (.t 1)), none⟩,
  ⟨(some 28), (.append 1 1 (.t 26) (.t 27)), none⟩,
  ⟨(some 5), (.mv (.t 28)), none⟩]
def a5_2 : List AOper := [
  ⟨(some 30), (.mv (.t 0)), none⟩,
  ⟨(some 31), (.mv (.t 5)), none⟩,
  ⟨(some 32), (.call 14 [(.t 30), (.t 31)]), none⟩,
  ⟨(some 29), (.mv (.t 32)), none⟩,
  ⟨(some 33), (.extract (.t 29) 0), none⟩,
  ⟨(some 34), (.extract (.t 29) 1), none⟩,
  ⟨(some 35), (.extract (.t 29) 2), none⟩,
  ⟨(some 6), (.mv (.t 33)), none⟩,
  ⟨(some 7), (.mv (.t 34)), none⟩,
  ⟨(some 8), (.mv (.t 35)), none⟩]
def a5_3 : List AOper := [
  ⟨(some 37), (.mv (.t 0)), none⟩,
  ⟨(some 38), (.call 6 [(.t 37)]), none⟩,
  ⟨(some 36), (.mv (.t 38)), none⟩,
  ⟨(some 39), (.extract (.t 36) 0), none⟩,
  ⟨(some 40), (.extract (.t 36) 1), none⟩,
  ⟨(some 9), (.mv (.t 39)), none⟩,
  ⟨(some 10), (.mv (.t 40)), none⟩]
def a5_4 : List AOper := [
  ⟨(some 41), (.mv (.t 10)), none⟩,
  ⟨(some 42), (.eq true (.iface true) (.t 41) (.c .nili)), none⟩,
  ⟨(some 43), (.mv (.t 42)), none⟩,
  ⟨(some 44), (.call 7 []), (some (43, false))⟩,
  ⟨(some 45), (.un .not (.t 44)), (some (43, false))⟩,
  ⟨(some 46), (.pick (.t 43) (.c (.bool true)) (.t 45)), none⟩]
def a5_5 : List AOper := [
  ⟨(some 47), (.mv (.t 10)), none⟩,
  ⟨(some 48), (.eq true (.iface true) (.t 47) (.c .nili)), none⟩,
  ⟨(some 49), (.mv (.t 48)), none⟩,
  ⟨(some 50), (.mv (.t 8)), (some (49, true))⟩,
  ⟨(some 51), (.eq true (.iface true) (.t 50) (.c .nili)), (some (49, true))⟩,
  ⟨(some 52), (.pick (.t 49) (.t 51) (.c (.bool false))), none⟩,
  ⟨(some 53), (.mv (.t 52)), none⟩,
  ⟨(some 54), (.call 7 []), (some (53, true))⟩,
  ⟨(some 55), (.pick (.t 53) (.t 54) (.c (.bool false))), none⟩,
  ⟨(some 4), (.mv (.t 55)), none⟩]
def a5_6 : List AOper := [
  ⟨(some 56), (.mv (.t 9)), none⟩,
  ⟨(some 57), (.eq false .ptr (.t 56) (.c .nilp)), none⟩]
def a5_7 : List AOper := [
  ⟨(some 4), (.mv (.c (.bool false))), none⟩]
def a5_8 : List AOper := [
  ⟨(some 58), (.mv (.t 1)), none⟩,
  ⟨(some 59), (.len false (.t 58)), none⟩,
  ⟨(some 60), (.bin .gtr (.t 59) (.c (.int .i64 16777216))), none⟩]
def a5_9 : List AOper := [
  ⟨(some 4), (.mv (.c (.bool true))), none⟩]
def a5_10 : List AOper := [
  ⟨(some 61), (.mv (.t 9)), none⟩,
  ⟨(some 62), (.mv (.t 5)), none⟩,
  ⟨(some 63), (.call 9 [(.t 61), (.t 62)]), none⟩,
  ⟨(some 11), (.mv (.t 63)), none⟩]
def a5_11 : List AOper := [
  ⟨(some 65), (.mv (.t 9)), none⟩,
  ⟨(some 66), (.call 10 [(.t 65)]), none⟩,
  ⟨(some 64), (.mv (.t 66)), none⟩,
  ⟨(some 67), (.extract (.t 64) 0), none⟩,
  ⟨(some 68), (.extract (.t 64) 1), none⟩,
  ⟨(some 69), (.extract (.t 64) 2), none⟩,
  ⟨(some 12), (.mv (.t 67)), none⟩,
  ⟨(some 13), (.mv (.t 68)), none⟩,
  ⟨(some 14), (.mv (.t 69)), none⟩]
def a5_12 : List AOper := [
  ⟨(some 70), (.mv (.t 5)), none⟩,
  ⟨(some 71), (.conv .b2s (.t 70)), none⟩,
  ⟨(some 72), (.mv (.t 1)), none⟩,
  ⟨(some 73), (.conv .b2s (.t 72)), none⟩,
  ⟨(some 74), (.bin .neq (.t 71) (.t 73)), none⟩,
  ⟨(some 75), (.mv (.t 74)), none⟩,
  ⟨(some 76), (.mv (.t 11)), (some (75, false))⟩,
  ⟨(some 77), (.eq true (.iface true) (.t 76) (.c .nili)), (some (75, false))⟩,
  ⟨(some 78), (.pick (.t 75) (.c (.bool true)) (.t 77)), none⟩]
def a5_13 : List AOper := [
  ⟨(some 4), (.mv (.c (.bool false))), none⟩]
def a5_14 : List AOper := [
  ⟨(some 79), (.mv (.t 5)), none⟩,
  ⟨(some 80), (.len false (.t 79)), none⟩,
  ⟨(some 81), (.mv (.c (.int .i64 0))), none⟩]
def a5_15 : List AOper := [
  ⟨(some 82), (.bin .lss (.t 81) (.t 80)), none⟩]
def a5_16 : List AOper := [
  ⟨(some 83), (.mv (.t 81)), none⟩,
  ⟨(some 15), (.mv (.t 83)), none⟩]
def a5_17 : List AOper := [
  ⟨(some 84), (.mv (.t 5)), none⟩,
  ⟨(some 85), (.mv (.t 15)), none⟩,
  ⟨(some 86), (.idxAddr 1 (.t 84) (.t 85)), none⟩,
  ⟨none, (.store 1 (.t 86) (.c (.int .u8 99))), none⟩]
def a5_18 : List AOper := [
  ⟨(some 87), (.bin .add (.t 81) (.c (.int .i64 1))), none⟩,
  ⟨(some 81), (.mv (.t 87)), none⟩]
def a5_l19 : AC := (.seq (.ops a5_15) (.seq (.cond (.t 82) .skip (.exit 0)) (.seq (.block 1 (.seq (.ops a5_16) (.ops a5_17))) (.ops a5_18))))
def a5_20 : List AOper := [
  ⟨(some 89), (.mv (.t 0)), none⟩,
  ⟨(some 90), (.mv (.t 1)), none⟩,
  ⟨(some 91), (.call 8 [(.t 89), (.t 90)]), none⟩,
  ⟨(some 88), (.mv (.t 91)), none⟩,
  ⟨(some 92), (.extract (.t 88) 0), none⟩,
  ⟨(some 93), (.extract (.t 88) 1), none⟩,
  ⟨(some 94), (.extract (.t 88) 2), none⟩,
  ⟨(some 16), (.mv (.t 92)), none⟩,
  ⟨(some 17), (.mv (.t 93)), none⟩,
  ⟨(some 18), (.mv (.t 94)), none⟩]
def a5_21 : List AOper := [
  ⟨(some 96), (.mv (.t 0)), none⟩,
  ⟨(some 97), (.call 15 [(.t 96)]), none⟩,
  ⟨(some 95), (.mv (.t 97)), none⟩,
  ⟨(some 98), (.extract (.t 95) 0), none⟩,
  ⟨(some 99), (.extract (.t 95) 1), none⟩,
  ⟨(some 19), (.mv (.t 98)), none⟩,
  ⟨(some 20), (.mv (.t 99)), none⟩]
def a5_22 : List AOper := [
  ⟨(some 100), (.mv (.t 19)), none⟩,
  ⟨(some 101), (.mv (.t 1)), none⟩,
  ⟨(some 102), (.call 16 [(.t 100), (.t 101)]), none⟩]
def a5_23 : List AOper := [
  ⟨(some 104), (.mv (.t 19)), none⟩,
  ⟨(some 105), (.call 17 [(.t 104)]), none⟩,
  ⟨(some 103), (.mv (.t 105)), none⟩,
  ⟨(some 106), (.extract (.t 103) 0), none⟩,
  ⟨(some 107), (.extract (.t 103) 1), none⟩,
  ⟨(some 108), (.extract (.t 103) 2), none⟩,
  ⟨(some 21), (.mv (.t 106)), none⟩,
  ⟨(some 22), (.mv (.t 107)), none⟩,
  ⟨(some 23), (.mv (.t 108)), none⟩]
def a5_24 : List AOper := [
  ⟨(some 109), (.mv (.t 6)), none⟩,
  ⟨(some 110), (.mv (.t 16)), none⟩,
  ⟨(some 111), (.call 11 [(.t 109), (.t 110)]), none⟩,
  ⟨(some 112), (.un .not (.t 111)), none⟩,
  ⟨(some 113), (.mv (.t 112)), none⟩,
  ⟨(some 114), (.mv (.t 13)), (some (113, false))⟩,
  ⟨(some 115), (.mv (.t 22)), (some (113, false))⟩,
  ⟨(some 116), (.eq true .bool (.t 114) (.t 115)), (some (113, false))⟩,
  ⟨(some 117), (.pick (.t 113) (.c (.bool true)) (.t 116)), none⟩,
  ⟨(some 118), (.mv (.t 117)), none⟩,
  ⟨(some 119), (.mv (.t 12)), (some (118, false))⟩,
  ⟨(some 120), (.conv .b2s (.t 119)), (some (118, false))⟩,
  ⟨(some 121), (.mv (.t 21)), (some (118, false))⟩,
  ⟨(some 122), (.conv .b2s (.t 121)), (some (118, false))⟩,
  ⟨(some 123), (.bin .neq (.t 120) (.t 122)), (some (118, false))⟩,
  ⟨(some 124), (.pick (.t 118) (.c (.bool true)) (.t 123)), none⟩]
def a5_25 : List AOper := [
  ⟨(some 4), (.mv (.c (.bool false))), none⟩]
def a5_26 : List AOper := [
  ⟨(some 125), (.mv (.t 12)), none⟩,
  ⟨(some 126), (.len false (.t 125)), none⟩,
  ⟨(some 127), (.mv (.c (.int .i64 0))), none⟩]
def a5_27 : List AOper := [
  ⟨(some 128), (.bin .lss (.t 127) (.t 126)), none⟩]
def a5_28 : List AOper := [
  ⟨(some 129), (.mv (.t 127)), none⟩,
  ⟨(some 24), (.mv (.t 129)), none⟩]
def a5_29 : List AOper := [
  ⟨(some 130), (.mv (.t 12)), none⟩,
  ⟨(some 131), (.mv (.t 24)), none⟩,
  ⟨(some 132), (.idxAddr 1 (.t 130) (.t 131)), none⟩,
  ⟨none, (.store 1 (.t 132) (.c (.int .u8 98))), none⟩]
def a5_30 : List AOper := [
  ⟨(some 133), (.bin .add (.t 127) (.c (.int .i64 1))), none⟩,
  ⟨(some 127), (.mv (.t 133)), none⟩]
def a5_l31 : AC := (.seq (.ops a5_27) (.seq (.cond (.t 128) .skip (.exit 2)) (.seq (.block 3 (.seq (.ops a5_28) (.ops a5_29))) (.ops a5_30))))
def a5_32 : List AOper := [
  ⟨(some 25), (.mv (.c (.int .i64 0))), none⟩]
def a5_33 : List AOper := [
  ⟨(some 134), (.mv (.t 25)), none⟩,
  ⟨(some 135), (.bin .lss (.t 134) (.c (.int .i64 3))), none⟩]
def a5_34 : List AOper := [
  ⟨(some 139), (.mv (.t 9)), none⟩,
  ⟨(some 140), (.call 10 [(.t 139)]), none⟩,
  ⟨(some 138), (.mv (.t 140)), none⟩,
  ⟨(some 141), (.extract (.t 138) 0), none⟩,
  ⟨(some 142), (.extract (.t 138) 1), none⟩,
  ⟨(some 143), (.extract (.t 138) 2), none⟩,
  ⟨(some 12), (.mv (.t 141)), none⟩,
  ⟨(some 13), (.mv (.t 142)), none⟩]
def a5_35 : List AOper := [
  ⟨(some 145), (.mv (.t 19)), none⟩,
  ⟨(some 146), (.call 17 [(.t 145)]), none⟩,
  ⟨(some 144), (.mv (.t 146)), none⟩,
  ⟨(some 147), (.extract (.t 144) 0), none⟩,
  ⟨(some 148), (.extract (.t 144) 1), none⟩,
  ⟨(some 149), (.extract (.t 144) 2), none⟩,
  ⟨(some 21), (.mv (.t 147)), none⟩,
  ⟨(some 22), (.mv (.t 148)), none⟩]
def a5_36 : List AOper := [
  ⟨(some 150), (.mv (.t 13)), none⟩,
  ⟨(some 151), (.mv (.t 22)), none⟩,
  ⟨(some 152), (.eq true .bool (.t 150) (.t 151)), none⟩,
  ⟨(some 153), (.mv (.t 152)), none⟩,
  ⟨(some 154), (.mv (.t 12)), (some (153, false))⟩,
  ⟨(some 155), (.conv .b2s (.t 154)), (some (153, false))⟩,
  ⟨(some 156), (.mv (.t 21)), (some (153, false))⟩,
  ⟨(some 157), (.conv .b2s (.t 156)), (some (153, false))⟩,
  ⟨(some 158), (.bin .neq (.t 155) (.t 157)), (some (153, false))⟩,
  ⟨(some 159), (.pick (.t 153) (.c (.bool true)) (.t 158)), none⟩]
def a5_37 : List AOper := [
  ⟨(some 4), (.mv (.c (.bool false))), none⟩]
def a5_38 : List AOper := [
  ⟨(some 136), (.mv (.t 25)), none⟩,
  ⟨(some 137), (.bin .add (.t 136) (.c (.int .i64 1))), none⟩,
  ⟨(some 25), (.mv (.t 137)), none⟩]
def a5_l39 : AC := (.seq (.seq (.ops a5_33) (.cond (.t 135) .skip (.exit 4))) (.seq (.block 5 (.seq (.ops a5_34) (.seq (.ops a5_35) (.seq (.ops a5_36) (.cond (.t 159) (.seq (.ops a5_37) .ret) .skip))))) (.ops a5_38)))
def a5_40 : List AOper := [
  ⟨(some 4), (.mv (.c (.bool true))), none⟩]
def a5 : AFunc := ⟨[.tmp 4], (.seq (.ops a5_0) (.seq (.ops a5_1) (.seq (.ops a5_2) (.seq (.ops a5_3) (.seq (.seq (.ops a5_4) (.cond (.t 46) (.seq (.ops a5_5) .ret) .skip)) (.seq (.seq (.ops a5_6) (.cond (.t 57) (.seq (.ops a5_7) .ret) .skip)) (.seq (.seq (.ops a5_8) (.cond (.t 60) (.seq (.ops a5_9) .ret) .skip)) (.seq (.ops a5_10) (.seq (.ops a5_11) (.seq (.seq (.ops a5_12) (.cond (.t 78) (.seq (.ops a5_13) .ret) .skip)) (.seq (.seq (.ops a5_14) (.block 0 (.loop a5_l19))) (.seq (.ops a5_20) (.seq (.ops a5_21) (.seq (.ops a5_22) (.seq (.ops a5_23) (.seq (.seq (.ops a5_24) (.cond (.t 124) (.seq (.ops a5_25) .ret) .skip)) (.seq (.seq (.ops a5_26) (.block 2 (.loop a5_l31))) (.seq (.seq (.ops a5_32) (.block 4 (.loop a5_l39))) (.seq (.ops a5_40) .ret)))))))))))))))))))⟩
/-! ### 3: heddle/heddlelaw06.FrameChunks (197 slots) -/
def a3_0 : List AOper := [
  ⟨(some 1), (.box false 4 (.t 0)), none⟩,
  ⟨(some 2), (.mv (.c (.bool false))), none⟩]
def a3_1 : List AOper := [
  ⟨(some 24), (.fieldAddr 0 (.t 1)), none⟩,
  ⟨(some 25), (.load false 1 (.t 24)), none⟩,
  ⟨(some 26), (.fieldAddr 1 (.t 1)), none⟩,
  ⟨(some 27), (.load false 1 (.t 26)), none⟩,
  ⟨(some 28), (.fieldAddr 2 (.t 1)), none⟩,
  ⟨(some 29), (.load false 1 (.t 28)), none⟩,
  ⟨(some 30), (.fieldAddr 3 (.t 1)), none⟩,
  ⟨(some 31), (.load false 1 (.t 30)), none⟩,
  ⟨(some 3), (.mv (.t 25)), none⟩,
  ⟨(some 4), (.mv (.t 27)), none⟩,
  ⟨(some 5), (.mv (.t 29)), none⟩,
  ⟨(some 6), (.mv (.t 31)), none⟩]
def a3_1b : List Nat := [0, 1, 0, 4, 0, 16, 0, 64, 3, 271, 831, 2047]
def a3_2 : List AOper := [
  ⟨(some 33), (.mv (.t 3)), none⟩,
  ⟨(some 34), (.call 6 [(.t 33)]), none⟩,
  ⟨(some 32), (.mv (.t 34)), none⟩,
  ⟨(some 35), (.extract (.t 32) 0), none⟩,
  ⟨(some 36), (.extract (.t 32) 1), none⟩,
  ⟨(some 7), (.mv (.t 35)), none⟩,
  ⟨(some 8), (.mv (.t 36)), none⟩]
def a3_3 : List AOper := [
  ⟨(some 37), (.mv (.t 8)), none⟩,
  ⟨(some 38), (.eq true (.iface true) (.t 37) (.c .nili)), none⟩,
  ⟨(some 39), (.mv (.t 38)), none⟩,
  ⟨(some 40), (.call 7 []), (some (39, false))⟩,
  ⟨(some 41), (.un .not (.t 40)), (some (39, false))⟩,
  ⟨(some 42), (.pick (.t 39) (.c (.bool true)) (.t 41)), none⟩]
def a3_4 : List AOper := [
  ⟨(some 43), (.mv (.t 8)), none⟩,
  ⟨(some 44), (.eq true (.iface true) (.t 43) (.c .nili)), none⟩,
  ⟨(some 45), (.mv (.t 44)), none⟩,
  ⟨(some 46), (.mv (.t 7)), (some (45, true))⟩,
  ⟨(some 47), (.eq false .ptr (.t 46) (.c .nilp)), (some (45, true))⟩,
  ⟨(some 48), (.pick (.t 45) (.t 47) (.c (.bool false))), none⟩,
  ⟨(some 49), (.mv (.t 48)), none⟩,
  ⟨(some 50), (.call 7 []), (some (49, true))⟩,
  ⟨(some 51), (.pick (.t 49) (.t 50) (.c (.bool false))), none⟩,
  ⟨(some 2), (.mv (.t 51)), none⟩]
def a3_5 : List AOper := [
  ⟨(some 52), (.mv (.t 7)), none⟩,
  ⟨(some 53), (.eq false .ptr (.t 52) (.c .nilp)), none⟩]
def a3_6 : List AOper := [
  ⟨(some 2), (.mv (.c (.bool false))), none⟩]
def a3_7 : List AOper := [
  ⟨(some 54), (.mv (.t 4)), none⟩,
  ⟨(some 55), (.len false (.t 54)), none⟩,
  ⟨(some 56), (.bin .gtr (.t 55) (.c (.int .i64 16777216))), none⟩]
def a3_8 : List AOper := [
  ⟨(some 2), (.mv (.c (.bool true))), none⟩]
def a3_9 : List AOper := [
  ⟨(some 58), (.mv (.t 3)), none⟩,
  ⟨(some 59), (.mv (.t 4)), none⟩,
  ⟨(some 60), (.call 8 [(.t 58), (.t 59)]), none⟩,
  ⟨(some 57), (.mv (.t 60)), none⟩,
  ⟨(some 61), (.extract (.t 57) 0), none⟩,
  ⟨(some 62), (.extract (.t 57) 1), none⟩,
  ⟨(some 63), (.extract (.t 57) 2), none⟩,
  ⟨(some 9), (.mv (.t 61)), none⟩,
  ⟨(some 10), (.mv (.t 62)), none⟩,
  ⟨(some 11), (.mv (.t 63)), none⟩]
def a3_10 : List AOper := [
  ⟨(some 12), (.mv (.c .nils)), none⟩]
def a3_11 : List AOper := [
  ⟨(some 13), (.mv (.c (.bool false))), none⟩]
def a3_12 : List AOper := [
  ⟨(some 14), (.mv (.c (.int .i64 0))), none⟩]
def a3_13 : List AOper := [
  ⟨(some 15), (.mv (.c (.int .i64 0))), none⟩]
def a3_14 : List AOper := [
  ⟨(some 64), (.mv (.t 15)), none⟩,
  ⟨(some 65), (.mv (.t 5)), none⟩,
  ⟨(some 66), (.len false (.t 65)), none⟩,
  ⟨(some 67), (.bin .leq (.t 64) (.t 66)), none⟩,
  ⟨(some 68), (.mv (.t 67)), none⟩,
  ⟨(some 69), (.mv (.t 15)), (some (68, true))⟩,
  ⟨(some 70), (.bin .lss (.t 69) (.c (.int .i64 200))), (some (68, true))⟩,
  ⟨(some 71), (.pick (.t 68) (.t 70) (.c (.bool false))), none⟩]
def a3_15 : List AOper := [
  ⟨(some 74), (.mv (.t 4)), none⟩,
  ⟨(some 75), (.len false (.t 74)), none⟩,
  ⟨(some 16), (.mv (.t 75)), none⟩]
def a3_16 : List AOper := [
  ⟨(some 76), (.mv (.t 15)), none⟩,
  ⟨(some 77), (.mv (.t 5)), none⟩,
  ⟨(some 78), (.len false (.t 77)), none⟩,
  ⟨(some 79), (.bin .lss (.t 76) (.t 78)), none⟩,
  ⟨(some 80), (.mv (.t 79)), none⟩,
  ⟨(some 81), (.mv (.t 15)), (some (80, true))⟩,
  ⟨(some 82), (.bin .lss (.t 81) (.c (.int .i64 199))), (some (80, true))⟩,
  ⟨(some 83), (.pick (.t 80) (.t 82) (.c (.bool false))), none⟩]
def a3_17 : List AOper := [
  ⟨(some 84), (.mv (.t 14)), none⟩,
  ⟨(some 85), (.mv (.t 5)), none⟩,
  ⟨(some 86), (.mv (.t 15)), none⟩,
  ⟨(some 87), (.idxAddr 1 (.t 85) (.t 86)), none⟩,
  ⟨(some 88), (.load false 1 (.t 87)), none⟩,
  ⟨(some 89), (.conv (.int .u64) (.t 88)), none⟩,
  ⟨(some 90), (.mv (.t 4)), none⟩,
  ⟨(some 91), (.len false (.t 90)), none⟩,
  ⟨(some 92), (.mv (.t 14)), none⟩,
  ⟨(some 93), (.bin .sub (.t 91) (.t 92)), none⟩,
  ⟨(some 94), (.bin .add (.t 93) (.c (.int .i64 1))), none⟩,
  ⟨(some 95), (.conv (.int .u64) (.t 94)), none⟩,
  ⟨(some 96), (.bin .rem (.t 89) (.t 95)), none⟩,
  ⟨(some 97), (.conv (.int .i64) (.t 96)), none⟩,
  ⟨(some 98), (.bin .add (.t 84) (.t 97)), none⟩,
  ⟨(some 16), (.mv (.t 98)), none⟩]
def a3_18 : List AOper := [
  ⟨(some 99), (.mv (.t 7)), none⟩,
  ⟨(some 100), (.mv (.t 4)), none⟩,
  ⟨(some 101), (.mv (.t 14)), none⟩,
  ⟨(some 102), (.mv (.t 16)), none⟩,
  ⟨(some 103), (.slice 1 (.t 100) (some (.t 101)) (some (.t 102)) none), none⟩,
  ⟨(some 104), (.call 9 [(.t 99), (.t 103)]), none⟩,
  ⟨(some 105), (.eq true (.iface true) (.t 104) (.c .nili)), none⟩,
  ⟨(some 106), (.mv (.t 105)), none⟩,
  ⟨(some 107), (.mv (.t 13)), (some (106, true))⟩,
  ⟨(some 108), (.un .not (.t 107)), (some (106, true))⟩,
  ⟨(some 109), (.pick (.t 106) (.t 108) (.c (.bool false))), none⟩]
def a3_19 : List AOper := [
  ⟨(some 2), (.mv (.c (.bool false))), none⟩]
def a3_20 : List AOper := [
  ⟨(some 110), (.mv (.t 16)), none⟩,
  ⟨(some 14), (.mv (.t 110)), none⟩]
def a3_21 : List AOper := [
  ⟨(some 17), (.mv (.c (.int .i64 0))), none⟩]
def a3_22 : List AOper := [
  ⟨(some 111), (.mv (.t 6)), none⟩,
  ⟨(some 112), (.mv (.t 15)), none⟩,
  ⟨(some 113), (.bin .rem (.t 112) (.c (.int .i64 64))), none⟩,
  ⟨(some 114), (.conv (.int .u64) (.t 113)), none⟩,
  ⟨(some 115), (.bin .shr (.t 111) (.t 114)), none⟩,
  ⟨(some 116), (.bin .and (.t 115) (.c (.int .u64 1))), none⟩,
  ⟨(some 117), (.bin .eql (.t 116) (.c (.int .u64 1))), none⟩,
  ⟨(some 118), (.mv (.t 117)), none⟩,
  ⟨(some 119), (.mv (.t 14)), (some (118, false))⟩,
  ⟨(some 120), (.mv (.t 4)), (some (118, false))⟩,
  ⟨(some 121), (.len false (.t 120)), (some (118, false))⟩,
  ⟨(some 122), (.bin .eql (.t 119) (.t 121)), (some (118, false))⟩,
  ⟨(some 123), (.pick (.t 118) (.c (.bool true)) (.t 122)), none⟩]
def a3_23 : List AOper := [
  ⟨(some 127), (.mv (.t 7)), none⟩,
  ⟨(some 128), (.call 10 [(.t 127)]), none⟩,
  ⟨(some 126), (.mv (.t 128)), none⟩,
  ⟨(some 129), (.extract (.t 126) 0), none⟩,
  ⟨(some 130), (.extract (.t 126) 1), none⟩,
  ⟨(some 131), (.extract (.t 126) 2), none⟩,
  ⟨(some 18), (.mv (.t 129)), none⟩,
  ⟨(some 19), (.mv (.t 130)), none⟩,
  ⟨(some 20), (.mv (.t 131)), none⟩]
def a3_24 : List AOper := [
  ⟨(some 132), (.mv (.t 13)), none⟩,
  ⟨(some 133), (.mv (.t 132)), none⟩,
  ⟨(some 134), (.mv (.t 20)), (some (133, false))⟩,
  ⟨(some 135), (.eq true (.iface true) (.t 134) (.c .nili)), (some (133, false))⟩,
  ⟨(some 136), (.pick (.t 133) (.c (.bool true)) (.t 135)), none⟩,
  ⟨(some 13), (.mv (.t 136)), none⟩]
def a3_25 : List AOper := [
  ⟨(some 137), (.mv (.t 19)), none⟩,
  ⟨(some 138), (.un .not (.t 137)), none⟩]
def a3_26 : List AOper := [
  ⟨(some 139), (.mv (.t 12)), none⟩,
  ⟨(some 140), (.mv (.t 18)), none⟩,
  ⟨(some 141), (.lit true 1 1 [.nils] [(0, 1, (.t 140))]), none⟩,
  ⟨(some 142), (.append 1 24 (.t 139) (.t 141)), none⟩,
  ⟨(some 12), (.mv (.t 142)), none⟩]
def a3_27 : List AOper := [
  ⟨(some 124), (.mv (.t 17)), none⟩,
  ⟨(some 125), (.bin .add (.t 124) (.c (.int .i64 1))), none⟩,
  ⟨(some 17), (.mv (.t 125)), none⟩]
def a3_l28 : AC := (.seq (.seq (.ops a3_22) (.cond (.t 123) .skip (.exit 2))) (.seq (.block 3 (.seq (.ops a3_23) (.seq (.ops a3_24) (.seq (.seq (.ops a3_25) (.cond (.t 138) (.exit 2) .skip)) (.ops a3_26))))) (.ops a3_27)))
def a3_29 : List AOper := [
  ⟨(some 72), (.mv (.t 15)), none⟩,
  ⟨(some 73), (.bin .add (.t 72) (.c (.int .i64 1))), none⟩,
  ⟨(some 15), (.mv (.t 73)), none⟩]
def a3_l30 : AC := (.seq (.seq (.ops a3_14) (.cond (.t 71) .skip (.exit 0))) (.seq (.block 1 (.seq (.ops a3_15) (.seq (.seq (.ops a3_16) (.cond (.t 83) (.ops a3_17) .skip)) (.seq (.seq (.ops a3_18) (.cond (.t 109) (.seq (.ops a3_19) .ret) .skip)) (.seq (.ops a3_20) (.seq (.ops a3_21) (.block 2 (.loop a3_l28)))))))) (.ops a3_29)))
def a3_31 : List AOper := [
  ⟨(some 143), (.mv (.t 11)), none⟩,
  ⟨(some 144), (.eq true .slice (.t 143) (.c .nils)), none⟩]
def a3_32 : List AOper := [
  ⟨(some 146), (.mv (.t 3)), none⟩,
  ⟨(some 147), (.mv (.t 4)), none⟩,
  ⟨(some 148), (.mv (.t 11)), none⟩,
  ⟨(some 149), (.idxAddr 3 (.t 148) (.c (.int .i64 0))), none⟩,
  ⟨(some 150), (.fieldAddr 1 (.t 149)), none⟩,
  ⟨(some 151), (.load false 1 (.t 150)), none⟩,
  ⟨(some 152), (.slice 1 (.t 147) none (some (.t 151)) none), none⟩,
  ⟨(some 153), (.call 8 [(.t 146), (.t 152)]), none⟩,
  ⟨(some 145), (.mv (.t 153)), none⟩,
  ⟨(some 154), (.extract (.t 145) 0), none⟩,
  ⟨(some 155), (.extract (.t 145) 1), none⟩,
  ⟨(some 156), (.extract (.t 145) 2), none⟩,
  ⟨(some 21), (.mv (.t 154)), none⟩,
  ⟨(some 22), (.mv (.t 155)), none⟩,
  ⟨(some 23), (.mv (.t 156)), none⟩]
def a3_33 : List AOper := [
  ⟨(some 157), (.mv (.t 13)), none⟩,
  ⟨(some 158), (.mv (.t 157)), none⟩,
  ⟨(some 159), (.mv (.t 12)), (some (158, true))⟩,
  ⟨(some 160), (.mv (.t 21)), (some (158, true))⟩,
  ⟨(some 161), (.call 11 [(.t 159), (.t 160)]), (some (158, true))⟩,
  ⟨(some 162), (.pick (.t 158) (.t 161) (.c (.bool false))), none⟩,
  ⟨(some 163), (.mv (.t 162)), none⟩,
  ⟨(some 164), (.mv (.t 7)), (some (163, true))⟩,
  ⟨(some 165), (.call 12 [(.t 164)]), (some (163, true))⟩,
  ⟨(some 166), (.field false 1 4 (.t 165)), (some (163, true))⟩,
  ⟨(some 167), (.mv (.t 11)), (some (163, true))⟩,
  ⟨(some 168), (.idxAddr 3 (.t 167) (.c (.int .i64 0))), (some (163, true))⟩,
  ⟨(some 169), (.fieldAddr 1 (.t 168)), (some (163, true))⟩,
  ⟨(some 170), (.load false 1 (.t 169)), (some (163, true))⟩,
  ⟨(some 171), (.bin .eql (.t 166) (.t 170)), (some (163, true))⟩,
  ⟨(some 172), (.pick (.t 163) (.t 171) (.c (.bool false))), none⟩,
  ⟨(some 2), (.mv (.t 172)), none⟩]
def a3_33b : List Nat := [0, 1, 3, 3, 15, 31, 63, 127, 255, 511, 127, 1151, 3199, 7295, 16383, 32767, 65535]
def a3_34 : List AOper := [
  ⟨(some 173), (.mv (.t 13)), none⟩,
  ⟨(some 174), (.un .not (.t 173)), none⟩,
  ⟨(some 175), (.mv (.t 174)), none⟩,
  ⟨(some 176), (.mv (.t 12)), (some (175, true))⟩,
  ⟨(some 177), (.mv (.t 9)), (some (175, true))⟩,
  ⟨(some 178), (.call 11 [(.t 176), (.t 177)]), (some (175, true))⟩,
  ⟨(some 179), (.pick (.t 175) (.t 178) (.c (.bool false))), none⟩,
  ⟨(some 180), (.mv (.t 179)), none⟩,
  ⟨(some 181), (.mv (.t 7)), (some (180, true))⟩,
  ⟨(some 182), (.call 12 [(.t 181)]), (some (180, true))⟩,
  ⟨(some 183), (.field false 1 4 (.t 182)), (some (180, true))⟩,
  ⟨(some 184), (.mv (.t 10)), (some (180, true))⟩,
  ⟨(some 185), (.bin .eql (.t 183) (.t 184)), (some (180, true))⟩,
  ⟨(some 186), (.pick (.t 180) (.t 185) (.c (.bool false))), none⟩,
  ⟨(some 187), (.mv (.t 186)), none⟩,
  ⟨(some 188), (.mv (.t 7)), (some (187, true))⟩,
  ⟨(some 189), (.call 12 [(.t 188)]), (some (187, true))⟩,
  ⟨(some 190), (.field false 1 1 (.t 189)), (some (187, true))⟩,
  ⟨(some 191), (.mv (.t 4)), (some (187, true))⟩,
  ⟨(some 192), (.len false (.t 191)), (some (187, true))⟩,
  ⟨(some 193), (.mv (.t 10)), (some (187, true))⟩,
  ⟨(some 194), (.bin .sub (.t 192) (.t 193)), (some (187, true))⟩,
  ⟨(some 195), (.bin .eql (.t 190) (.t 194)), (some (187, true))⟩,
  ⟨(some 196), (.pick (.t 187) (.t 195) (.c (.bool false))), none⟩,
  ⟨(some 2), (.mv (.t 196)), none⟩]
def a3 : AFunc := ⟨[.tmp 2], (.seq (.ops a3_0) (.seq (.draw a3_1 a3_1b) (.seq (.ops a3_2) (.seq (.seq (.ops a3_3) (.cond (.t 42) (.seq (.ops a3_4) .ret) .skip)) (.seq (.seq (.ops a3_5) (.cond (.t 53) (.seq (.ops a3_6) .ret) .skip)) (.seq (.seq (.ops a3_7) (.cond (.t 56) (.seq (.ops a3_8) .ret) .skip)) (.seq (.ops a3_9) (.seq (.ops a3_10) (.seq (.ops a3_11) (.seq (.ops a3_12) (.seq (.seq (.ops a3_13) (.block 0 (.loop a3_l30))) (.seq (.seq (.ops a3_31) (.cond (.t 144) (.seq (.ops a3_32) (.seq (.draw a3_33 a3_33b) .ret)) .skip)) (.seq (.ops a3_34) .ret)))))))))))))⟩
/-! ### 13: heddle/frame.Frame (40 slots) -/
def a13_0 : List AOper := [
  ⟨(some 4), (.mv (.c .nils)), none⟩,
  ⟨(some 5), (.mv (.c .nili)), none⟩]
def a13_1 : List AOper := [
  ⟨(some 9), (.mv (.t 0)), none⟩,
  ⟨(some 10), (.call 18 [(.t 9)]), none⟩,
  ⟨(some 11), (.bin .eql (.t 10) (.c (.int .i64 0))), none⟩,
  ⟨(some 8), (.mv (.t 11)), none⟩]
def a13_2 : List AOper := [
  ⟨(some 12), (.call 19 [(.c (.int .i64 0)), (.c (.int .i64 1))]), none⟩,
  ⟨(some 4), (.mv (.c .nils)), none⟩,
  ⟨(some 5), (.mv (.t 12)), none⟩]
def a13_3 : List AOper := [
  ⟨(some 14), (.mv (.t 1)), none⟩,
  ⟨(some 15), (.len false (.t 14)), none⟩,
  ⟨(some 16), (.mv (.t 0)), none⟩,
  ⟨(some 17), (.call 18 [(.t 16)]), none⟩,
  ⟨(some 18), (.bin .gtr (.t 15) (.t 17)), none⟩,
  ⟨(some 13), (.mv (.t 18)), none⟩]
def a13_4 : List AOper := [
  ⟨(some 19), (.call 19 [(.c (.int .i64 0)), (.c (.int .i64 4))]), none⟩,
  ⟨(some 4), (.mv (.c .nils)), none⟩,
  ⟨(some 5), (.mv (.t 19)), none⟩]
def a13_5 : List AOper := [
  ⟨(some 20), (.mv (.t 1)), none⟩,
  ⟨(some 21), (.len false (.t 20)), none⟩,
  ⟨(some 6), (.mv (.t 21)), none⟩]
def a13_6 : List AOper := [
  ⟨(some 22), (.mv (.t 6)), none⟩,
  ⟨(some 23), (.bin .shr (.t 22) (.c (.int .u64 24))), none⟩,
  ⟨(some 24), (.conv (.int .u8) (.t 23)), none⟩,
  ⟨(some 25), (.mv (.t 6)), none⟩,
  ⟨(some 26), (.bin .shr (.t 25) (.c (.int .u64 16))), none⟩,
  ⟨(some 27), (.conv (.int .u8) (.t 26)), none⟩,
  ⟨(some 28), (.mv (.t 6)), none⟩,
  ⟨(some 29), (.bin .shr (.t 28) (.c (.int .u64 8))), none⟩,
  ⟨(some 30), (.conv (.int .u8) (.t 29)), none⟩,
  ⟨(some 31), (.mv (.t 6)), none⟩,
  ⟨(some 32), (.conv (.int .u8) (.t 31)), none⟩,
  ⟨(some 33), (.lit true 1 4 [(.int .u8 0), (.int .u8 0), (.int .u8 0), (.int .u8 0)] [(0, 1, (.t 24)), (1, 1, (.t 27)), (2, 1, (.t 30)), (3, 1, (.t 32))]), none⟩,
  ⟨(some 7), (.mv (.t 33)), none⟩]
def a13_7 : List AOper := [
  ⟨(some 34), (.mv (.t 7)), none⟩,
  ⟨(some 35), (.mv (.t 0)), none⟩,
  ⟨(some 36), (.bin .sub (.c (.int .i64 4)) (.t 35)), none⟩,
  ⟨(some 37), (.slice 1 (.t 34) (some (.t 36)) (some (.c (.int .i64 4))) (some (.c (.int .i64 4)))), none⟩,
  ⟨(some 38), (.mv (.t 1)), none⟩,
  ⟨(some 39), (.append 1 1 (.t 37) (.t 38)), none⟩,
  ⟨(some 4), (.mv (.t 39)), none⟩,
  ⟨(some 5), (.mv (.c .nili)), none⟩]
def a13 : AFunc := ⟨[.tmp 4, .tmp 5], (.seq (.ops a13_0) (.seq (.block 0 (.seq (.ops a13_1) (.cond (.t 8) (.seq (.ops a13_2) .ret) (.seq (.ops a13_3) (.cond (.t 13) (.seq (.ops a13_4) .ret) .skip))))) (.seq (.ops a13_5) (.seq (.ops a13_6) (.seq (.ops a13_7) .ret)))))⟩
/-! ### 7: heddle/heddlelaw06.awake (72 slots) -/
def a7_0 : List AOper := [
  ⟨(some 0), (.mv (.c (.bool false))), none⟩]
def a7_1 : List AOper := [
  ⟨(some 12), (.lit false 1 2 [(.int .u8 0), (.int .u8 0)] [(0, 1, (.c (.int .u8 97))), (1, 1, (.c (.int .u8 98)))]), none⟩,
  ⟨(some 13), (.conv .b2b (.t 12)), none⟩,
  ⟨(some 14), (.call 13 [(.c (.int .i64 2)), (.t 13)]), none⟩,
  ⟨(some 11), (.mv (.t 14)), none⟩,
  ⟨(some 15), (.extract (.t 11) 0), none⟩,
  ⟨(some 16), (.extract (.t 11) 1), none⟩,
  ⟨(some 1), (.mv (.t 15)), none⟩,
  ⟨(some 2), (.mv (.t 16)), none⟩]
def a7_2 : List AOper := [
  ⟨(some 18), (.call 6 [(.c (.int .i64 2))]), none⟩,
  ⟨(some 17), (.mv (.t 18)), none⟩,
  ⟨(some 19), (.extract (.t 17) 0), none⟩,
  ⟨(some 20), (.extract (.t 17) 1), none⟩,
  ⟨(some 3), (.mv (.t 19)), none⟩,
  ⟨(some 4), (.mv (.t 20)), none⟩]
def a7_3 : List AOper := [
  ⟨(some 21), (.mv (.t 2)), none⟩,
  ⟨(some 22), (.eq true (.iface true) (.t 21) (.c .nili)), none⟩,
  ⟨(some 23), (.mv (.t 22)), none⟩,
  ⟨(some 24), (.mv (.t 4)), (some (23, false))⟩,
  ⟨(some 25), (.eq true (.iface true) (.t 24) (.c .nili)), (some (23, false))⟩,
  ⟨(some 26), (.pick (.t 23) (.c (.bool true)) (.t 25)), none⟩,
  ⟨(some 27), (.mv (.t 26)), none⟩,
  ⟨(some 28), (.mv (.t 3)), (some (27, false))⟩,
  ⟨(some 29), (.eq false .ptr (.t 28) (.c .nilp)), (some (27, false))⟩,
  ⟨(some 30), (.pick (.t 27) (.c (.bool true)) (.t 29)), none⟩,
  ⟨(some 31), (.mv (.t 30)), none⟩,
  ⟨(some 32), (.mv (.t 1)), (some (31, false))⟩,
  ⟨(some 33), (.conv .b2s (.t 32)), (some (31, false))⟩,
  ⟨(some 34), (.bin .neq (.t 33) (.c (.str [0, 2, 97, 98]))), (some (31, false))⟩,
  ⟨(some 35), (.pick (.t 31) (.c (.bool true)) (.t 34)), none⟩]
def a7_4 : List AOper := [
  ⟨(some 0), (.mv (.c (.bool false))), none⟩]
def a7_5 : List AOper := [
  ⟨(some 36), (.mv (.t 3)), none⟩,
  ⟨(some 37), (.mv (.t 1)), none⟩,
  ⟨(some 38), (.slice 1 (.t 37) none (some (.c (.int .i64 3))) none), none⟩,
  ⟨(some 39), (.call 9 [(.t 36), (.t 38)]), none⟩]
def a7_6 : List AOper := [
  ⟨(some 41), (.mv (.t 3)), none⟩,
  ⟨(some 42), (.call 10 [(.t 41)]), none⟩,
  ⟨(some 40), (.mv (.t 42)), none⟩,
  ⟨(some 43), (.extract (.t 40) 0), none⟩,
  ⟨(some 44), (.extract (.t 40) 1), none⟩,
  ⟨(some 45), (.extract (.t 40) 2), none⟩,
  ⟨(some 5), (.mv (.t 43)), none⟩,
  ⟨(some 6), (.mv (.t 44)), none⟩,
  ⟨(some 7), (.mv (.t 45)), none⟩]
def a7_7 : List AOper := [
  ⟨(some 46), (.mv (.t 3)), none⟩,
  ⟨(some 47), (.mv (.t 1)), none⟩,
  ⟨(some 48), (.slice 1 (.t 47) (some (.c (.int .i64 3))) none none), none⟩,
  ⟨(some 49), (.call 9 [(.t 46), (.t 48)]), none⟩]
def a7_8 : List AOper := [
  ⟨(some 51), (.mv (.t 3)), none⟩,
  ⟨(some 52), (.call 10 [(.t 51)]), none⟩,
  ⟨(some 50), (.mv (.t 52)), none⟩,
  ⟨(some 53), (.extract (.t 50) 0), none⟩,
  ⟨(some 54), (.extract (.t 50) 1), none⟩,
  ⟨(some 55), (.extract (.t 50) 2), none⟩,
  ⟨(some 8), (.mv (.t 53)), none⟩,
  ⟨(some 9), (.mv (.t 54)), none⟩,
  ⟨(some 10), (.mv (.t 55)), none⟩]
def a7_9 : List AOper := [
  ⟨(some 56), (.mv (.t 6)), none⟩,
  ⟨(some 57), (.un .not (.t 56)), none⟩,
  ⟨(some 58), (.mv (.t 57)), none⟩,
  ⟨(some 59), (.mv (.t 9)), (some (58, true))⟩,
  ⟨(some 60), (.pick (.t 58) (.t 59) (.c (.bool false))), none⟩,
  ⟨(some 61), (.mv (.t 60)), none⟩,
  ⟨(some 62), (.mv (.t 8)), (some (61, true))⟩,
  ⟨(some 63), (.conv .b2s (.t 62)), (some (61, true))⟩,
  ⟨(some 64), (.bin .eql (.t 63) (.c (.str [97, 98]))), (some (61, true))⟩,
  ⟨(some 65), (.pick (.t 61) (.t 64) (.c (.bool false))), none⟩,
  ⟨(some 66), (.mv (.t 65)), none⟩,
  ⟨(some 67), (.mv (.t 3)), (some (66, true))⟩,
  ⟨(some 68), (.call 12 [(.t 67)]), (some (66, true))⟩,
  ⟨(some 69), (.field false 1 2 (.t 68)), (some (66, true))⟩,
  ⟨(some 70), (.bin .eql (.t 69) (.c (.int .i64 1))), (some (66, true))⟩,
  ⟨(some 71), (.pick (.t 66) (.t 70) (.c (.bool false))), none⟩,
  ⟨(some 0), (.mv (.t 71)), none⟩]
def a7 : AFunc := ⟨[.tmp 0], (.seq (.ops a7_0) (.seq (.ops a7_1) (.seq (.ops a7_2) (.seq (.seq (.ops a7_3) (.cond (.t 35) (.seq (.ops a7_4) .ret) .skip)) (.seq (.ops a7_5) (.seq (.ops a7_6) (.seq (.ops a7_7) (.seq (.ops a7_8) (.seq (.ops a7_9) .ret)))))))))⟩
/-! ### 14: heddle/frame.Split (66 slots) -/
def a14_0 : List AOper := [
  ⟨(some 4), (.mv (.c .nils)), none⟩,
  ⟨(some 5), (.mv (.c (.int .i64 0))), none⟩,
  ⟨(some 6), (.mv (.c .nili)), none⟩]
def a14_1 : List AOper := [
  ⟨(some 10), (.mv (.t 0)), none⟩,
  ⟨(some 11), (.call 18 [(.t 10)]), none⟩,
  ⟨(some 12), (.bin .eql (.t 11) (.c (.int .i64 0))), none⟩]
def a14_2 : List AOper := [
  ⟨(some 13), (.call 19 [(.c (.int .i64 0)), (.c (.int .i64 1))]), none⟩,
  ⟨(some 4), (.mv (.c .nils)), none⟩,
  ⟨(some 5), (.mv (.c (.int .i64 0))), none⟩,
  ⟨(some 6), (.mv (.t 13)), none⟩]
def a14_3 : List AOper := [
  ⟨(some 7), (.mv (.c .nils)), none⟩]
def a14_4 : List AOper := [
  ⟨(some 8), (.mv (.c (.int .i64 0))), none⟩]
def a14_5 : List AOper := [
  ⟨(some 14), (.mv (.t 1)), none⟩,
  ⟨(some 15), (.len false (.t 14)), none⟩,
  ⟨(some 16), (.mv (.t 8)), none⟩,
  ⟨(some 17), (.bin .sub (.t 15) (.t 16)), none⟩,
  ⟨(some 18), (.mv (.t 0)), none⟩,
  ⟨(some 19), (.bin .geq (.t 17) (.t 18)), none⟩]
def a14_6 : List AOper := [
  ⟨(some 20), (.mv (.t 0)), none⟩,
  ⟨(some 21), (.mv (.t 1)), none⟩,
  ⟨(some 22), (.mv (.t 8)), none⟩,
  ⟨(some 23), (.slice 1 (.t 21) (some (.t 22)) none none), none⟩,
  ⟨(some 24), (.call 24 [(.t 20), (.t 23)]), none⟩,
  ⟨(some 9), (.mv (.t 24)), none⟩]
def a14_7 : List AOper := [
  ⟨(some 25), (.mv (.t 9)), none⟩,
  ⟨(some 26), (.mv (.t 0)), none⟩,
  ⟨(some 27), (.call 18 [(.t 26)]), none⟩,
  ⟨(some 28), (.bin .gtr (.t 25) (.t 27)), none⟩]
def a14_8 : List AOper := [
  ⟨(some 29), (.mv (.t 8)), none⟩,
  ⟨(some 30), (.call 19 [(.t 29), (.c (.int .i64 120))]), none⟩,
  ⟨(some 4), (.mv (.c .nils)), none⟩,
  ⟨(some 5), (.mv (.c (.int .i64 0))), none⟩,
  ⟨(some 6), (.mv (.t 30)), none⟩]
def a14_9 : List AOper := [
  ⟨(some 31), (.mv (.t 1)), none⟩,
  ⟨(some 32), (.len false (.t 31)), none⟩,
  ⟨(some 33), (.mv (.t 8)), none⟩,
  ⟨(some 34), (.bin .sub (.t 32) (.t 33)), none⟩,
  ⟨(some 35), (.mv (.t 0)), none⟩,
  ⟨(some 36), (.bin .sub (.t 34) (.t 35)), none⟩,
  ⟨(some 37), (.mv (.t 9)), none⟩,
  ⟨(some 38), (.bin .lss (.t 36) (.t 37)), none⟩]
def a14_10 : List AOper := [
  ⟨(some 39), (.mv (.t 7)), none⟩,
  ⟨(some 40), (.lit true 1 0 [] []), none⟩,
  ⟨(some 41), (.mv (.t 1)), none⟩,
  ⟨(some 42), (.mv (.t 8)), none⟩,
  ⟨(some 43), (.mv (.t 0)), none⟩,
  ⟨(some 44), (.bin .add (.t 42) (.t 43)), none⟩,
  ⟨(some 45), (.mv (.t 8)), none⟩,
  ⟨(some 46), (.mv (.t 0)), none⟩,
  ⟨(some 47), (.bin .add (.t 45) (.t 46)), none⟩,
  ⟨(some 48), (.mv (.t 9)), none⟩,
  ⟨(some 49), (.bin .add (.t 47) (.t 48)), none⟩,
  ⟨(some 50), (.mv (.t 8)), none⟩,
  ⟨(some 51), (.mv (.t 0)), none⟩,
  ⟨(some 52), (.bin .add (.t 50) (.t 51)), none⟩,
  ⟨(some 53), (.mv (.t 9)), none⟩,
  ⟨(some 54), (.bin .add (.t 52) (.t 53)), none⟩,
  ⟨(some 55), (.slice 1 (.t 41) (some (.t 44)) (some (.t 49)) (some (.t 54))), none⟩,
  ⟨(some 56), (.append 1 1 (.t 40) (.t 55)), none⟩,
  ⟨(some 57), (.lit true 1 1 [.nils] [(0, 1, (.t 56))]), none⟩,
  ⟨(some 58), (.append 1 24 (.t 39) (.t 57)), none⟩,
  ⟨(some 7), (.mv (.t 58)), none⟩]
def a14_11 : List AOper := [
  ⟨(some 59), (.mv (.t 8)), none⟩,
  ⟨(some 60), (.mv (.t 0)), none⟩,
  ⟨(some 61), (.mv (.t 9)), none⟩,
  ⟨(some 62), (.bin .add (.t 60) (.t 61)), none⟩,
  ⟨(some 63), (.bin .add (.t 59) (.t 62)), none⟩,
  ⟨(some 8), (.mv (.t 63)), none⟩]
def a14_l12 : AC := (.seq (.seq (.ops a14_5) (.cond (.t 19) .skip (.exit 0))) (.block 1 (.seq (.ops a14_6) (.seq (.seq (.ops a14_7) (.cond (.t 28) (.seq (.ops a14_8) .ret) .skip)) (.seq (.seq (.ops a14_9) (.cond (.t 38) (.exit 0) .skip)) (.seq (.ops a14_10) (.ops a14_11)))))))
def a14_13 : List AOper := [
  ⟨(some 64), (.mv (.t 7)), none⟩,
  ⟨(some 65), (.mv (.t 8)), none⟩,
  ⟨(some 4), (.mv (.t 64)), none⟩,
  ⟨(some 5), (.mv (.t 65)), none⟩,
  ⟨(some 6), (.mv (.c .nili)), none⟩]
def a14 : AFunc := ⟨[.tmp 4, .tmp 5, .tmp 6], (.seq (.ops a14_0) (.seq (.seq (.ops a14_1) (.cond (.t 12) (.seq (.ops a14_2) .ret) .skip)) (.seq (.ops a14_3) (.seq (.ops a14_4) (.seq (.block 0 (.loop a14_l12)) (.seq (.ops a14_13) .ret))))))⟩
/-! ### 11: heddle/heddlelaw06.same (28 slots) -/
def a11_0 : List AOper := [
  ⟨(some 4), (.mv (.c (.bool false))), none⟩]
def a11_1 : List AOper := [
  ⟨(some 6), (.mv (.t 0)), none⟩,
  ⟨(some 7), (.len false (.t 6)), none⟩,
  ⟨(some 8), (.mv (.t 1)), none⟩,
  ⟨(some 9), (.len false (.t 8)), none⟩,
  ⟨(some 10), (.bin .neq (.t 7) (.t 9)), none⟩]
def a11_2 : List AOper := [
  ⟨(some 4), (.mv (.c (.bool false))), none⟩]
def a11_3 : List AOper := [
  ⟨(some 5), (.mv (.c (.int .i64 0))), none⟩]
def a11_4 : List AOper := [
  ⟨(some 11), (.mv (.t 5)), none⟩,
  ⟨(some 12), (.mv (.t 0)), none⟩,
  ⟨(some 13), (.len false (.t 12)), none⟩,
  ⟨(some 14), (.bin .lss (.t 11) (.t 13)), none⟩]
def a11_5 : List AOper := [
  ⟨(some 17), (.mv (.t 0)), none⟩,
  ⟨(some 18), (.mv (.t 5)), none⟩,
  ⟨(some 19), (.idxAddr 1 (.t 17) (.t 18)), none⟩,
  ⟨(some 20), (.load false 1 (.t 19)), none⟩,
  ⟨(some 21), (.conv .b2s (.t 20)), none⟩,
  ⟨(some 22), (.mv (.t 1)), none⟩,
  ⟨(some 23), (.mv (.t 5)), none⟩,
  ⟨(some 24), (.idxAddr 1 (.t 22) (.t 23)), none⟩,
  ⟨(some 25), (.load false 1 (.t 24)), none⟩,
  ⟨(some 26), (.conv .b2s (.t 25)), none⟩,
  ⟨(some 27), (.bin .neq (.t 21) (.t 26)), none⟩]
def a11_5b : List Nat := [0, 0, 3, 7, 15, 0, 0, 96, 224, 480, 1023]
def a11_6 : List AOper := [
  ⟨(some 4), (.mv (.c (.bool false))), none⟩]
def a11_7 : List AOper := [
  ⟨(some 15), (.mv (.t 5)), none⟩,
  ⟨(some 16), (.bin .add (.t 15) (.c (.int .i64 1))), none⟩,
  ⟨(some 5), (.mv (.t 16)), none⟩]
def a11_l8 : AC := (.seq (.seq (.ops a11_4) (.cond (.t 14) .skip (.exit 0))) (.seq (.block 1 (.seq (.draw a11_5 a11_5b) (.cond (.t 27) (.seq (.ops a11_6) .ret) .skip))) (.ops a11_7)))
def a11_9 : List AOper := [
  ⟨(some 4), (.mv (.c (.bool true))), none⟩]
def a11 : AFunc := ⟨[.tmp 4], (.seq (.ops a11_0) (.seq (.seq (.ops a11_1) (.cond (.t 10) (.seq (.ops a11_2) .ret) .skip)) (.seq (.seq (.ops a11_3) (.block 0 (.loop a11_l8))) (.seq (.ops a11_9) .ret))))⟩
/-! ### 6: heddle/frame.New (12 slots) -/
def a6_0 : List AOper := [
  ⟨(some 2), (.mv (.c .nilp)), none⟩,
  ⟨(some 3), (.mv (.c .nili)), none⟩]
def a6_1 : List AOper := [
  ⟨(some 4), (.mv (.t 0)), none⟩,
  ⟨(some 5), (.call 18 [(.t 4)]), none⟩,
  ⟨(some 6), (.bin .eql (.t 5) (.c (.int .i64 0))), none⟩]
def a6_2 : List AOper := [
  ⟨(some 7), (.call 19 [(.c (.int .i64 0)), (.c (.int .i64 1))]), none⟩,
  ⟨(some 2), (.mv (.c .nilp)), none⟩,
  ⟨(some 3), (.mv (.t 7)), none⟩]
def a6_3 : List AOper := [
  ⟨(some 8), (.mv (.t 0)), none⟩,
  ⟨(some 9), (.build [(.int .i64 0), (.int .i64 0), (.int .i64 0), (.int .i64 0), (.int .i64 0), (.bool false)] [(0, 1, (.t 8))]), none⟩,
  ⟨(some 10), (.build [(.int .i64 0), (.int .i64 0), (.int .i64 0), (.int .i64 0), (.int .i64 0), (.bool false), .nils] [(0, 6, (.t 9))]), none⟩,
  ⟨(some 11), (.box false 7 (.t 10)), none⟩,
  ⟨(some 2), (.mv (.t 11)), none⟩,
  ⟨(some 3), (.mv (.c .nili)), none⟩]
def a6 : AFunc := ⟨[.tmp 2, .tmp 3], (.seq (.ops a6_0) (.seq (.seq (.ops a6_1) (.cond (.t 6) (.seq (.ops a6_2) .ret) .skip)) (.seq (.ops a6_3) .ret)))⟩
/-! ### 9: (*heddle/frame.Reader).Feed (39 slots) -/
def a9_0 : List AOper := [
  ⟨(some 4), (.mv (.c .nili)), none⟩]
def a9_1 : List AOper := [
  ⟨(some 6), (.mv (.t 0)), none⟩,
  ⟨(some 7), (.call 23 [(.t 6)]), none⟩,
  ⟨(some 5), (.mv (.t 7)), none⟩]
def a9_2 : List AOper := [
  ⟨(some 8), (.mv (.t 5)), none⟩,
  ⟨(some 9), (.eq true (.iface true) (.t 8) (.c .nili)), none⟩]
def a9_3 : List AOper := [
  ⟨(some 10), (.mv (.t 5)), none⟩,
  ⟨(some 4), (.mv (.t 10)), none⟩]
def a9_4 : List AOper := [
  ⟨(some 11), (.mv (.t 0)), none⟩,
  ⟨(some 12), (.nilCheck (.t 11)), none⟩,
  ⟨(some 13), (.fieldAddr 6 (.t 12)), none⟩,
  ⟨(some 14), (.load false 1 (.t 13)), none⟩,
  ⟨(some 15), (.len false (.t 14)), none⟩,
  ⟨(some 16), (.mv (.t 1)), none⟩,
  ⟨(some 17), (.len false (.t 16)), none⟩,
  ⟨(some 18), (.bin .add (.t 15) (.t 17)), none⟩,
  ⟨(some 19), (.bin .gtr (.t 18) (.c (.int .i64 16777216))), none⟩]
def a9_5 : List AOper := [
  ⟨(some 20), (.call 19 [(.c (.int .i64 0)), (.c (.int .i64 4))]), none⟩,
  ⟨(some 4), (.mv (.t 20)), none⟩]
def a9_6 : List AOper := [
  ⟨(some 21), (.mv (.t 0)), none⟩,
  ⟨(some 22), (.mv (.t 0)), none⟩,
  ⟨(some 23), (.nilCheck (.t 22)), none⟩,
  ⟨(some 24), (.fieldAddr 6 (.t 23)), none⟩,
  ⟨(some 25), (.load false 1 (.t 24)), none⟩,
  ⟨(some 26), (.mv (.t 1)), none⟩,
  ⟨(some 27), (.append 1 1 (.t 25) (.t 26)), none⟩,
  ⟨(some 28), (.nilCheck (.t 21)), none⟩,
  ⟨(some 29), (.fieldAddr 6 (.t 28)), none⟩,
  ⟨none, (.store 1 (.t 29) (.t 27)), none⟩]
def a9_7 : List AOper := [
  ⟨(some 30), (.mv (.t 0)), none⟩,
  ⟨(some 31), (.mv (.t 0)), none⟩,
  ⟨(some 32), (.nilCheck (.t 31)), none⟩,
  ⟨(some 33), (.fieldAddr 6 (.t 32)), none⟩,
  ⟨(some 34), (.load false 1 (.t 33)), none⟩,
  ⟨(some 35), (.len false (.t 34)), none⟩,
  ⟨(some 36), (.nilCheck (.t 30)), none⟩,
  ⟨(some 37), (.fieldAddr 0 (.t 36)), none⟩,
  ⟨(some 38), (.fieldAddr 1 (.t 37)), none⟩,
  ⟨none, (.store 1 (.t 38) (.t 35)), none⟩]
def a9_8 : List AOper := [
  ⟨(some 4), (.mv (.c .nili)), none⟩]
def a9 : AFunc := ⟨[.tmp 4], (.seq (.ops a9_0) (.seq (.seq (.ops a9_1) (.seq (.ops a9_2) (.cond (.t 9) (.seq (.ops a9_3) .ret) .skip))) (.seq (.seq (.ops a9_4) (.cond (.t 19) (.seq (.ops a9_5) .ret) .skip)) (.seq (.ops a9_6) (.seq (.ops a9_7) (.seq (.ops a9_8) .ret))))))⟩
/-! ### 10: (*heddle/frame.Reader).Next (128 slots) -/
def a10_0 : List AOper := [
  ⟨(some 2), (.mv (.c .nils)), none⟩,
  ⟨(some 3), (.mv (.c (.bool false))), none⟩,
  ⟨(some 4), (.mv (.c .nili)), none⟩]
def a10_1 : List AOper := [
  ⟨(some 9), (.mv (.t 0)), none⟩,
  ⟨(some 10), (.call 23 [(.t 9)]), none⟩,
  ⟨(some 5), (.mv (.t 10)), none⟩]
def a10_2 : List AOper := [
  ⟨(some 11), (.mv (.t 5)), none⟩,
  ⟨(some 12), (.eq true (.iface true) (.t 11) (.c .nili)), none⟩]
def a10_3 : List AOper := [
  ⟨(some 13), (.mv (.t 5)), none⟩,
  ⟨(some 2), (.mv (.c .nils)), none⟩,
  ⟨(some 3), (.mv (.c (.bool false))), none⟩,
  ⟨(some 4), (.mv (.t 13)), none⟩]
def a10_4 : List AOper := [
  ⟨(some 14), (.mv (.t 0)), none⟩,
  ⟨(some 15), (.nilCheck (.t 14)), none⟩,
  ⟨(some 16), (.fieldAddr 0 (.t 15)), none⟩,
  ⟨(some 17), (.fieldAddr 0 (.t 16)), none⟩,
  ⟨(some 18), (.load false 1 (.t 17)), none⟩,
  ⟨(some 6), (.mv (.t 18)), none⟩]
def a10_5 : List AOper := [
  ⟨(some 19), (.mv (.t 0)), none⟩,
  ⟨(some 20), (.nilCheck (.t 19)), none⟩,
  ⟨(some 21), (.fieldAddr 6 (.t 20)), none⟩,
  ⟨(some 22), (.load false 1 (.t 21)), none⟩,
  ⟨(some 23), (.len false (.t 22)), none⟩,
  ⟨(some 24), (.mv (.t 6)), none⟩,
  ⟨(some 25), (.bin .lss (.t 23) (.t 24)), none⟩]
def a10_6 : List AOper := [
  ⟨(some 2), (.mv (.c .nils)), none⟩,
  ⟨(some 3), (.mv (.c (.bool false))), none⟩,
  ⟨(some 4), (.mv (.c .nili)), none⟩]
def a10_7 : List AOper := [
  ⟨(some 26), (.mv (.t 6)), none⟩,
  ⟨(some 27), (.mv (.t 0)), none⟩,
  ⟨(some 28), (.nilCheck (.t 27)), none⟩,
  ⟨(some 29), (.fieldAddr 6 (.t 28)), none⟩,
  ⟨(some 30), (.load false 1 (.t 29)), none⟩,
  ⟨(some 31), (.call 24 [(.t 26), (.t 30)]), none⟩,
  ⟨(some 7), (.mv (.t 31)), none⟩]
def a10_8 : List AOper := [
  ⟨(some 32), (.mv (.t 7)), none⟩,
  ⟨(some 33), (.mv (.t 6)), none⟩,
  ⟨(some 34), (.call 18 [(.t 33)]), none⟩,
  ⟨(some 35), (.bin .gtr (.t 32) (.t 34)), none⟩]
def a10_9 : List AOper := [
  ⟨(some 36), (.mv (.t 0)), none⟩,
  ⟨(some 37), (.nilCheck (.t 36)), none⟩,
  ⟨(some 38), (.fieldAddr 0 (.t 37)), none⟩,
  ⟨(some 39), (.fieldAddr 5 (.t 38)), none⟩,
  ⟨none, (.store 1 (.t 39) (.c (.bool true))), none⟩]
def a10_10 : List AOper := [
  ⟨(some 40), (.mv (.t 0)), none⟩,
  ⟨(some 41), (.nilCheck (.t 40)), none⟩,
  ⟨(some 42), (.fieldAddr 0 (.t 41)), none⟩,
  ⟨(some 43), (.fieldAddr 4 (.t 42)), none⟩,
  ⟨(some 44), (.load false 1 (.t 43)), none⟩,
  ⟨(some 45), (.call 19 [(.t 44), (.c (.int .i64 120))]), none⟩,
  ⟨(some 2), (.mv (.c .nils)), none⟩,
  ⟨(some 3), (.mv (.c (.bool false))), none⟩,
  ⟨(some 4), (.mv (.t 45)), none⟩]
def a10_11 : List AOper := [
  ⟨(some 46), (.mv (.t 0)), none⟩,
  ⟨(some 47), (.nilCheck (.t 46)), none⟩,
  ⟨(some 48), (.fieldAddr 6 (.t 47)), none⟩,
  ⟨(some 49), (.load false 1 (.t 48)), none⟩,
  ⟨(some 50), (.len false (.t 49)), none⟩,
  ⟨(some 51), (.mv (.t 6)), none⟩,
  ⟨(some 52), (.bin .sub (.t 50) (.t 51)), none⟩,
  ⟨(some 53), (.mv (.t 7)), none⟩,
  ⟨(some 54), (.bin .lss (.t 52) (.t 53)), none⟩]
def a10_12 : List AOper := [
  ⟨(some 2), (.mv (.c .nils)), none⟩,
  ⟨(some 3), (.mv (.c (.bool false))), none⟩,
  ⟨(some 4), (.mv (.c .nili)), none⟩]
def a10_13 : List AOper := [
  ⟨(some 55), (.lit true 1 0 [] []), none⟩,
  ⟨(some 56), (.mv (.t 0)), none⟩,
  ⟨(some 57), (.nilCheck (.t 56)), none⟩,
  ⟨(some 58), (.fieldAddr 6 (.t 57)), none⟩,
  ⟨(some 59), (.load false 1 (.t 58)), none⟩,
  ⟨(some 60), (.mv (.t 6)), none⟩,
  ⟨(some 61), (.mv (.t 6)), none⟩,
  ⟨(some 62), (.mv (.t 7)), none⟩,
  ⟨(some 63), (.bin .add (.t 61) (.t 62)), none⟩,
  ⟨(some 64), (.mv (.t 6)), none⟩,
  ⟨(some 65), (.mv (.t 7)), none⟩,
  ⟨(some 66), (.bin .add (.t 64) (.t 65)), none⟩,
  ⟨(some 67), (.slice 1 (.t 59) (some (.t 60)) (some (.t 63)) (some (.t 66))), none⟩,
  ⟨(some 68), (.append 1 1 (.t 55) (.t 67)), none⟩,
  ⟨(some 8), (.mv (.t 68)), none⟩]
def a10_14 : List AOper := [
  ⟨(some 69), (.mv (.t 0)), none⟩,
  ⟨(some 70), (.lit true 1 0 [] []), none⟩,
  ⟨(some 71), (.mv (.t 0)), none⟩,
  ⟨(some 72), (.nilCheck (.t 71)), none⟩,
  ⟨(some 73), (.fieldAddr 6 (.t 72)), none⟩,
  ⟨(some 74), (.load false 1 (.t 73)), none⟩,
  ⟨(some 75), (.mv (.t 6)), none⟩,
  ⟨(some 76), (.mv (.t 7)), none⟩,
  ⟨(some 77), (.bin .add (.t 75) (.t 76)), none⟩,
  ⟨(some 78), (.slice 1 (.t 74) (some (.t 77)) none none), none⟩,
  ⟨(some 79), (.append 1 1 (.t 70) (.t 78)), none⟩,
  ⟨(some 80), (.nilCheck (.t 69)), none⟩,
  ⟨(some 81), (.fieldAddr 6 (.t 80)), none⟩,
  ⟨none, (.store 1 (.t 81) (.t 79)), none⟩]
def a10_15 : List AOper := [
  ⟨(some 82), (.mv (.t 0)), none⟩,
  ⟨(some 83), (.mv (.t 0)), none⟩,
  ⟨(some 84), (.nilCheck (.t 83)), none⟩,
  ⟨(some 85), (.fieldAddr 6 (.t 84)), none⟩,
  ⟨(some 86), (.load false 1 (.t 85)), none⟩,
  ⟨(some 87), (.len false (.t 86)), none⟩,
  ⟨(some 88), (.nilCheck (.t 82)), none⟩,
  ⟨(some 89), (.fieldAddr 0 (.t 88)), none⟩,
  ⟨(some 90), (.fieldAddr 1 (.t 89)), none⟩,
  ⟨none, (.store 1 (.t 90) (.t 87)), none⟩]
def a10_16 : List AOper := [
  ⟨(some 91), (.mv (.t 0)), none⟩,
  ⟨(some 92), (.nilCheck (.t 91)), none⟩,
  ⟨(some 93), (.fieldAddr 0 (.t 92)), none⟩,
  ⟨(some 94), (.fieldAddr 2 (.t 93)), none⟩,
  ⟨(some 95), (.load false 1 (.t 94)), none⟩,
  ⟨(some 96), (.bin .add (.t 95) (.c (.int .i64 1))), none⟩,
  ⟨(some 97), (.nilCheck (.t 91)), none⟩,
  ⟨(some 98), (.fieldAddr 0 (.t 97)), none⟩,
  ⟨(some 99), (.fieldAddr 2 (.t 98)), none⟩,
  ⟨none, (.store 1 (.t 99) (.t 96)), none⟩]
def a10_17 : List AOper := [
  ⟨(some 100), (.mv (.t 0)), none⟩,
  ⟨(some 101), (.nilCheck (.t 100)), none⟩,
  ⟨(some 102), (.fieldAddr 0 (.t 101)), none⟩,
  ⟨(some 103), (.fieldAddr 4 (.t 102)), none⟩,
  ⟨(some 104), (.load false 1 (.t 103)), none⟩,
  ⟨(some 105), (.mv (.t 6)), none⟩,
  ⟨(some 106), (.mv (.t 7)), none⟩,
  ⟨(some 107), (.bin .add (.t 105) (.t 106)), none⟩,
  ⟨(some 108), (.bin .add (.t 104) (.t 107)), none⟩,
  ⟨(some 109), (.nilCheck (.t 100)), none⟩,
  ⟨(some 110), (.fieldAddr 0 (.t 109)), none⟩,
  ⟨(some 111), (.fieldAddr 4 (.t 110)), none⟩,
  ⟨none, (.store 1 (.t 111) (.t 108)), none⟩]
def a10_18 : List AOper := [
  ⟨(some 112), (.mv (.t 6)), none⟩,
  ⟨(some 113), (.bin .eql (.t 112) (.c (.int .i64 4))), none⟩,
  ⟨(some 114), (.mv (.t 113)), none⟩,
  ⟨(some 115), (.mv (.t 7)), (some (114, true))⟩,
  ⟨(some 116), (.bin .eql (.t 115) (.c (.int .i64 0))), (some (114, true))⟩,
  ⟨(some 117), (.pick (.t 114) (.t 116) (.c (.bool false))), none⟩]
def a10_19 : List AOper := [
  ⟨(some 118), (.mv (.t 0)), none⟩,
  ⟨(some 119), (.nilCheck (.t 118)), none⟩,
  ⟨(some 120), (.fieldAddr 0 (.t 119)), none⟩,
  ⟨(some 121), (.fieldAddr 3 (.t 120)), none⟩,
  ⟨(some 122), (.load false 1 (.t 121)), none⟩,
  ⟨(some 123), (.bin .add (.t 122) (.c (.int .i64 1))), none⟩,
  ⟨(some 124), (.nilCheck (.t 118)), none⟩,
  ⟨(some 125), (.fieldAddr 0 (.t 124)), none⟩,
  ⟨(some 126), (.fieldAddr 3 (.t 125)), none⟩,
  ⟨none, (.store 1 (.t 126) (.t 123)), none⟩]
def a10_20 : List AOper := [
  ⟨(some 127), (.mv (.t 8)), none⟩,
  ⟨(some 2), (.mv (.t 127)), none⟩,
  ⟨(some 3), (.mv (.c (.bool true))), none⟩,
  ⟨(some 4), (.mv (.c .nili)), none⟩]
def a10 : AFunc := ⟨[.tmp 2, .tmp 3, .tmp 4], (.seq (.ops a10_0) (.seq (.seq (.ops a10_1) (.seq (.ops a10_2) (.cond (.t 12) (.seq (.ops a10_3) .ret) .skip))) (.seq (.ops a10_4) (.seq (.seq (.ops a10_5) (.cond (.t 25) (.seq (.ops a10_6) .ret) .skip)) (.seq (.ops a10_7) (.seq (.seq (.ops a10_8) (.cond (.t 35) (.seq (.ops a10_9) (.seq (.ops a10_10) .ret)) .skip)) (.seq (.seq (.ops a10_11) (.cond (.t 54) (.seq (.ops a10_12) .ret) .skip)) (.seq (.ops a10_13) (.seq (.ops a10_14) (.seq (.ops a10_15) (.seq (.ops a10_16) (.seq (.ops a10_17) (.seq (.seq (.ops a10_18) (.cond (.t 117) (.ops a10_19) .skip)) (.seq (.ops a10_20) .ret))))))))))))))⟩
/-! ### 8: heddle/heddleref06.Split (59 slots) -/
def a8_0 : List AOper := [
  ⟨(some 4), (.mv (.c .nils)), none⟩,
  ⟨(some 5), (.mv (.c (.int .i64 0))), none⟩,
  ⟨(some 6), (.mv (.c .nils)), none⟩]
def a8_1 : List AOper := [
  ⟨(some 11), (.mv (.t 0)), none⟩,
  ⟨(some 12), (.call 20 [(.t 11)]), none⟩,
  ⟨(some 7), (.mv (.t 12)), none⟩]
def a8_2 : List AOper := [
  ⟨(some 13), (.mv (.t 7)), none⟩,
  ⟨(some 14), (.bin .lss (.t 13) (.c (.int .i64 0))), none⟩]
def a8_3 : List AOper := [
  ⟨(some 15), (.call 21 [(.c (.int .i64 0)), (.c (.int .i64 1))]), none⟩,
  ⟨(some 4), (.mv (.c .nils)), none⟩,
  ⟨(some 5), (.mv (.c (.int .i64 0))), none⟩,
  ⟨(some 6), (.mv (.t 15)), none⟩]
def a8_4 : List AOper := [
  ⟨(some 8), (.mv (.c .nils)), none⟩]
def a8_5 : List AOper := [
  ⟨(some 9), (.mv (.c (.int .i64 0))), none⟩]
def a8_6 : List AOper := [
  ⟨(some 16), (.mv (.t 0)), none⟩,
  ⟨(some 17), (.mv (.t 1)), none⟩,
  ⟨(some 18), (.mv (.t 9)), none⟩,
  ⟨(some 19), (.call 22 [(.t 16), (.t 17), (.t 18)]), none⟩,
  ⟨(some 10), (.mv (.t 19)), none⟩]
def a8_7 : List AOper := [
  ⟨(some 20), (.mv (.t 10)), none⟩,
  ⟨(some 21), (.mv (.t 7)), none⟩,
  ⟨(some 22), (.bin .gtr (.t 20) (.t 21)), none⟩]
def a8_8 : List AOper := [
  ⟨(some 23), (.mv (.t 9)), none⟩,
  ⟨(some 24), (.call 21 [(.t 23), (.c (.int .i64 120))]), none⟩,
  ⟨(some 4), (.mv (.c .nils)), none⟩,
  ⟨(some 5), (.mv (.c (.int .i64 0))), none⟩,
  ⟨(some 6), (.mv (.t 24)), none⟩]
def a8_9 : List AOper := [
  ⟨(some 25), (.mv (.t 10)), none⟩,
  ⟨(some 26), (.bin .lss (.t 25) (.c (.int .i64 0))), none⟩,
  ⟨(some 27), (.mv (.t 26)), none⟩,
  ⟨(some 28), (.mv (.t 1)), (some (27, false))⟩,
  ⟨(some 29), (.len false (.t 28)), (some (27, false))⟩,
  ⟨(some 30), (.mv (.t 9)), (some (27, false))⟩,
  ⟨(some 31), (.bin .sub (.t 29) (.t 30)), (some (27, false))⟩,
  ⟨(some 32), (.mv (.t 0)), (some (27, false))⟩,
  ⟨(some 33), (.bin .sub (.t 31) (.t 32)), (some (27, false))⟩,
  ⟨(some 34), (.mv (.t 10)), (some (27, false))⟩,
  ⟨(some 35), (.bin .lss (.t 33) (.t 34)), (some (27, false))⟩,
  ⟨(some 36), (.pick (.t 27) (.c (.bool true)) (.t 35)), none⟩]
def a8_10 : List AOper := [
  ⟨(some 37), (.mv (.t 8)), none⟩,
  ⟨(some 38), (.mv (.t 9)), none⟩,
  ⟨(some 4), (.mv (.t 37)), none⟩,
  ⟨(some 5), (.mv (.t 38)), none⟩,
  ⟨(some 6), (.mv (.c .nils)), none⟩]
def a8_11 : List AOper := [
  ⟨(some 39), (.mv (.t 8)), none⟩,
  ⟨(some 40), (.lit true 1 0 [] []), none⟩,
  ⟨(some 41), (.mv (.t 1)), none⟩,
  ⟨(some 42), (.mv (.t 9)), none⟩,
  ⟨(some 43), (.mv (.t 0)), none⟩,
  ⟨(some 44), (.bin .add (.t 42) (.t 43)), none⟩,
  ⟨(some 45), (.mv (.t 9)), none⟩,
  ⟨(some 46), (.mv (.t 0)), none⟩,
  ⟨(some 47), (.bin .add (.t 45) (.t 46)), none⟩,
  ⟨(some 48), (.mv (.t 10)), none⟩,
  ⟨(some 49), (.bin .add (.t 47) (.t 48)), none⟩,
  ⟨(some 50), (.slice 1 (.t 41) (some (.t 44)) (some (.t 49)) none), none⟩,
  ⟨(some 51), (.append 1 1 (.t 40) (.t 50)), none⟩,
  ⟨(some 52), (.lit true 1 1 [.nils] [(0, 1, (.t 51))]), none⟩,
  ⟨(some 53), (.append 1 24 (.t 39) (.t 52)), none⟩,
  ⟨(some 8), (.mv (.t 53)), none⟩]
def a8_12 : List AOper := [
  ⟨(some 54), (.mv (.t 9)), none⟩,
  ⟨(some 55), (.mv (.t 0)), none⟩,
  ⟨(some 56), (.bin .add (.t 54) (.t 55)), none⟩,
  ⟨(some 57), (.mv (.t 10)), none⟩,
  ⟨(some 58), (.bin .add (.t 56) (.t 57)), none⟩,
  ⟨(some 9), (.mv (.t 58)), none⟩]
def a8_l13 : AC := (.block 1 (.seq (.ops a8_6) (.seq (.seq (.ops a8_7) (.cond (.t 22) (.seq (.ops a8_8) .ret) .skip)) (.seq (.seq (.ops a8_9) (.cond (.t 36) (.seq (.ops a8_10) .ret) .skip)) (.seq (.ops a8_11) (.ops a8_12))))))
def a8 : AFunc := ⟨[.tmp 4, .tmp 5, .tmp 6], (.seq (.ops a8_0) (.seq (.ops a8_1) (.seq (.seq (.ops a8_2) (.cond (.t 14) (.seq (.ops a8_3) .ret) .skip)) (.seq (.ops a8_4) (.seq (.ops a8_5) (.block 0 (.loop a8_l13)))))))⟩
/-! ### 15: heddle/heddleref06.New (12 slots) -/
def a15_0 : List AOper := [
  ⟨(some 2), (.mv (.c .nilp)), none⟩,
  ⟨(some 3), (.mv (.c .nils)), none⟩]
def a15_1 : List AOper := [
  ⟨(some 4), (.mv (.t 0)), none⟩,
  ⟨(some 5), (.call 20 [(.t 4)]), none⟩,
  ⟨(some 6), (.bin .lss (.t 5) (.c (.int .i64 0))), none⟩]
def a15_2 : List AOper := [
  ⟨(some 7), (.call 21 [(.c (.int .i64 0)), (.c (.int .i64 1))]), none⟩,
  ⟨(some 2), (.mv (.c .nilp)), none⟩,
  ⟨(some 3), (.mv (.t 7)), none⟩]
def a15_3 : List AOper := [
  ⟨(some 8), (.mv (.t 0)), none⟩,
  ⟨(some 9), (.build [(.int .i64 0), (.int .i64 0), (.int .i64 0), (.int .i64 0), (.int .i64 0), (.bool false)] [(0, 1, (.t 8))]), none⟩,
  ⟨(some 10), (.build [(.int .i64 0), (.int .i64 0), (.int .i64 0), (.int .i64 0), (.int .i64 0), (.bool false), .nils] [(0, 6, (.t 9))]), none⟩,
  ⟨(some 11), (.box false 7 (.t 10)), none⟩,
  ⟨(some 2), (.mv (.t 11)), none⟩,
  ⟨(some 3), (.mv (.c .nils)), none⟩]
def a15 : AFunc := ⟨[.tmp 2, .tmp 3], (.seq (.ops a15_0) (.seq (.seq (.ops a15_1) (.cond (.t 6) (.seq (.ops a15_2) .ret) .skip)) (.seq (.ops a15_3) .ret)))⟩
/-! ### 16: (*heddle/heddleref06.Reader).Feed (46 slots) -/
def a16_0 : List AOper := [
  ⟨(some 4), (.mv (.c .nils)), none⟩]
def a16_1 : List AOper := [
  ⟨(some 5), (.mv (.t 0)), none⟩,
  ⟨(some 6), (.nilCheck (.t 5)), none⟩,
  ⟨(some 7), (.fieldAddr 0 (.t 6)), none⟩,
  ⟨(some 8), (.fieldAddr 5 (.t 7)), none⟩,
  ⟨(some 9), (.load false 1 (.t 8)), none⟩]
def a16_2 : List AOper := [
  ⟨(some 10), (.mv (.t 0)), none⟩,
  ⟨(some 11), (.nilCheck (.t 10)), none⟩,
  ⟨(some 12), (.fieldAddr 0 (.t 11)), none⟩,
  ⟨(some 13), (.fieldAddr 4 (.t 12)), none⟩,
  ⟨(some 14), (.load false 1 (.t 13)), none⟩,
  ⟨(some 15), (.call 21 [(.t 14), (.c (.int .i64 120))]), none⟩,
  ⟨(some 4), (.mv (.t 15)), none⟩]
def a16_3 : List AOper := [
  ⟨(some 16), (.mv (.t 0)), none⟩,
  ⟨(some 17), (.nilCheck (.t 16)), none⟩,
  ⟨(some 18), (.fieldAddr 6 (.t 17)), none⟩,
  ⟨(some 19), (.load false 1 (.t 18)), none⟩,
  ⟨(some 20), (.len false (.t 19)), none⟩,
  ⟨(some 21), (.mv (.t 1)), none⟩,
  ⟨(some 22), (.len false (.t 21)), none⟩,
  ⟨(some 23), (.bin .add (.t 20) (.t 22)), none⟩,
  ⟨(some 24), (.bin .gtr (.t 23) (.c (.int .i64 16777216))), none⟩]
def a16_4 : List AOper := [
  ⟨(some 25), (.call 21 [(.c (.int .i64 0)), (.c (.int .i64 4))]), none⟩,
  ⟨(some 4), (.mv (.t 25)), none⟩]
def a16_5 : List AOper := [
  ⟨(some 26), (.mv (.t 0)), none⟩,
  ⟨(some 27), (.lit true 1 0 [] []), none⟩,
  ⟨(some 28), (.mv (.t 0)), none⟩,
  ⟨(some 29), (.nilCheck (.t 28)), none⟩,
  ⟨(some 30), (.fieldAddr 6 (.t 29)), none⟩,
  ⟨(some 31), (.load false 1 (.t 30)), none⟩,
  ⟨(some 32), (.append 1 1 (.t 27) (.t 31)), none⟩,
  ⟨(some 33), (.mv (.t 1)), none⟩,
  ⟨(some 34), (.append 1 1 (.t 32) (.t 33)), none⟩,
  ⟨(some 35), (.nilCheck (.t 26)), none⟩,
  ⟨(some 36), (.fieldAddr 6 (.t 35)), none⟩,
  ⟨none, (.store 1 (.t 36) (.t 34)), none⟩]
def a16_6 : List AOper := [
  ⟨(some 37), (.mv (.t 0)), none⟩,
  ⟨(some 38), (.mv (.t 0)), none⟩,
  ⟨(some 39), (.nilCheck (.t 38)), none⟩,
  ⟨(some 40), (.fieldAddr 6 (.t 39)), none⟩,
  ⟨(some 41), (.load false 1 (.t 40)), none⟩,
  ⟨(some 42), (.len false (.t 41)), none⟩,
  ⟨(some 43), (.nilCheck (.t 37)), none⟩,
  ⟨(some 44), (.fieldAddr 0 (.t 43)), none⟩,
  ⟨(some 45), (.fieldAddr 1 (.t 44)), none⟩,
  ⟨none, (.store 1 (.t 45) (.t 42)), none⟩]
def a16_7 : List AOper := [
  ⟨(some 4), (.mv (.c .nils)), none⟩]
def a16 : AFunc := ⟨[.tmp 4], (.seq (.ops a16_0) (.seq (.seq (.ops a16_1) (.cond (.t 9) (.seq (.ops a16_2) .ret) .skip)) (.seq (.seq (.ops a16_3) (.cond (.t 24) (.seq (.ops a16_4) .ret) .skip)) (.seq (.ops a16_5) (.seq (.ops a16_6) (.seq (.ops a16_7) .ret))))))⟩
/-! ### 17: (*heddle/heddleref06.Reader).Next (126 slots) -/
def a17_0 : List AOper := [
  ⟨(some 2), (.mv (.c .nils)), none⟩,
  ⟨(some 3), (.mv (.c (.bool false))), none⟩,
  ⟨(some 4), (.mv (.c .nils)), none⟩]
def a17_1 : List AOper := [
  ⟨(some 8), (.mv (.t 0)), none⟩,
  ⟨(some 9), (.nilCheck (.t 8)), none⟩,
  ⟨(some 10), (.fieldAddr 0 (.t 9)), none⟩,
  ⟨(some 11), (.fieldAddr 5 (.t 10)), none⟩,
  ⟨(some 12), (.load false 1 (.t 11)), none⟩]
def a17_2 : List AOper := [
  ⟨(some 13), (.mv (.t 0)), none⟩,
  ⟨(some 14), (.nilCheck (.t 13)), none⟩,
  ⟨(some 15), (.fieldAddr 0 (.t 14)), none⟩,
  ⟨(some 16), (.fieldAddr 4 (.t 15)), none⟩,
  ⟨(some 17), (.load false 1 (.t 16)), none⟩,
  ⟨(some 18), (.call 21 [(.t 17), (.c (.int .i64 120))]), none⟩,
  ⟨(some 2), (.mv (.c .nils)), none⟩,
  ⟨(some 3), (.mv (.c (.bool false))), none⟩,
  ⟨(some 4), (.mv (.t 18)), none⟩]
def a17_3 : List AOper := [
  ⟨(some 19), (.mv (.t 0)), none⟩,
  ⟨(some 20), (.nilCheck (.t 19)), none⟩,
  ⟨(some 21), (.fieldAddr 0 (.t 20)), none⟩,
  ⟨(some 22), (.fieldAddr 0 (.t 21)), none⟩,
  ⟨(some 23), (.load false 1 (.t 22)), none⟩,
  ⟨(some 5), (.mv (.t 23)), none⟩]
def a17_4 : List AOper := [
  ⟨(some 24), (.mv (.t 5)), none⟩,
  ⟨(some 25), (.mv (.t 0)), none⟩,
  ⟨(some 26), (.nilCheck (.t 25)), none⟩,
  ⟨(some 27), (.fieldAddr 6 (.t 26)), none⟩,
  ⟨(some 28), (.load false 1 (.t 27)), none⟩,
  ⟨(some 29), (.call 22 [(.t 24), (.t 28), (.c (.int .i64 0))]), none⟩,
  ⟨(some 6), (.mv (.t 29)), none⟩]
def a17_5 : List AOper := [
  ⟨(some 30), (.mv (.t 6)), none⟩,
  ⟨(some 31), (.mv (.t 5)), none⟩,
  ⟨(some 32), (.call 20 [(.t 31)]), none⟩,
  ⟨(some 33), (.bin .gtr (.t 30) (.t 32)), none⟩]
def a17_6 : List AOper := [
  ⟨(some 34), (.mv (.t 0)), none⟩,
  ⟨(some 35), (.nilCheck (.t 34)), none⟩,
  ⟨(some 36), (.fieldAddr 0 (.t 35)), none⟩,
  ⟨(some 37), (.fieldAddr 5 (.t 36)), none⟩,
  ⟨none, (.store 1 (.t 37) (.c (.bool true))), none⟩]
def a17_7 : List AOper := [
  ⟨(some 38), (.mv (.t 0)), none⟩,
  ⟨(some 39), (.nilCheck (.t 38)), none⟩,
  ⟨(some 40), (.fieldAddr 0 (.t 39)), none⟩,
  ⟨(some 41), (.fieldAddr 4 (.t 40)), none⟩,
  ⟨(some 42), (.load false 1 (.t 41)), none⟩,
  ⟨(some 43), (.call 21 [(.t 42), (.c (.int .i64 120))]), none⟩,
  ⟨(some 2), (.mv (.c .nils)), none⟩,
  ⟨(some 3), (.mv (.c (.bool false))), none⟩,
  ⟨(some 4), (.mv (.t 43)), none⟩]
def a17_8 : List AOper := [
  ⟨(some 44), (.mv (.t 6)), none⟩,
  ⟨(some 45), (.bin .lss (.t 44) (.c (.int .i64 0))), none⟩,
  ⟨(some 46), (.mv (.t 45)), none⟩,
  ⟨(some 47), (.mv (.t 0)), (some (46, false))⟩,
  ⟨(some 48), (.nilCheck (.t 47)), (some (46, false))⟩,
  ⟨(some 49), (.fieldAddr 6 (.t 48)), (some (46, false))⟩,
  ⟨(some 50), (.load false 1 (.t 49)), (some (46, false))⟩,
  ⟨(some 51), (.len false (.t 50)), (some (46, false))⟩,
  ⟨(some 52), (.mv (.t 5)), (some (46, false))⟩,
  ⟨(some 53), (.bin .sub (.t 51) (.t 52)), (some (46, false))⟩,
  ⟨(some 54), (.mv (.t 6)), (some (46, false))⟩,
  ⟨(some 55), (.bin .lss (.t 53) (.t 54)), (some (46, false))⟩,
  ⟨(some 56), (.pick (.t 46) (.c (.bool true)) (.t 55)), none⟩]
def a17_9 : List AOper := [
  ⟨(some 2), (.mv (.c .nils)), none⟩,
  ⟨(some 3), (.mv (.c (.bool false))), none⟩,
  ⟨(some 4), (.mv (.c .nils)), none⟩]
def a17_10 : List AOper := [
  ⟨(some 57), (.lit true 1 0 [] []), none⟩,
  ⟨(some 58), (.mv (.t 0)), none⟩,
  ⟨(some 59), (.nilCheck (.t 58)), none⟩,
  ⟨(some 60), (.fieldAddr 6 (.t 59)), none⟩,
  ⟨(some 61), (.load false 1 (.t 60)), none⟩,
  ⟨(some 62), (.mv (.t 5)), none⟩,
  ⟨(some 63), (.mv (.t 5)), none⟩,
  ⟨(some 64), (.mv (.t 6)), none⟩,
  ⟨(some 65), (.bin .add (.t 63) (.t 64)), none⟩,
  ⟨(some 66), (.slice 1 (.t 61) (some (.t 62)) (some (.t 65)) none), none⟩,
  ⟨(some 67), (.append 1 1 (.t 57) (.t 66)), none⟩,
  ⟨(some 7), (.mv (.t 67)), none⟩]
def a17_11 : List AOper := [
  ⟨(some 68), (.mv (.t 0)), none⟩,
  ⟨(some 69), (.mv (.t 0)), none⟩,
  ⟨(some 70), (.nilCheck (.t 69)), none⟩,
  ⟨(some 71), (.fieldAddr 6 (.t 70)), none⟩,
  ⟨(some 72), (.load false 1 (.t 71)), none⟩,
  ⟨(some 73), (.mv (.t 5)), none⟩,
  ⟨(some 74), (.mv (.t 6)), none⟩,
  ⟨(some 75), (.bin .add (.t 73) (.t 74)), none⟩,
  ⟨(some 76), (.slice 1 (.t 72) (some (.t 75)) none none), none⟩,
  ⟨(some 77), (.nilCheck (.t 68)), none⟩,
  ⟨(some 78), (.fieldAddr 6 (.t 77)), none⟩,
  ⟨none, (.store 1 (.t 78) (.t 76)), none⟩]
def a17_12 : List AOper := [
  ⟨(some 79), (.mv (.t 0)), none⟩,
  ⟨(some 80), (.mv (.t 0)), none⟩,
  ⟨(some 81), (.nilCheck (.t 80)), none⟩,
  ⟨(some 82), (.fieldAddr 6 (.t 81)), none⟩,
  ⟨(some 83), (.load false 1 (.t 82)), none⟩,
  ⟨(some 84), (.len false (.t 83)), none⟩,
  ⟨(some 85), (.nilCheck (.t 79)), none⟩,
  ⟨(some 86), (.fieldAddr 0 (.t 85)), none⟩,
  ⟨(some 87), (.fieldAddr 1 (.t 86)), none⟩,
  ⟨none, (.store 1 (.t 87) (.t 84)), none⟩]
def a17_13 : List AOper := [
  ⟨(some 88), (.mv (.t 0)), none⟩,
  ⟨(some 89), (.nilCheck (.t 88)), none⟩,
  ⟨(some 90), (.fieldAddr 0 (.t 89)), none⟩,
  ⟨(some 91), (.fieldAddr 2 (.t 90)), none⟩,
  ⟨(some 92), (.load false 1 (.t 91)), none⟩,
  ⟨(some 93), (.bin .add (.t 92) (.c (.int .i64 1))), none⟩,
  ⟨(some 94), (.nilCheck (.t 88)), none⟩,
  ⟨(some 95), (.fieldAddr 0 (.t 94)), none⟩,
  ⟨(some 96), (.fieldAddr 2 (.t 95)), none⟩,
  ⟨none, (.store 1 (.t 96) (.t 93)), none⟩]
def a17_14 : List AOper := [
  ⟨(some 97), (.mv (.t 0)), none⟩,
  ⟨(some 98), (.mv (.t 0)), none⟩,
  ⟨(some 99), (.nilCheck (.t 98)), none⟩,
  ⟨(some 100), (.fieldAddr 0 (.t 99)), none⟩,
  ⟨(some 101), (.fieldAddr 4 (.t 100)), none⟩,
  ⟨(some 102), (.load false 1 (.t 101)), none⟩,
  ⟨(some 103), (.mv (.t 5)), none⟩,
  ⟨(some 104), (.bin .add (.t 102) (.t 103)), none⟩,
  ⟨(some 105), (.mv (.t 6)), none⟩,
  ⟨(some 106), (.bin .add (.t 104) (.t 105)), none⟩,
  ⟨(some 107), (.nilCheck (.t 97)), none⟩,
  ⟨(some 108), (.fieldAddr 0 (.t 107)), none⟩,
  ⟨(some 109), (.fieldAddr 4 (.t 108)), none⟩,
  ⟨none, (.store 1 (.t 109) (.t 106)), none⟩]
def a17_15 : List AOper := [
  ⟨(some 110), (.mv (.t 5)), none⟩,
  ⟨(some 111), (.bin .eql (.t 110) (.c (.int .i64 4))), none⟩,
  ⟨(some 112), (.mv (.t 111)), none⟩,
  ⟨(some 113), (.mv (.t 6)), (some (112, true))⟩,
  ⟨(some 114), (.bin .eql (.t 113) (.c (.int .i64 0))), (some (112, true))⟩,
  ⟨(some 115), (.pick (.t 112) (.t 114) (.c (.bool false))), none⟩]
def a17_16 : List AOper := [
  ⟨(some 116), (.mv (.t 0)), none⟩,
  ⟨(some 117), (.nilCheck (.t 116)), none⟩,
  ⟨(some 118), (.fieldAddr 0 (.t 117)), none⟩,
  ⟨(some 119), (.fieldAddr 3 (.t 118)), none⟩,
  ⟨(some 120), (.load false 1 (.t 119)), none⟩,
  ⟨(some 121), (.bin .add (.t 120) (.c (.int .i64 1))), none⟩,
  ⟨(some 122), (.nilCheck (.t 116)), none⟩,
  ⟨(some 123), (.fieldAddr 0 (.t 122)), none⟩,
  ⟨(some 124), (.fieldAddr 3 (.t 123)), none⟩,
  ⟨none, (.store 1 (.t 124) (.t 121)), none⟩]
def a17_17 : List AOper := [
  ⟨(some 125), (.mv (.t 7)), none⟩,
  ⟨(some 2), (.mv (.t 125)), none⟩,
  ⟨(some 3), (.mv (.c (.bool true))), none⟩,
  ⟨(some 4), (.mv (.c .nils)), none⟩]
def a17 : AFunc := ⟨[.tmp 2, .tmp 3, .tmp 4], (.seq (.ops a17_0) (.seq (.seq (.ops a17_1) (.cond (.t 12) (.seq (.ops a17_2) .ret) .skip)) (.seq (.ops a17_3) (.seq (.ops a17_4) (.seq (.seq (.ops a17_5) (.cond (.t 33) (.seq (.ops a17_6) (.seq (.ops a17_7) .ret)) .skip)) (.seq (.seq (.ops a17_8) (.cond (.t 56) (.seq (.ops a17_9) .ret) .skip)) (.seq (.ops a17_10) (.seq (.ops a17_11) (.seq (.ops a17_12) (.seq (.ops a17_13) (.seq (.ops a17_14) (.seq (.seq (.ops a17_15) (.cond (.t 115) (.ops a17_16) .skip)) (.seq (.ops a17_17) .ret)))))))))))))⟩
/-! ### 12: (*heddle/frame.Reader).State (10 slots) -/
def a12_0 : List AOper := [
  ⟨(some 2), (.alloc [(.int .i64 0), (.int .i64 0), (.int .i64 0), (.int .i64 0), (.int .i64 0), (.bool false)]), none⟩]
def a12_1 : List AOper := [
  ⟨(some 3), (.mv (.t 0)), none⟩,
  ⟨(some 4), (.eq false .ptr (.t 3) (.c .nilp)), none⟩]
def a12_2 : List AOper := [
  ⟨(some 5), (.build [(.int .i64 0), (.int .i64 0), (.int .i64 0), (.int .i64 0), (.int .i64 0), (.bool false)] []), none⟩,
  ⟨none, (.store 6 (.t 2) (.t 5)), none⟩]
def a12_3 : List AOper := [
  ⟨(some 6), (.mv (.t 0)), none⟩,
  ⟨(some 7), (.nilCheck (.t 6)), none⟩,
  ⟨(some 8), (.fieldAddr 0 (.t 7)), none⟩,
  ⟨(some 9), (.load true 6 (.t 8)), none⟩,
  ⟨none, (.store 6 (.t 2) (.t 9)), none⟩]
def a12 : AFunc := ⟨[.cell 2 true 6], (.seq (.ops a12_0) (.seq (.seq (.ops a12_1) (.cond (.t 4) (.seq (.ops a12_2) .ret) .skip)) (.seq (.ops a12_3) .ret)))⟩
/-! ### 18: heddle/frame.greatest (8 slots) -/
def a18_0 : List AOper := [
  ⟨(some 2), (.mv (.c (.int .i64 0))), none⟩]
def a18_1 : List AOper := [
  ⟨(some 3), (.mv (.t 0)), none⟩]
def a18_2 : List AOper := [
  ⟨(some 5), (.bin .eql (.t 3) (.c (.int .i64 2))), none⟩,
  ⟨(some 4), (.mv (.t 5)), none⟩]
def a18_3 : List AOper := [
  ⟨(some 2), (.mv (.c (.int .i64 1024))), none⟩]
def a18_4 : List AOper := [
  ⟨(some 7), (.bin .eql (.t 3) (.c (.int .i64 4))), none⟩,
  ⟨(some 6), (.mv (.t 7)), none⟩]
def a18_5 : List AOper := [
  ⟨(some 2), (.mv (.c (.int .i64 131072))), none⟩]
def a18_6 : List AOper := [
  ⟨(some 2), (.mv (.c (.int .i64 0))), none⟩]
def a18 : AFunc := ⟨[.tmp 2], (.seq (.ops a18_0) (.seq (.seq (.ops a18_1) (.block 0 (.seq (.ops a18_2) (.cond (.t 4) (.seq (.ops a18_3) .ret) (.seq (.ops a18_4) (.cond (.t 6) (.seq (.ops a18_5) .ret) .skip)))))) (.seq (.ops a18_6) .ret)))⟩
/-! ### 19: heddle/frame.fault (10 slots) -/
def a19_0 : List AOper := [
  ⟨(some 4), (.mv (.c .nili)), none⟩]
def a19_1 : List AOper := [
  ⟨(some 5), (.mv (.t 0)), none⟩,
  ⟨(some 6), (.mv (.t 1)), none⟩,
  ⟨(some 7), (.build [(.str []), (.int .i64 0), (.int .i64 0), .nili] [(0, 1, (.c (.str [102, 114, 97, 109, 101]))), (1, 1, (.t 5)), (2, 1, (.t 6))]), none⟩,
  ⟨(some 8), (.box true 4 (.t 7)), none⟩,
  ⟨(some 9), (.mkIface 71 (.t 8)), none⟩,
  ⟨(some 4), (.mv (.t 9)), none⟩]
def a19 : AFunc := ⟨[.tmp 4], (.seq (.ops a19_0) (.seq (.ops a19_1) .ret))⟩
/-! ### 24: heddle/frame.length (23 slots) -/
def a24_0 : List AOper := [
  ⟨(some 4), (.mv (.c (.int .i64 0))), none⟩]
def a24_1 : List AOper := [
  ⟨(some 5), (.mv (.c (.int .i64 0))), none⟩]
def a24_2 : List AOper := [
  ⟨(some 8), (.mv (.t 1)), none⟩,
  ⟨(some 9), (.mv (.t 0)), none⟩,
  ⟨(some 10), (.slice 1 (.t 8) none (some (.t 9)) none), none⟩,
  ⟨(some 11), (.len false (.t 10)), none⟩,
  ⟨(some 12), (.mv (.c (.int .i64 0))), none⟩]
def a24_3 : List AOper := [
  ⟨(some 13), (.bin .lss (.t 12) (.t 11)), none⟩]
def a24_4 : List AOper := [
  ⟨(some 14), (.idxAddr 1 (.t 10) (.t 12)), none⟩,
  ⟨(some 15), (.load false 1 (.t 14)), none⟩,
  ⟨(some 7), (.mv (.t 15)), none⟩]
def a24_5 : List AOper := [
  ⟨(some 16), (.mv (.t 5)), none⟩,
  ⟨(some 17), (.bin .shl (.t 16) (.c (.int .u64 8))), none⟩,
  ⟨(some 18), (.mv (.t 7)), none⟩,
  ⟨(some 19), (.conv (.int .i64) (.t 18)), none⟩,
  ⟨(some 20), (.bin .or (.t 17) (.t 19)), none⟩,
  ⟨(some 5), (.mv (.t 20)), none⟩]
def a24_6 : List AOper := [
  ⟨(some 21), (.bin .add (.t 12) (.c (.int .i64 1))), none⟩,
  ⟨(some 12), (.mv (.t 21)), none⟩]
def a24_l7 : AC := (.seq (.ops a24_3) (.seq (.cond (.t 13) .skip (.exit 0)) (.seq (.block 1 (.seq (.ops a24_4) (.ops a24_5))) (.ops a24_6))))
def a24_8 : List AOper := [
  ⟨(some 22), (.mv (.t 5)), none⟩,
  ⟨(some 4), (.mv (.t 22)), none⟩]
def a24 : AFunc := ⟨[.tmp 4], (.seq (.ops a24_0) (.seq (.ops a24_1) (.seq (.seq (.ops a24_2) (.block 0 (.loop a24_l7))) (.seq (.ops a24_8) .ret))))⟩
/-! ### 23: (*heddle/frame.Reader).ready (25 slots) -/
def a23_0 : List AOper := [
  ⟨(some 2), (.mv (.c .nili)), none⟩]
def a23_1 : List AOper := [
  ⟨(some 3), (.mv (.t 0)), none⟩,
  ⟨(some 4), (.eq false .ptr (.t 3) (.c .nilp)), none⟩,
  ⟨(some 5), (.mv (.t 4)), none⟩,
  ⟨(some 6), (.mv (.t 0)), (some (5, false))⟩,
  ⟨(some 7), (.nilCheck (.t 6)), (some (5, false))⟩,
  ⟨(some 8), (.fieldAddr 0 (.t 7)), (some (5, false))⟩,
  ⟨(some 9), (.fieldAddr 0 (.t 8)), (some (5, false))⟩,
  ⟨(some 10), (.load false 1 (.t 9)), (some (5, false))⟩,
  ⟨(some 11), (.bin .eql (.t 10) (.c (.int .i64 0))), (some (5, false))⟩,
  ⟨(some 12), (.pick (.t 5) (.c (.bool true)) (.t 11)), none⟩]
def a23_2 : List AOper := [
  ⟨(some 13), (.call 19 [(.c (.int .i64 0)), (.c (.int .i64 3))]), none⟩,
  ⟨(some 2), (.mv (.t 13)), none⟩]
def a23_3 : List AOper := [
  ⟨(some 14), (.mv (.t 0)), none⟩,
  ⟨(some 15), (.nilCheck (.t 14)), none⟩,
  ⟨(some 16), (.fieldAddr 0 (.t 15)), none⟩,
  ⟨(some 17), (.fieldAddr 5 (.t 16)), none⟩,
  ⟨(some 18), (.load false 1 (.t 17)), none⟩]
def a23_4 : List AOper := [
  ⟨(some 19), (.mv (.t 0)), none⟩,
  ⟨(some 20), (.nilCheck (.t 19)), none⟩,
  ⟨(some 21), (.fieldAddr 0 (.t 20)), none⟩,
  ⟨(some 22), (.fieldAddr 4 (.t 21)), none⟩,
  ⟨(some 23), (.load false 1 (.t 22)), none⟩,
  ⟨(some 24), (.call 19 [(.t 23), (.c (.int .i64 120))]), none⟩,
  ⟨(some 2), (.mv (.t 24)), none⟩]
def a23_5 : List AOper := [
  ⟨(some 2), (.mv (.c .nili)), none⟩]
def a23 : AFunc := ⟨[.tmp 2], (.seq (.ops a23_0) (.seq (.seq (.ops a23_1) (.cond (.t 12) (.seq (.ops a23_2) .ret) .skip)) (.seq (.seq (.ops a23_3) (.cond (.t 18) (.seq (.ops a23_4) .ret) .skip)) (.seq (.ops a23_5) .ret))))⟩
/-! ### 20: heddle/heddleref06.greatest (8 slots) -/
def a20_0 : List AOper := [
  ⟨(some 2), (.mv (.c (.int .i64 0))), none⟩]
def a20_1 : List AOper := [
  ⟨(some 3), (.mv (.t 0)), none⟩]
def a20_2 : List AOper := [
  ⟨(some 5), (.bin .eql (.t 3) (.c (.int .i64 2))), none⟩,
  ⟨(some 4), (.mv (.t 5)), none⟩]
def a20_3 : List AOper := [
  ⟨(some 2), (.mv (.c (.int .i64 1024))), none⟩]
def a20_4 : List AOper := [
  ⟨(some 7), (.bin .eql (.t 3) (.c (.int .i64 4))), none⟩,
  ⟨(some 6), (.mv (.t 7)), none⟩]
def a20_5 : List AOper := [
  ⟨(some 2), (.mv (.c (.int .i64 131072))), none⟩]
def a20_6 : List AOper := [
  ⟨(some 2), (.mv (.c (.int .i64 (-1)))), none⟩]
def a20 : AFunc := ⟨[.tmp 2], (.seq (.ops a20_0) (.seq (.seq (.ops a20_1) (.block 0 (.seq (.ops a20_2) (.cond (.t 4) (.seq (.ops a20_3) .ret) (.seq (.ops a20_4) (.cond (.t 6) (.seq (.ops a20_5) .ret) .skip)))))) (.seq (.ops a20_6) .ret)))⟩
/-! ### 21: heddle/heddleref06.no (8 slots) -/
def a21_0 : List AOper := [
  ⟨(some 4), (.mv (.c .nils)), none⟩]
def a21_1 : List AOper := [
  ⟨(some 5), (.mv (.t 0)), none⟩,
  ⟨(some 6), (.mv (.t 1)), none⟩,
  ⟨(some 7), (.call 25 [(.c (.str [102, 114, 97, 109, 101])), (.t 5), (.t 6)]), none⟩,
  ⟨(some 4), (.mv (.t 7)), none⟩]
def a21 : AFunc := ⟨[.tmp 4], (.seq (.ops a21_0) (.seq (.ops a21_1) .ret))⟩
/-! ### 22: heddle/heddleref06.length (31 slots) -/
def a22_0 : List AOper := [
  ⟨(some 6), (.mv (.c (.int .i64 0))), none⟩]
def a22_1 : List AOper := [
  ⟨(some 9), (.mv (.t 1)), none⟩,
  ⟨(some 10), (.len false (.t 9)), none⟩,
  ⟨(some 11), (.mv (.t 2)), none⟩,
  ⟨(some 12), (.bin .sub (.t 10) (.t 11)), none⟩,
  ⟨(some 13), (.mv (.t 0)), none⟩,
  ⟨(some 14), (.bin .lss (.t 12) (.t 13)), none⟩]
def a22_2 : List AOper := [
  ⟨(some 6), (.mv (.c (.int .i64 (-1)))), none⟩]
def a22_3 : List AOper := [
  ⟨(some 7), (.mv (.c (.int .i64 0))), none⟩]
def a22_4 : List AOper := [
  ⟨(some 8), (.mv (.c (.int .i64 0))), none⟩]
def a22_5 : List AOper := [
  ⟨(some 15), (.mv (.t 8)), none⟩,
  ⟨(some 16), (.mv (.t 0)), none⟩,
  ⟨(some 17), (.bin .lss (.t 15) (.t 16)), none⟩]
def a22_6 : List AOper := [
  ⟨(some 20), (.mv (.t 7)), none⟩,
  ⟨(some 21), (.bin .mul (.t 20) (.c (.int .i64 256))), none⟩,
  ⟨(some 22), (.mv (.t 1)), none⟩,
  ⟨(some 23), (.mv (.t 2)), none⟩,
  ⟨(some 24), (.mv (.t 8)), none⟩,
  ⟨(some 25), (.bin .add (.t 23) (.t 24)), none⟩,
  ⟨(some 26), (.idxAddr 1 (.t 22) (.t 25)), none⟩,
  ⟨(some 27), (.load false 1 (.t 26)), none⟩,
  ⟨(some 28), (.conv (.int .i64) (.t 27)), none⟩,
  ⟨(some 29), (.bin .add (.t 21) (.t 28)), none⟩,
  ⟨(some 7), (.mv (.t 29)), none⟩]
def a22_7 : List AOper := [
  ⟨(some 18), (.mv (.t 8)), none⟩,
  ⟨(some 19), (.bin .add (.t 18) (.c (.int .i64 1))), none⟩,
  ⟨(some 8), (.mv (.t 19)), none⟩]
def a22_l8 : AC := (.seq (.seq (.ops a22_5) (.cond (.t 17) .skip (.exit 0))) (.seq (.block 1 (.ops a22_6)) (.ops a22_7)))
def a22_9 : List AOper := [
  ⟨(some 30), (.mv (.t 7)), none⟩,
  ⟨(some 6), (.mv (.t 30)), none⟩]
def a22 : AFunc := ⟨[.tmp 6], (.seq (.ops a22_0) (.seq (.seq (.ops a22_1) (.cond (.t 14) (.seq (.ops a22_2) .ret) .skip)) (.seq (.ops a22_3) (.seq (.seq (.ops a22_4) (.block 0 (.loop a22_l8))) (.seq (.ops a22_9) .ret)))))⟩
/-! ### 25: heddle/heddlemem.One (12 slots) -/
def a25_0 : List AOper := [
  ⟨(some 6), (.mv (.c .nils)), none⟩]
def a25_1 : List AOper := [
  ⟨(some 7), (.mv (.t 0)), none⟩,
  ⟨(some 8), (.mv (.t 1)), none⟩,
  ⟨(some 9), (.mv (.t 2)), none⟩,
  ⟨(some 10), (.build [(.str []), (.int .i64 0), (.int .i64 0)] [(0, 1, (.t 7)), (1, 1, (.t 8)), (2, 1, (.t 9))]), none⟩,
  ⟨(some 11), (.lit true 3 1 [(.str []), (.int .i64 0), (.int .i64 0)] [(0, 3, (.t 10))]), none⟩,
  ⟨(some 6), (.mv (.t 11)), none⟩]
def a25 : AFunc := ⟨[.tmp 6], (.seq (.ops a25_0) (.seq (.ops a25_1) .ret))⟩

def func (n : Nat) : Option AFunc := match n with
  | 3 => some a3
  | 4 => some a4
  | 5 => some a5
  | 6 => some a6
  | 7 => some a7
  | 8 => some a8
  | 9 => some a9
  | 10 => some a10
  | 11 => some a11
  | 12 => some a12
  | 13 => some a13
  | 14 => some a14
  | 15 => some a15
  | 16 => some a16
  | 17 => some a17
  | 18 => some a18
  | 19 => some a19
  | 20 => some a20
  | 21 => some a21
  | 22 => some a22
  | 23 => some a23
  | 24 => some a24
  | 25 => some a25
  | _ => none

def env : Env := { func := func, glob := fun _ => none, pure_ := fun n => n == 7 || n == 18 || n == 19 || n == 20 || n == 21 || n == 25, prim := fun _ => none }
end Go.Fr
